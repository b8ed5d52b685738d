/-
  NARROWER THAN 'FOR EVERY INPUT', by the rows' own cells (each row's printed sentence says how): EvalDo: loops · EvalMore: loops · EvalTypes: loops · EvalAll: loops · EvalEach: loops · EvalOwn: loops.
  DERIVED. THE GIVEN ROWS OF THIS SEAT. 6 by the template 'for every input the law returns true; each argument reads behind the call as it read before'; 0 by the template 'total and deterministic' (their statements: YtmnnmjbjcdjglaaTotals.lean).
  GIVEN WITH THE SEED: the statements are not yours to turn. If you find one false, say at which input.
  Laid BY PROGRAM, IN A SANDBOX (cutbox-rows.mjs): the forced cells as the released guide's own fill.sh prints them over the translation fdde45070f684f8a… (all of the seat's roots in one cut). By AI agents, Wed Nov 11 2026. No macro, syntax, notation, axiom, sorry.
-/
import Derived.Test.YtmnnmjbjcdjglaaChecked
import GoSem.Claim
import GoSem.ClaimJoined
import GoSem.ClaimMapViews
import Derived.JoinedTies
import Derived.KernelRfl
namespace Go.Proofs.Ytmnnmjbjcdjglaa
/- THE CELL 'sum', in the pinned program and in every row, IS THE sha256 OF THE DUMP (.gsa) THAT YtmnnmjbjcdjglaaProg.lean LOADS. Nothing in Lean hashes anything: it is a label: what it is worth is what the hold of that sum in a sandbox is worth. -/
noncomputable def Try.pinned : Pinned := { name := "ytmnnmjbjcdjglaa", sum := "fdde45070f684f8aa9d36f6c9d36e3dc9279dad552c94a64b80139af03fc0a30", checked := Try.checked }
namespace Rows
def none {H : Type} : Left H := { results := [], args := [] }

/-- 'virgationlaw26.EvalDo': WHATEVER THE INPUT: true; the input reads as it did. -/
def evalDoSpec : ChangeSpec := { name := "evalDo", fn := fun _ => fun
  | [d1, d2, d3] => { results := [.lit (.bool true)], args := [d1, d2, d3] }
  | _ => none }
def evalDoRow : OpenClaim := { program := "ytmnnmjbjcdjglaa", sum := "fdde45070f684f8aa9d36f6c9d36e3dc9279dad552c94a64b80139af03fc0a30", func := "virgation/virgationlaw26.EvalDo", spec := "evalDo", unfollowed := true, recurses := true, loops := true, apart := false }
def EvalDoSaid : Prop := evalDoRow.holds Try.pinned (OpenSpec.ofChange evalDoSpec)

/-- ITS FALSE NEIGHBOUR: 'it returns false'. Refute it at one input. -/
def evalDoWrong : ChangeSpec := { name := "evalDo", fn := fun _ => fun
  | [d1, d2, d3] => { results := [.lit (.bool false)], args := [d1, d2, d3] }
  | _ => none }
def EvalDoWrongFalsely : Prop := evalDoRow.holds Try.pinned (OpenSpec.ofChange evalDoWrong)

/-- 'virgationlaw26.EvalMore': WHATEVER THE INPUT: true; the input reads as it did. -/
def evalMoreSpec : ChangeSpec := { name := "evalMore", fn := fun _ => fun
  | [d1, d2, d3, d4, d5] => { results := [.lit (.bool true)], args := [d1, d2, d3, d4, d5] }
  | _ => none }
def evalMoreRow : OpenClaim := { program := "ytmnnmjbjcdjglaa", sum := "fdde45070f684f8aa9d36f6c9d36e3dc9279dad552c94a64b80139af03fc0a30", func := "virgation/virgationlaw26.EvalMore", spec := "evalMore", unfollowed := true, recurses := true, loops := true, apart := false }
def EvalMoreSaid : Prop := evalMoreRow.holds Try.pinned (OpenSpec.ofChange evalMoreSpec)

/-- ITS FALSE NEIGHBOUR: 'it returns false'. Refute it at one input. -/
def evalMoreWrong : ChangeSpec := { name := "evalMore", fn := fun _ => fun
  | [d1, d2, d3, d4, d5] => { results := [.lit (.bool false)], args := [d1, d2, d3, d4, d5] }
  | _ => none }
def EvalMoreWrongFalsely : Prop := evalMoreRow.holds Try.pinned (OpenSpec.ofChange evalMoreWrong)

/-- 'virgationlaw26.EvalTypes': WHATEVER THE INPUT: true; the input reads as it did. -/
def evalTypesSpec : ChangeSpec := { name := "evalTypes", fn := fun _ => fun
  | [d1, d2, d3] => { results := [.lit (.bool true)], args := [d1, d2, d3] }
  | _ => none }
def evalTypesRow : OpenClaim := { program := "ytmnnmjbjcdjglaa", sum := "fdde45070f684f8aa9d36f6c9d36e3dc9279dad552c94a64b80139af03fc0a30", func := "virgation/virgationlaw26.EvalTypes", spec := "evalTypes", unfollowed := true, recurses := true, loops := true, apart := false }
def EvalTypesSaid : Prop := evalTypesRow.holds Try.pinned (OpenSpec.ofChange evalTypesSpec)

/-- ITS FALSE NEIGHBOUR: 'it returns false'. Refute it at one input. -/
def evalTypesWrong : ChangeSpec := { name := "evalTypes", fn := fun _ => fun
  | [d1, d2, d3] => { results := [.lit (.bool false)], args := [d1, d2, d3] }
  | _ => none }
def EvalTypesWrongFalsely : Prop := evalTypesRow.holds Try.pinned (OpenSpec.ofChange evalTypesWrong)

/-- 'virgationlaw26.EvalAll': WHATEVER THE INPUT: true; the input reads as it did. -/
def evalAllSpec : ChangeSpec := { name := "evalAll", fn := fun _ => fun
  | [d1, d2, d3] => { results := [.lit (.bool true)], args := [d1, d2, d3] }
  | _ => none }
def evalAllRow : OpenClaim := { program := "ytmnnmjbjcdjglaa", sum := "fdde45070f684f8aa9d36f6c9d36e3dc9279dad552c94a64b80139af03fc0a30", func := "virgation/virgationlaw26.EvalAll", spec := "evalAll", unfollowed := true, recurses := true, loops := true, apart := false }
def EvalAllSaid : Prop := evalAllRow.holds Try.pinned (OpenSpec.ofChange evalAllSpec)

/-- ITS FALSE NEIGHBOUR: 'it returns false'. Refute it at one input. -/
def evalAllWrong : ChangeSpec := { name := "evalAll", fn := fun _ => fun
  | [d1, d2, d3] => { results := [.lit (.bool false)], args := [d1, d2, d3] }
  | _ => none }
def EvalAllWrongFalsely : Prop := evalAllRow.holds Try.pinned (OpenSpec.ofChange evalAllWrong)

/-- 'virgationlaw26.EvalEach': WHATEVER THE INPUT: true; the input reads as it did. -/
def evalEachSpec : ChangeSpec := { name := "evalEach", fn := fun _ => fun
  | [d1, d2, d3] => { results := [.lit (.bool true)], args := [d1, d2, d3] }
  | _ => none }
def evalEachRow : OpenClaim := { program := "ytmnnmjbjcdjglaa", sum := "fdde45070f684f8aa9d36f6c9d36e3dc9279dad552c94a64b80139af03fc0a30", func := "virgation/virgationlaw26.EvalEach", spec := "evalEach", unfollowed := true, recurses := true, loops := true, apart := false }
def EvalEachSaid : Prop := evalEachRow.holds Try.pinned (OpenSpec.ofChange evalEachSpec)

/-- ITS FALSE NEIGHBOUR: 'it returns false'. Refute it at one input. -/
def evalEachWrong : ChangeSpec := { name := "evalEach", fn := fun _ => fun
  | [d1, d2, d3] => { results := [.lit (.bool false)], args := [d1, d2, d3] }
  | _ => none }
def EvalEachWrongFalsely : Prop := evalEachRow.holds Try.pinned (OpenSpec.ofChange evalEachWrong)

/-- 'virgationlaw26.EvalOwn': WHATEVER THE INPUT: true; the input reads as it did. -/
def evalOwnSpec : ChangeSpec := { name := "evalOwn", fn := fun _ => fun
  | [d1, d2, d3, d4] => { results := [.lit (.bool true)], args := [d1, d2, d3, d4] }
  | _ => none }
def evalOwnRow : OpenClaim := { program := "ytmnnmjbjcdjglaa", sum := "fdde45070f684f8aa9d36f6c9d36e3dc9279dad552c94a64b80139af03fc0a30", func := "virgation/virgationlaw26.EvalOwn", spec := "evalOwn", unfollowed := true, recurses := true, loops := true, apart := false }
def EvalOwnSaid : Prop := evalOwnRow.holds Try.pinned (OpenSpec.ofChange evalOwnSpec)

/-- ITS FALSE NEIGHBOUR: 'it returns false'. Refute it at one input. -/
def evalOwnWrong : ChangeSpec := { name := "evalOwn", fn := fun _ => fun
  | [d1, d2, d3, d4] => { results := [.lit (.bool false)], args := [d1, d2, d3, d4] }
  | _ => none }
def EvalOwnWrongFalsely : Prop := evalOwnRow.holds Try.pinned (OpenSpec.ofChange evalOwnWrong)

/- THE SECOND FORM. 'bulk': how many values and letters a reading holds, each counted each time it is reached (what is shared counts as often as it is met; a slice's spare places count too). A statement '..UptoSaid' is the law's where the arguments, and the package variables that the reading takes, are together of bulk at most 1048576: NARROWER than '..Said'. Prove '..Said' where nothing that the law and all that it calls make is longer than what came in: it says more and counts as full. Else prove '..UptoSaid'. A law counts once. -/
mutual
def uptoBulk {H : Type} : DataW H → Nat
  | .lit (.string bytes) => bytes.length + 1
  | .lit _ => 1
  | .nil => 1
  | .ptr d => uptoBulk d + 1
  | .slice elems spare => uptoBulkAll elems + uptoBulkAll spare + 1
  | .agg parts => uptoBulkAll parts + 1
  | .iface _ d => uptoBulk d + 1
  | .map entries => uptoBulkEntries entries + 1
  | .held _ => 1
def uptoBulkAll {H : Type} : List (DataW H) → Nat
  | [] => 0
  | d :: r => uptoBulk d + uptoBulkAll r
def uptoBulkEntries {H : Type} : List (Lit × DataW H) → Nat
  | [] => 0
  | x :: r => uptoBulkEntry x + uptoBulkEntries r
def uptoBulkEntry {H : Type} : Lit × DataW H → Nat
  | (.string bytes, d) => bytes.length + uptoBulk d + 1
  | (_, d) => uptoBulk d + 1
 end
def uptoSmall : (H : Type) → List (DataW H) → Bool := fun _ ds => decide (uptoBulkAll ds ≤ 1048576)
def OpenSpec.upto (s : _root_.Go.ChangeSpec) : _root_.Go.OpenSpec := { _root_.Go.OpenSpec.ofChange s with cond := some uptoSmall }

/-- 'virgationlaw26.EvalDo', WHERE WHAT IT READS IS OF BULK AT MOST 1048576: true; the input reads as it did. -/
def evalDoUptoRow : OpenClaim := { program := "ytmnnmjbjcdjglaa", sum := "fdde45070f684f8aa9d36f6c9d36e3dc9279dad552c94a64b80139af03fc0a30", func := "virgation/virgationlaw26.EvalDo", spec := "evalDo", unfollowed := true, recurses := true, loops := true, apart := false, narrowed := true }
def EvalDoUptoSaid : Prop := evalDoUptoRow.holds Try.pinned (OpenSpec.upto evalDoSpec)

/-- 'virgationlaw26.EvalMore', WHERE WHAT IT READS IS OF BULK AT MOST 1048576: true; the input reads as it did. -/
def evalMoreUptoRow : OpenClaim := { program := "ytmnnmjbjcdjglaa", sum := "fdde45070f684f8aa9d36f6c9d36e3dc9279dad552c94a64b80139af03fc0a30", func := "virgation/virgationlaw26.EvalMore", spec := "evalMore", unfollowed := true, recurses := true, loops := true, apart := false, narrowed := true }
def EvalMoreUptoSaid : Prop := evalMoreUptoRow.holds Try.pinned (OpenSpec.upto evalMoreSpec)

/-- 'virgationlaw26.EvalTypes', WHERE WHAT IT READS IS OF BULK AT MOST 1048576: true; the input reads as it did. -/
def evalTypesUptoRow : OpenClaim := { program := "ytmnnmjbjcdjglaa", sum := "fdde45070f684f8aa9d36f6c9d36e3dc9279dad552c94a64b80139af03fc0a30", func := "virgation/virgationlaw26.EvalTypes", spec := "evalTypes", unfollowed := true, recurses := true, loops := true, apart := false, narrowed := true }
def EvalTypesUptoSaid : Prop := evalTypesUptoRow.holds Try.pinned (OpenSpec.upto evalTypesSpec)

/-- 'virgationlaw26.EvalAll', WHERE WHAT IT READS IS OF BULK AT MOST 1048576: true; the input reads as it did. -/
def evalAllUptoRow : OpenClaim := { program := "ytmnnmjbjcdjglaa", sum := "fdde45070f684f8aa9d36f6c9d36e3dc9279dad552c94a64b80139af03fc0a30", func := "virgation/virgationlaw26.EvalAll", spec := "evalAll", unfollowed := true, recurses := true, loops := true, apart := false, narrowed := true }
def EvalAllUptoSaid : Prop := evalAllUptoRow.holds Try.pinned (OpenSpec.upto evalAllSpec)

/-- 'virgationlaw26.EvalEach', WHERE WHAT IT READS IS OF BULK AT MOST 1048576: true; the input reads as it did. -/
def evalEachUptoRow : OpenClaim := { program := "ytmnnmjbjcdjglaa", sum := "fdde45070f684f8aa9d36f6c9d36e3dc9279dad552c94a64b80139af03fc0a30", func := "virgation/virgationlaw26.EvalEach", spec := "evalEach", unfollowed := true, recurses := true, loops := true, apart := false, narrowed := true }
def EvalEachUptoSaid : Prop := evalEachUptoRow.holds Try.pinned (OpenSpec.upto evalEachSpec)

/-- 'virgationlaw26.EvalOwn', WHERE WHAT IT READS IS OF BULK AT MOST 1048576: true; the input reads as it did. -/
def evalOwnUptoRow : OpenClaim := { program := "ytmnnmjbjcdjglaa", sum := "fdde45070f684f8aa9d36f6c9d36e3dc9279dad552c94a64b80139af03fc0a30", func := "virgation/virgationlaw26.EvalOwn", spec := "evalOwn", unfollowed := true, recurses := true, loops := true, apart := false, narrowed := true }
def EvalOwnUptoSaid : Prop := evalOwnUptoRow.holds Try.pinned (OpenSpec.upto evalOwnSpec)

end Rows
end Go.Proofs.Ytmnnmjbjcdjglaa

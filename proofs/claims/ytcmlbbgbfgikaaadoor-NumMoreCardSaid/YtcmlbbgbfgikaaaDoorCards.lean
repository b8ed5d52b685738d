/-
  DERIVED. GIVEN WITH THE SEED: THE CARDS: each row of YtcmlbbgbfgikaaaDoorRows.lean that lists a variable, with what it lists TIED to the program's text (the seventh form; the later family's looks); each row that meets fmt, with fmt's text TOLD by the authors' own Lean function (tested against real Go, not proved from fmt's source: count such statements apart). THE CARD IS WHAT COUNTS. Prove the row's statement (the work); the ties are given (YtcmlbbgbfgikaaaDoorTie.lean); close each card by the builder's one call (the guide's Derived/Test/ToyasCard.lean, 'card_holds'). Laid BY PROGRAM, IN A SANDBOX (cutbox-door.mjs). By AI agents, Wed Nov 11 2026. No macro, syntax, notation, axiom, sorry.
-/
import Derived.Test.YtcmlbbgbfgikaaaDoorRows
import GoSem.ClaimSeven
namespace Go.Proofs.YtcmlbbgbfgikaaaDoor
namespace Rows

/-- THE TIED CARD OF 'virgationlaw30.NumMore'. -/
def numMoreCard : Claim7 := { stood := { row := numMoreRow, standIns := [], harness := (true, "d33b618bf3b7be949d790cea49afda6c67d323da511e4f003ab89814cee96fd9"), looks := true }, kinds := [], alts := [], laidByText := true, laidKinds := [.data, .data, .data, .sentinel, .sentinel], laidTests := true, laidLooks := .later }
def NumMoreCardSaid : Prop := Claim7.holds Tryd.pinned (.plain (OpenSpec.ofChange numMoreSpec)) numMoreCard

/-- THE SECOND FORM's CARD OF 'virgationlaw30.NumMore'. -/
def numMoreUptoCard : Claim7 := { stood := { row := numMoreUptoRow, standIns := [], harness := (true, "d33b618bf3b7be949d790cea49afda6c67d323da511e4f003ab89814cee96fd9"), looks := true }, kinds := [], alts := [], laidByText := true, laidKinds := [.data, .data, .data, .sentinel, .sentinel], laidTests := true, laidLooks := .later }
def NumMoreUptoCardSaid : Prop := Claim7.holds Tryd.pinned (.plain (OpenSpec.upto numMoreSpec)) numMoreUptoCard
end Rows
end Go.Proofs.YtcmlbbgbfgikaaaDoor

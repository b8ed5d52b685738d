/- The abstract executor, part 20: names for loops, and what a proof of a loop, or of a function, is made of. -/
import Derived.Test.YtpcnfjddleceiaaGreatAe19
namespace Go.Ae

def loopsOf : Code → List Code
  | .seq x y => loopsOf x ++ loopsOf y
  | .cond _ x y => loopsOf x ++ loopsOf y
  | .block _ c => loopsOf c
  | .loop c => c :: loopsOf c
  | _ => []

/-- The body of the k-th loop of a function, in the order of the text. -/
def loopN (fn : Func) (k : Nat) : Code :=
  match fn.body with
  | some c => (loopsOf c).getD k .skip
  | none => .skip

def evBody (P : Program) (K : Kinds) (N m : Nat) (c : Code) (orc : List Or) (fin : List Wk) (s : ASt) : Option (Exit × ASt × List Prop) :=
  match evCode P K N m c orc s with
  | some r => match wkA m fin r.s with
    | some s' => some (r.e, s', r.ob)
    | none => none
  | none => none

section
variable {P : Program} {K : Kinds} {N m : Nat} {c : Code} {s s1 s' : ASt} {e : Exit} {ob : List Prop}

theorem evBody_sound {orc : List Or} {fin : List Wk} (h : evBody P K N m c orc fin s = some (e, s', ob)) (hob : AllP ob) : T P N m c s e s' := by
  unfold evBody at h
  split at h
  · rename_i r hr
    split at h
    · rename_i s2 h2
      cases h
      exact (evCode_sound hr hob).post (wkA_weak h2)
    · cases h
  · cases h

/-- One round, and the rounds behind it. -/
theorem Lp.next (K : Kinds) (orc : List Or) (fin : List Wk) (h : evBody P K N m c orc fin s = some (.normal, s1, ob)) (hob : AllP ob) (k : Lp P N m c s1 e s') : Lp P N m c s e s' :=
  Lp.more (evBody_sound h hob) k

/-- The last round. -/
theorem Lp.last (K : Kinds) (orc : List Or) (fin : List Wk) (h : evBody P K N m c orc fin s = some (e, s', ob)) (hob : AllP ob) (he : e ≠ .normal) : Lp P N m c s e s' :=
  Lp.stop (evBody_sound h hob) he
end

theorem Fn.sound2 {P : Program} (K : Kinds) {f : FuncId} {fn : Func} {args : List AV} {σ σ' : List AObj} {r : AV} {ob : List Prop} (hf : P.funcs[f]? = some fn) (orc : List Or) (fin : List Wk) (ks : List (Option Nat))
    (h : evFun P K fn args σ orc fin ks = some (r, σ', ob)) (hob : AllP ob) : SoundCall P f args σ r σ' := Fn.sound hf orc fin ks h hob

theorem SoundCall.to {P : Program} {f : FuncId} {args : List AV} {σ σ' σ2 : List AObj} {r r2 : AV} (h : SoundCall P f args σ r σ') (hr : r = r2) (hs : σ' = σ2) : SoundCall P f args σ r2 σ2 := by
  subst hr; subst hs; exact h

/-! ### small facts that obligations ask for -/
theorem wrap64 {x : Int} (h1 : -9223372036854775808 ≤ x) (h2 : x ≤ 9223372036854775807) : IntKind.i64.wrap x = x := by
  simp only [IntKind.wrap, IntKind.signed, IntKind.bits]
  first
    | omega
    | (simp; omega)
    | (rw [Int.bmod_eq_of_le] <;> omega)

theorem dsp (p : Prop) [Decidable p] : (decide p = true ∧ p) ∨ (decide p = false ∧ ¬p) := by
  by_cases h : p
  · exact .inl ⟨decide_eq_true h, h⟩
  · exact .inr ⟨decide_eq_false h, h⟩
theorem bsp (x y : Int) : ((x == y) = true ∧ x = y) ∨ ((x == y) = false ∧ ¬x = y) := by
  by_cases h : x = y
  · exact .inl ⟨beq_iff_eq.2 h, h⟩
  · exact .inr ⟨beq_eq_false_iff_ne.2 h, h⟩

/-- An obligation, and those behind it. -/
theorem q (p : Prop) {ps : List Prop} (k : AllP ps) (h : p := by first | assumption | rfl | omega | (simp [*]; done) | (apply Fits.of; simp; omega) | (simp at *; omega) | (apply wrap64 <;> omega) | (simp; apply wrap64 <;> omega) | (simp only [Option.getD_none, Option.getD_some, Int.toNat_natCast, List.take_length]; first | rfl | (simp; done))) : AllP (p :: ps) := ob1 h k
theorem qw (x : Int) {ps : List Prop} (k : AllP ps) (h : IntKind.wrap IntKind.i64 x = x := by first | (apply wrap64 <;> omega) | (simp; apply wrap64 <;> omega)) : AllP ((IntKind.wrap IntKind.i64 x = x) :: ps) := ob1 h k
theorem pf (p : Prop) (h : p := by first | assumption | rfl | omega | (simp [*]; done) | (apply Fits.of; simp; omega) | (simp at *; omega) | (simp only [Option.getD_none, Option.getD_some, Int.toNat_natCast, List.take_length]; first | rfl | (simp; done))) : p := h

/-- A function, one way through it. -/
theorem Fn.go {P : Program} (K : Kinds) {f : FuncId} {fn : Func} {args : List AV} {σ : List AObj} {ob : List Prop} {r2 : AV} {σ2 : List AObj} (hf : P.funcs[f]? = some fn) (orc : List Or) (fin : List Wk) (ks : List (Option Nat))
    (r : AV) (σ' : List AObj) (h : evFun P K fn args σ orc fin ks = some (r, σ', ob)) (hob : AllP ob)
    (hr : r = r2 := by first | rfl | (simp [*]; done)) (hs : σ' = σ2 := by first | rfl | (simp [*]; done)) : SoundCall P f args σ r2 σ2 := SoundCall.to (Fn.sound hf orc fin ks h hob) hr hs

end Go.Ae

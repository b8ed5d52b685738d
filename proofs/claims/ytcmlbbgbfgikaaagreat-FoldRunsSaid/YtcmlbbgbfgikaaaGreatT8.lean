/- Part 8 of the proof: AeRF20, AeRF21. -/
import Derived.Test.YtcmlbbgbfgikaaaGreatT7
set_option linter.unusedSimpArgs false
set_option linter.unusedVariables false
namespace Go.Ae
open Go.Proofs
section
variable (p : Prog) (n v : Int) (ty : Ty) (l : List Expr) (sc : List Ty)
theorem tImp_const : tImp p (.mk 0 n v ty l) sc = (tyF v, onlyC (.mk 0 n v ty l) true true false 0 && decide (1 ≤ v) && decide (v ≤ 4) && decide (0 ≤ n) && decide (n < v)) := by
 rw [tImp.eq_def]; rfl
theorem tImp_pick : tImp p (.mk 8 n v ty l) sc = (tyF v, onlyC (.mk 8 n v ty l) false true false 0 && decide (1 ≤ v) && decide (v ≤ 4)) := by
 rw [tImp.eq_def]; rfl
theorem tImp_var : tImp p (.mk 1 n v ty l) sc = (if onlyC (.mk 1 n v ty l) true false false 0 && decide (0 ≤ n) && decide (n < (sc.length : Int)) then
    (match sc[sc.length - 1 - n.toNat]? with
    | some t => (t, true)
    | none => (tyZ, false)) else (tyZ, false)) := by
 rw [tImp.eq_def]; rfl
theorem tImp_fun : tImp p (.mk 2 n v ty l) sc = (if onlyC (.mk 2 n v ty l) true false false 0 && decide (0 ≤ n) && decide (n < (p.defs.length : Int)) then
    (match p.defs[n.toNat]? with
    | some d => (.mk 1 0 [d.param, d.result], (tyC (.mk 1 0 [d.param, d.result]) 20).1)
    | none => (tyZ, false)) else (tyZ, false)) := by
 rw [tImp.eq_def]; rfl
theorem tImp_event (a : Expr) : tImp p (.mk 7 n v ty [a]) sc = if onlyC (.mk 7 n v ty [a]) true false false 1 && decide (0 ≤ n) && decide (n < (p.events.length : Int)) then tImp p a sc else (tyZ, false) := by
 rw [tImp.eq_def]; rfl
theorem tImp_event0 (h : l.length ≠ 1) : tImp p (.mk 7 n v ty l) sc = (tyZ, false) := by
 rw [tImp.eq_def]
 match l, h with
 | [], _ => rfl
 | [_], h => exact absurd rfl h
 | _ :: _ :: _, _ => rfl
theorem tImp_app (a b : Expr) : tImp p (.mk 3 n v ty [a, b]) sc = if onlyC (.mk 3 n v ty [a, b]) false false false 2 then
  (if (tImp p a sc).2 && (tImp p b sc).2 then appC (tImp p a sc).1 (tImp p b sc).1 else (tyZ, false)) else (tyZ, false) := by
 rw [tImp.eq_def]; rfl
theorem tImp_app0 (h : l.length ≠ 2) : tImp p (.mk 3 n v ty l) sc = (tyZ, false) := by
 rw [tImp.eq_def]
 match l, h with
 | [], _ => rfl
 | [_], _ => rfl
 | [_, _], h => exact absurd rfl h
 | _ :: _ :: _ :: _, _ => rfl
theorem tImp_lam (a : Expr) : tImp p (.mk 4 n v ty [a]) sc = if onlyC (.mk 4 n v ty [a]) false false true 1 && (tyC ty 20).1 then
  (if (tImp p a (sc ++ [ty])).2 && (tyC (.mk 1 0 [ty, (tImp p a (sc ++ [ty])).1]) 20).1 then (.mk 1 0 [ty, (tImp p a (sc ++ [ty])).1], true) else (tyZ, false)) else (tyZ, false) := by
 rw [tImp.eq_def]; rfl
theorem tImp_lam0 (h : l.length ≠ 1) : tImp p (.mk 4 n v ty l) sc = (tyZ, false) := by
 rw [tImp.eq_def]
 match l, h with
 | [], _ => rfl
 | [_], h => exact absurd rfl h
 | _ :: _ :: _, _ => rfl
theorem tImp_let (a b : Expr) : tImp p (.mk 5 n v ty [a, b]) sc = if onlyC (.mk 5 n v ty [a, b]) false false false 2 then
  (if (tImp p a sc).2 then tImp p b (sc ++ [(tImp p a sc).1]) else (tyZ, false)) else (tyZ, false) := by
 rw [tImp.eq_def]; rfl
theorem tImp_let0 (h : l.length ≠ 2) : tImp p (.mk 5 n v ty l) sc = (tyZ, false) := by
 rw [tImp.eq_def]
 match l, h with
 | [], _ => rfl
 | [_], _ => rfl
 | [_, _], h => exact absurd rfl h
 | _ :: _ :: _ :: _, _ => rfl
def Ty.kd : Ty → Int
 | .mk k _ _ => k
def Ty.vl : Ty → Int
 | .mk _ v _ => v
theorem tImp_case (a b : Expr) (r : List Expr) : tImp p (.mk 6 n v ty (a :: b :: r)) sc = if onlyC (.mk 6 n v ty (a :: b :: r)) false false false (-1) then
  (if (tImp p a sc).2 then (if (tImp p a sc).1.kd = 0 ∧ (tImp p a sc).1.vl = ((b :: r).length : Int) then ((tImp p b sc).1, casesC p sc (tImp p b sc).1 r (tImp p b sc).2) else (tyZ, false)) else (tyZ, false)) else (tyZ, false) := by
 have hf : ∀ f b, r.attach.foldl (fun ok c => ok && (tImp p c.1 sc).2 && decide (f = (tImp p c.1 sc).1)) b = casesC p sc f r b :=
  fun f b => List.foldl_attach (f := fun ok c => ok && (tImp p c sc).2 && decide (f = (tImp p c sc).1))
 rw [tImp.eq_def]
 dsimp only
 simp only [hf]
 generalize tImp p a sc = T
 obtain ⟨⟨k, w, m⟩, t⟩ := T
 rfl
theorem tImp_case0 (h : l.length < 2) : tImp p (.mk 6 n v ty l) sc = (tyZ, false) := by
 rw [tImp.eq_def]
 match l, h with
 | [], _ => rfl
 | [_], _ => rfl
 | _ :: _ :: _, h => exact absurd h (by simp)
theorem tImp_other (k : Int) (h : k < 0 ∨ 8 < k) : tImp p (.mk k n v ty l) sc = (tyZ, false) := by
 rw [tImp.eq_def]
 dsimp only
 rw [if_neg (by omega), if_neg (by omega), if_neg (by omega), if_neg (by omega), if_neg (by omega), if_neg (by omega), if_neg (by omega), if_neg (by omega), if_neg (by omega)]
end
theorem kind9 (k : Int) : k = 0 ∨ k = 1 ∨ k = 2 ∨ k = 3 ∨ k = 4 ∨ k = 5 ∨ k = 6 ∨ k = 7 ∨ k = 8 ∨ (k < 0 ∨ 8 < k) := by omega
theorem Expr.sind {motive : Expr → Prop} (h : ∀ k n v ty l, (∀ x ∈ l, motive x) → motive (.mk k n v ty l)) : ∀ e, motive e
 | .mk k n v ty l => h k n v ty l fun x hx => Expr.sind h x
termination_by e => SizeOf.sizeOf e
decreasing_by (have := List.sizeOf_lt_of_mem hx; simp; omega)
theorem len1 {α : Type} {l : List α} (h : l.length = 1) : ∃ a, l = [a] := by
 match l, h with
 | [a], _ => exact ⟨a, rfl⟩
theorem len2 {α : Type} {l : List α} (h : l.length = 2) : ∃ a b, l = [a, b] := by
 match l, h with
 | [a, b], _ => exact ⟨a, b, rfl⟩
def Ty.V (t : Ty) : Prop := (tyC t 20).1 = true
mutual
theorem tyC_mono : ∀ (t : Ty) (n m : Int), n ≤ m → (tyC t n).1 = true → (tyC t m).1 = true ∧ (tyC t n).2 - n = (tyC t m).2 - m
 | .mk k v l, n, m, h, ht => by
  simp only [tyC] at ht ⊢
  split at ht
  ·simp at ht
  ·rw [if_neg (by omega)]
   rename_i h1
   rw [if_neg h1]
   split
   ·rename_i hk
    rw [if_pos hk] at ht
    exact ⟨ht, by simp; omega⟩
   ·rename_i hk
    rw [if_neg hk] at ht
    split
    ·rename_i hk1
     rw [if_pos hk1] at ht
     split at ht
     ·rename_i h2
      rw [if_pos h2, if_pos h2]
      have := tyCs_mono l (n - 1) (m - 1) (by omega) ht
      exact ⟨this.1, by omega⟩
     ·simp at ht
    ·rename_i hk1
     rw [if_neg hk1] at ht
     simp at ht
theorem tyCs_mono : ∀ (l : List Ty) (n m : Int), n ≤ m → (tyCs l n).1 = true → (tyCs l m).1 = true ∧ (tyCs l n).2 - n = (tyCs l m).2 - m
 | [], n, m, _, _ => by simp [tyCs]
 | t :: l, n, m, h, ht => by
  simp only [tyCs] at ht ⊢
  split at ht
  ·rename_i h1
   have h2 := tyC_mono t n m h h1
   rw [if_pos h1, if_pos h2.1]
   have h3 := tyCs_mono l (tyC t n).2 (tyC t m).2 (by omega) ht
   exact ⟨h3.1, by omega⟩
  ·simp at ht
end
theorem V_two {k v : Int} {l : List Ty} (h : (Ty.mk k v l).V) (hk : k = 1) : ∃ a b, l = [a, b] ∧ a.V ∧ b.V ∧ v = 0 := by
 subst hk
 unfold Ty.V at h ⊢
 simp only [tyC, show ¬ ((20 : Int) - 1 < 0) by omega, show ¬ ((1 : Int) = 0) by omega, if_false, if_true] at h
 split at h
 ·rename_i h2
  obtain ⟨hv, hl⟩ := h2
  match l, hl with
  | [a, b], _ =>
   simp only [tyCs] at h
   split at h
   ·rename_i ha
    split at h
    ·rename_i hb
     have hbd := tyC_bound a (20 - 1) (by omega)
     exact ⟨a, b, rfl, (tyC_mono a (20 - 1) 20 (by omega) ha).1, (tyC_mono b _ 20 (by omega) hb).1, hv⟩
    ·simp at h
   ·simp at h
 ·simp at h
theorem V_fin {k : Int} (h1 : 1 ≤ k) (h2 : k ≤ 4) : (tyF k).V := by
 unfold Ty.V tyF
 simp [tyC, h1, h2]
theorem V_kd0 {k v : Int} {l : List Ty} (h : (Ty.mk k v l).V) (hk : k = 0) : 1 ≤ v ∧ v ≤ 4 ∧ l = [] := by
 subst hk
 unfold Ty.V at h
 simpa [tyC, and_assoc] using h
theorem appC_V {f x : Ty} (hf : f.V) (h : (appC f x).2 = true) : (appC f x).1.V ∧ ∃ t u, f = .mk 1 0 [t, u] ∧ t = x ∧ (appC f x).1 = u := by
 obtain ⟨k, v, l⟩ := f
 by_cases hk : k = 1
 ·obtain ⟨a, b, rfl, ha, hb, rfl⟩ := V_two hf hk
  subst hk
  rw [appC_two] at h ⊢
  split
  ·rename_i e
   exact ⟨hb, a, b, rfl, e, rfl⟩
  ·rename_i e
   rw [if_neg e] at h
   simp at h
 ·rw [appC_ne hk] at h
  simp at h
theorem casesC_true {p : Prog} {sc : List Ty} {f : Ty} : ∀ {r : List Expr} {b : Bool}, casesC p sc f r b = true → b = true ∧ ∀ c ∈ r, (tImp p c sc).2 = true ∧ f = (tImp p c sc).1
 | [], b, h => ⟨h, by simp⟩
 | c :: r, b, h => by
  have h' : casesC p sc f r (b && (tImp p c sc).2 && decide (f = (tImp p c sc).1)) = true := h
  obtain ⟨h1, h2⟩ := casesC_true h'
  simp only [Bool.and_eq_true, decide_eq_true_eq] at h1
  exact ⟨h1.1.1, fun x hx => by
   rcases List.mem_cons.1 hx with rfl | hx
   ·exact ⟨h1.1.2, h1.2⟩
   ·exact h2 x hx⟩
theorem tImp_V (p : Prog) (hd : ∀ d ∈ p.defs, d.param.V ∧ d.result.V) : ∀ (e : Expr) (sc : List Ty), (∀ t ∈ sc, t.V) → (tImp p e sc).2 = true → (tImp p e sc).1.V := by
 intro e
 induction e using Expr.sind with
 | _ k n v ty l ih =>
  intro sc hs h
  rcases kind9 k with rfl | rfl | rfl | rfl | rfl | rfl | rfl | rfl | rfl | hk
  ·rw [tImp_const] at h ⊢
   simp only [Bool.and_eq_true, decide_eq_true_eq] at h
   exact V_fin h.1.1.1.2 h.1.1.2
  ·rw [tImp_var] at h ⊢
   split
   ·rename_i h1
    rw [if_pos h1] at h
    split
    ·rename_i t ht
     exact hs t (List.mem_of_getElem? ht)
    ·rename_i ht
     rw [ht] at h
     simp at h
   ·rename_i h1
    rw [if_neg h1] at h
    simp at h
  ·rw [tImp_fun] at h ⊢
   split
   ·rename_i h1
    rw [if_pos h1] at h
    split
    ·rename_i t ht
     rw [ht] at h
     exact h
    ·rename_i ht
     rw [ht] at h
     simp at h
   ·rename_i h1
    rw [if_neg h1] at h
    simp at h
  ·by_cases hl : l.length = 2
   ·obtain ⟨a, b, rfl⟩ := len2 hl
    ·have iha := ih a (by simp)
     have ihb := ih b (by simp)
     rw [tImp_app] at h ⊢
     split
     ·rename_i h1
      rw [if_pos h1] at h
      split
      ·rename_i h2
       rw [if_pos h2] at h
       simp only [Bool.and_eq_true] at h2
       exact (appC_V (iha sc hs h2.1) h).1
      ·rename_i h2
       rw [if_neg h2] at h
       simp at h
     ·rename_i h1
      rw [if_neg h1] at h
      simp at h
   ·rw [tImp_app0 _ _ _ _ _ _ hl] at h
    simp at h
  ·by_cases hl : l.length = 1
   ·obtain ⟨a, rfl⟩ := len1 hl
    ·have iha := ih a (by simp)
     rw [tImp_lam] at h ⊢
     split
     ·rename_i h1
      rw [if_pos h1] at h
      split
      ·rename_i h2
       simp only [Bool.and_eq_true] at h2
       exact h2.2
      ·rename_i h2
       rw [if_neg h2] at h
       simp at h
     ·rename_i h1
      rw [if_neg h1] at h
      simp at h
   ·rw [tImp_lam0 _ _ _ _ _ _ hl] at h
    simp at h
  ·by_cases hl : l.length = 2
   ·obtain ⟨a, b, rfl⟩ := len2 hl
    ·have iha := ih a (by simp)
     have ihb := ih b (by simp)
     rw [tImp_let] at h ⊢
     split
     ·rename_i h1
      rw [if_pos h1] at h
      split
      ·rename_i h2
       rw [if_pos h2] at h
       exact ihb _ (fun t ht => by
        rcases List.mem_append.1 ht with ht | ht
        ·exact hs t ht
        ·simp only [List.mem_singleton] at ht
         rw [ht]
         exact iha sc hs h2) h
      ·rename_i h2
       rw [if_neg h2] at h
       simp at h
     ·rename_i h1
      rw [if_neg h1] at h
      simp at h
   ·rw [tImp_let0 _ _ _ _ _ _ hl] at h
    simp at h
  ·rcases l with _ | ⟨a, _ | ⟨b, r⟩⟩
   ·rw [tImp_case0 _ _ _ _ _ _ (by simp)] at h; simp at h
   ·rw [tImp_case0 _ _ _ _ _ _ (by simp)] at h; simp at h
   ·have ihb := ih b (by simp)
    rw [tImp_case] at h ⊢
    split
    ·rename_i h1
     rw [if_pos h1] at h
     split
     ·rename_i h2
      rw [if_pos h2] at h
      split
      ·rename_i h3
       rw [if_pos h3] at h
       exact ihb sc hs (casesC_true h).1
      ·rename_i h3
       rw [if_neg h3] at h
       simp at h
     ·rename_i h2
      rw [if_neg h2] at h
      simp at h
    ·rename_i h1
     rw [if_neg h1] at h
     simp at h
  ·by_cases hl : l.length = 1
   ·obtain ⟨a, rfl⟩ := len1 hl
    ·have iha := ih a (by simp)
     rw [tImp_event] at h ⊢
     split
     ·rename_i h1
      rw [if_pos h1] at h
      exact iha sc hs h
     ·rename_i h1
      rw [if_neg h1] at h
      simp at h
   ·rw [tImp_event0 _ _ _ _ _ _ hl] at h
    simp at h
  ·rw [tImp_pick] at h ⊢
   simp only [Bool.and_eq_true, decide_eq_true_eq] at h
   exact V_fin h.1.2 h.2
  ·rw [tImp_other _ _ _ _ _ _ _ hk] at h
   simp at h
end Go.Ae
namespace Go.Ae
open Go.Proofs
theorem tyZ_ok : tyZ.ok := ⟨by unfold ir; omega, by unfold ir; omega, by simp, trivial⟩
theorem appC_ok {f x : Ty} (hf : f.ok) : (appC f x).1.ok := by
 unfold appC
 split
 ·rename_i fk fv t u l
  split
  ·exact (Ty.oks_mem hf.2.2.2 u (by simp))
  ·exact tyZ_ok
 ·exact tyZ_ok
theorem fun_ok {a b : Ty} (ha : a.ok) (hb : b.ok) : (Ty.mk 1 0 [a, b]).ok := ⟨by unfold ir; omega, by unfold ir; omega, by simp, ha, hb, trivial⟩
theorem tImp_ok (p : Prog) (hd : ∀ d ∈ p.defs, d.ok) : ∀ (e : Expr) (sc : List Ty), e.ok → (∀ t ∈ sc, t.ok) → (tImp p e sc).1.ok := by
 intro e
 induction e using Expr.sind with
 | _ k n v ty l ih =>
  intro sc he hs
  have hl := Expr.oks_mem he.2.2.2.2.2
  have hv : (tyF v).ok := ⟨by unfold ir; omega, he.2.2.1, by simp, trivial⟩
  rcases kind9 k with rfl | rfl | rfl | rfl | rfl | rfl | rfl | rfl | rfl | hk
  ·rw [tImp_const]; exact hv
  ·rw [tImp_var]
   split
   ·split
    ·rename_i t ht
     exact hs t (List.mem_of_getElem? ht)
    ·exact tyZ_ok
   ·exact tyZ_ok
  ·rw [tImp_fun]
   split
   ·split
    ·rename_i t ht
     have := hd t (List.mem_of_getElem? ht)
     exact fun_ok this.2.1 this.2.2.1
    ·exact tyZ_ok
   ·exact tyZ_ok
  ·by_cases h2 : l.length = 2
   ·obtain ⟨a, b, rfl⟩ := len2 h2
    rw [tImp_app]
    split
    ·split
     ·exact appC_ok (ih a (by simp) sc (hl a (by simp)) hs)
     ·exact tyZ_ok
    ·exact tyZ_ok
   ·rw [tImp_app0 _ _ _ _ _ _ h2]; exact tyZ_ok
  ·by_cases h2 : l.length = 1
   ·obtain ⟨a, rfl⟩ := len1 h2
    rw [tImp_lam]
    split
    ·split
     ·refine fun_ok he.2.2.2.1 (ih a (by simp) _ (hl a (by simp)) fun t ht => ?_)
      rcases List.mem_append.1 ht with ht | ht
      ·exact hs t ht
      ·simp only [List.mem_singleton] at ht; rw [ht]; exact he.2.2.2.1
     ·exact tyZ_ok
    ·exact tyZ_ok
   ·rw [tImp_lam0 _ _ _ _ _ _ h2]; exact tyZ_ok
  ·by_cases h2 : l.length = 2
   ·obtain ⟨a, b, rfl⟩ := len2 h2
    rw [tImp_let]
    split
    ·split
     ·refine ih b (by simp) _ (hl b (by simp)) fun t ht => ?_
      rcases List.mem_append.1 ht with ht | ht
      ·exact hs t ht
      ·simp only [List.mem_singleton] at ht; rw [ht]; exact ih a (by simp) sc (hl a (by simp)) hs
     ·exact tyZ_ok
    ·exact tyZ_ok
   ·rw [tImp_let0 _ _ _ _ _ _ h2]; exact tyZ_ok
  ·rcases l with _ | ⟨a, _ | ⟨b, r⟩⟩
   ·rw [tImp_case0 _ _ _ _ _ _ (by simp)]; exact tyZ_ok
   ·rw [tImp_case0 _ _ _ _ _ _ (by simp)]; exact tyZ_ok
   ·rw [tImp_case]
    split
    ·split
     ·split
      ·exact ih b (by simp) sc (hl b (by simp)) hs
      ·exact tyZ_ok
     ·exact tyZ_ok
    ·exact tyZ_ok
  ·by_cases h2 : l.length = 1
   ·obtain ⟨a, rfl⟩ := len1 h2
    rw [tImp_event]
    split
    ·exact ih a (by simp) sc (hl a (by simp)) hs
    ·exact tyZ_ok
   ·rw [tImp_event0 _ _ _ _ _ _ h2]; exact tyZ_ok
  ·rw [tImp_pick]; exact hv
  ·rw [tImp_other _ _ _ _ _ _ _ hk]; exact tyZ_ok
theorem szCs_mem : ∀ (l : List Expr) (d n : Int), 0 ≤ n → (szCs l d n).1 = true → (l.length : Int) ≤ n ∧ ∀ x ∈ l, ∃ n', 0 ≤ n' ∧ n' ≤ n ∧ (szC x d n').1 = true
 | [], d, n, h, _ => ⟨by simpa using h, by simp⟩
 | x :: l, d, n, h, ht => by
  rw [szCs_cons] at ht
  split at ht
  ·rename_i h1
   have hb := szC_bound x d n h
   obtain ⟨k1, k2⟩ := szCs_mem l d _ (hb.2.2 h1) ht
   have hlt : (szC x d n).2 ≤ n - 1 := by
    obtain ⟨k, a, b, c, m⟩ := x
    rw [szC] at h1 ⊢
    split at h1
    ·simp at h1
    ·rename_i h3
     rw [if_neg h3]
     split at h1
     ·simp at h1
     ·rename_i h4
      rw [if_neg h4]
      exact (szCs_bound m (d - 1) (n - 1) (by omega)).2.1
   refine ⟨by simp only [List.length_cons, Int.natCast_add]; omega, fun y hy => ?_⟩
   rcases List.mem_cons.1 hy with rfl | hy
   ·exact ⟨n, h, Int.le_refl n, h1⟩
   ·obtain ⟨n', q1, q2, q3⟩ := k2 y hy
    exact ⟨n', q1, by omega, q3⟩
  ·simp at ht
theorem szC_true {k n v d m : Int} {ty : Ty} {l : List Expr} (h : (szC (.mk k n v ty l) d m).1 = true) : 1 ≤ m ∧ d ≠ 0 ∧ (szCs l (d - 1) (m - 1)).1 = true := by
 rw [szC] at h
 split at h
 ·simp at h
 ·split at h
  ·simp at h
  ·exact ⟨by omega, by assumption, h⟩
theorem type_all (es : List ByteArray) (ds : List Def) (mk mn mv mtk mtv : Int) (mtl : List Ty) (ml : List Expr) (hes : es.length ≤ 1000) (hds : ds.length ≤ 1000) (hd : ∀ d ∈ ds, d.ok ∧ d.param.V ∧ d.result.V) :
  ∀ (e : Expr) (sc : List Ty) (d m : Int), e.ok → (szC e d m).1 = true → 0 ≤ d → m ≤ 1000 → d + sc.length ≤ 1000 → (∀ t ∈ sc, t.ok ∧ t.V) → TypeOk ⟨es, ds, .mk mk mn mv (.mk mtk mtv mtl) ml⟩ e sc := by
 intro e
 induction e using Expr.sind with
 | _ k n v ty l ih =>
  intro sc d m he hz hd0 hm hsc hs
  obtain ⟨tk, tv, tl⟩ := ty
  have hl := Expr.oks_mem he.2.2.2.2.2
  obtain ⟨hm1, hd1, hz1⟩ := szC_true hz
  obtain ⟨hlen, hmem⟩ := szCs_mem l (d - 1) (m - 1) (by omega) hz1
  have hV := fun (e : Expr) (sc : List Ty) => tImp_V ⟨es, ds, .mk mk mn mv (.mk mtk mtv mtl) ml⟩ (fun d h => (hd d h).2) e sc
  have hO := fun (e : Expr) (sc : List Ty) => tImp_ok ⟨es, ds, .mk mk mn mv (.mk mtk mtv mtl) ml⟩ (fun d h => (hd d h).1) e sc
  have rec1 : ∀ x ∈ l, ∀ sc', (sc'.length : Int) ≤ sc.length + 1 → (∀ t ∈ sc', t.ok ∧ t.V) → TypeOk ⟨es, ds, .mk mk mn mv (.mk mtk mtv mtl) ml⟩ x sc' := fun x hx sc' h1 h2 => by
   obtain ⟨n', q1, q2, q3⟩ := hmem x hx
   exact ih x hx sc' (d - 1) n' (hl x hx) q3 (by omega) (by omega) (by omega) h2
  rcases kind9 k with rfl | rfl | rfl | rfl | rfl | rfl | rfl | rfl | rfl | hk
  ·have := type_const es ds mk mn mv mtk mtv mtl ml sc n v tk tv tl l
   unfold TypeOk; rw [tImp_const]; exact this
  ·exact type_var es ds mk mn mv mtk mtv mtl ml sc n v tk tv tl l (by omega)
  ·exact type_fun es ds mk mn mv mtk mtv mtl ml sc n v tk tv tl l hds (fun d h => (hd d h).1)
  ·refine type_comp _ _ _ _ _ _ _ _ _ _ _ _ _ _ _ _ _ (by omega) ?_
   by_cases h2 : l.length = 2
   ·obtain ⟨⟨ak, an, av, ⟨atk, atv, atl⟩, al⟩, ⟨bk, bn, bv, ⟨btk, btv, btl⟩, bl⟩, rfl⟩ := len2 h2
    refine comp_app _ _ _ _ _ _ _ _ _ _ _ _ _ _ _ _ _ _ _ _ _ _ _ _ _ _ _ _ _ (rec1 _ (by simp) sc (by omega) hs) (rec1 _ (by simp) sc (by omega) hs) fun h => ?_
    have v1 := hV _ sc (fun t ht => (hs t ht).2) h
    have o1 := hO (.mk ak an av (.mk atk atv atl) al) sc (hl _ (by simp)) (fun t ht => (hs t ht).1)
    generalize (tImp ⟨es, ds, .mk mk mn mv (.mk mtk mtv mtl) ml⟩ (.mk ak an av (.mk atk atv atl) al) sc).1 = T at v1 o1
    obtain ⟨k, w, l⟩ := T
    refine ⟨k, w, l, rfl, fun hk => ?_⟩
    obtain ⟨a, b, rfl, _, _, _⟩ := V_two v1 hk
    exact ⟨a, b, rfl, Ty.oks_mem o1.2.2.2 a (by simp)⟩
   ·exact comp_bad _ _ _ _ _ _ _ _ _ _ _ _ _ _ _ _ _ ⟨.inl rfl, h2⟩
  ·refine type_comp _ _ _ _ _ _ _ _ _ _ _ _ _ _ _ _ _ (by omega) ?_
   by_cases h2 : l.length = 1
   ·obtain ⟨⟨ak, an, av, ⟨atk, atv, atl⟩, al⟩, rfl⟩ := len1 h2
    by_cases hv1 : (Ty.mk tk tv tl).V
    ·have hs' : ∀ t ∈ sc ++ [Ty.mk tk tv tl], t.ok ∧ t.V := fun t ht => by
      rcases List.mem_append.1 ht with ht | ht
      ·exact hs t ht
      ·simp only [List.mem_singleton] at ht; rw [ht]; exact ⟨he.2.2.2.1, hv1⟩
     exact comp_lam _ _ _ _ _ _ _ _ _ _ _ _ _ _ _ _ _ _ _ _ _ _ (by omega) he.2.2.2.1 (rec1 _ (by simp) _ (by simp) hs')
      (hO _ _ (hl _ (by simp)) (fun t ht => (hs' t ht).1))
    ·exact comp_lam1 _ _ _ _ _ _ _ _ _ _ _ _ _ _ _ _ _ _ _ _ _ _ he.2.2.2.1 hv1
   ·exact comp_bad_lam _ _ _ _ _ _ _ _ _ _ _ _ _ _ _ _ h2
  ·refine type_comp _ _ _ _ _ _ _ _ _ _ _ _ _ _ _ _ _ (by omega) ?_
   by_cases h2 : l.length = 2
   ·obtain ⟨⟨ak, an, av, ⟨atk, atv, atl⟩, al⟩, ⟨bk, bn, bv, ⟨btk, btv, btl⟩, bl⟩, rfl⟩ := len2 h2
    refine comp_let _ _ _ _ _ _ _ _ _ _ _ _ _ _ _ _ _ _ _ _ _ _ _ _ _ _ _ _ _ (by omega) (rec1 _ (by simp) sc (by omega) hs) fun t ht => ?_
    refine rec1 _ (by simp) _ (by simp) fun u hu => ?_
    rcases List.mem_append.1 hu with hu | hu
    ·exact hs u hu
    ·simp only [List.mem_singleton] at hu
     rw [hu]
     have v1 := hV (.mk ak an av (.mk atk atv atl) al) sc (fun t ht => (hs t ht).2) (by rw [ht])
     have o1 := hO (.mk ak an av (.mk atk atv atl) al) sc (hl _ (by simp)) (fun t ht => (hs t ht).1)
     rw [ht] at v1 o1
     exact ⟨o1, v1⟩
   ·exact comp_bad _ _ _ _ _ _ _ _ _ _ _ _ _ _ _ _ _ ⟨.inr rfl, h2⟩
  ·refine type_comp _ _ _ _ _ _ _ _ _ _ _ _ _ _ _ _ _ (by omega) ?_
   rcases l with _ | ⟨⟨ak, an, av, ⟨atk, atv, atl⟩, al⟩, _ | ⟨⟨bk, bn, bv, ⟨btk, btv, btl⟩, bl⟩, r⟩⟩
   ·exact comp_bad_case _ _ _ _ _ _ _ _ _ _ _ _ _ _ _ _ (by simp)
   ·exact comp_bad_case _ _ _ _ _ _ _ _ _ _ _ _ _ _ _ _ (by simp)
   ·exact comp_case _ _ _ _ _ _ _ _ _ _ _ _ _ _ _ _ _ _ _ _ _ _ _ _ _ _ _ _ _ _ (by simp at hlen; omega) (rec1 _ (by simp) sc (by omega) hs) (rec1 _ (by simp) sc (by omega) hs)
     (fun x hx => rec1 _ (by simp [hx]) sc (by omega) hs) (hO _ _ (hl _ (by simp)) (fun t ht => (hs t ht).1))
  ·by_cases h2 : l.length = 1
   ·obtain ⟨⟨ak, an, av, ⟨atk, atv, atl⟩, al⟩, rfl⟩ := len1 h2
    exact type_event1 _ _ _ _ _ _ _ _ _ _ _ _ _ _ _ _ _ _ _ _ _ _ hes (rec1 _ (by simp) sc (by omega) hs)
   ·exact type_event0 _ _ _ _ _ _ _ _ _ _ _ _ _ _ _ _ h2
  ·have := type_pick es ds mk mn mv mtk mtv mtl ml sc n v tk tv tl l
   unfold TypeOk; rw [tImp_pick]; exact this
  ·exact type_other _ _ _ _ _ _ _ _ _ _ _ _ _ _ _ _ _ hk
end Go.Ae

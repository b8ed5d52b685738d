/- ref25.Of and source.Lang.Type: the same types; ref25.Of of every expression. .. (AeEF25) -/
import Derived.Test.YtmnnmjbjcdjglaaT8
set_option linter.unusedSimpArgs false
set_option linter.unusedVariables false
/- ref25.Of and source.Lang.Type: the same types; ref25.Of of every expression. -/
namespace Go.Ae
open Go.Proofs

mutual
/-- The nodes of a type. -/
def Ty.nd : Ty → Int
  | .mk _ _ l => 1 + Ty.nds l
def Ty.nds : List Ty → Int
  | [] => 0
  | t :: l => t.nd + Ty.nds l
end

mutual
theorem nd_pos : ∀ t : Ty, 1 ≤ t.nd
  | .mk _ _ l => by have := nds_pos l; simp only [Ty.nd]; omega
theorem nds_pos : ∀ l : List Ty, 0 ≤ Ty.nds l
  | [] => by simp [Ty.nds]
  | t :: l => by have := nd_pos t; have := nds_pos l; simp only [Ty.nds]; omega
end

mutual
theorem tnC_nd : ∀ (t : Ty) (m : Int), (tnC t m ≤ m ↔ t.nd ≤ m) ∧ (t.nd ≤ m → tnC t m = t.nd)
  | .mk k v l, m => by
    have h := tnL_nd l m 1 (by omega)
    simp only [tnC, Ty.nd]
    exact h
theorem tnL_nd : ∀ (l : List Ty) (m n : Int), 1 ≤ n → (tnL l m n ≤ m ↔ n + Ty.nds l ≤ m) ∧ (n + Ty.nds l ≤ m → tnL l m n = n + Ty.nds l)
  | [], m, n, h => by simp [tnL, Ty.nds]
  | t :: l, m, n, h => by
    have h1 := tnC_nd t (m - n)
    have h2 := nd_pos t
    have h3 := nds_pos l
    have h4 := tnC_bound t (m - n)
    have h5 := tnL_nd l m (n + tnC t (m - n)) (by omega)
    have h6 := tnL_bound l m (n + tnC t (m - n)) (by omega)
    simp only [tnL, Ty.nds]
    by_cases hn : n ≤ m
    · rw [if_pos hn]
      by_cases hc : t.nd ≤ m - n
      · have := h1.2 hc
        rw [this] at h5 ⊢
        exact ⟨by rw [h5.1]; omega, fun h => by rw [h5.2 (by omega)]; omega⟩
      · have := mt h1.1.1 hc
        exact ⟨⟨fun h => by omega, fun h => by omega⟩, fun h => by omega⟩
    · rw [if_neg hn]
      exact ⟨⟨fun h => by omega, fun h => by omega⟩, fun h => by omega⟩
end

mutual
theorem tyC_nd : ∀ (t : Ty) (n : Int), 0 ≤ n → ((tyC t n).1 = true ↔ shC t = true ∧ t.nd ≤ n) ∧ ((tyC t n).1 = true → (tyC t n).2 = n - t.nd)
  | .mk k v l, n, h => by
    have hp := nds_pos l
    simp only [tyC, shC, Ty.nd]
    by_cases h1 : n - 1 < 0
    · rw [if_pos h1]
      exact ⟨⟨fun h => by simp at h, fun h => by omega⟩, fun h => by simp at h⟩
    · rw [if_neg h1]
      by_cases hk : k = 0
      · rw [if_pos hk, if_pos hk]
        refine ⟨⟨fun h => ⟨h, ?_⟩, fun h => h.1⟩, fun h => ?_⟩
        · simp only [Bool.and_eq_true, decide_eq_true_eq] at h
          have : l = [] := List.eq_nil_of_length_eq_zero h.2
          subst this
          simp only [Ty.nds]; omega
        · simp only [Bool.and_eq_true, decide_eq_true_eq] at h
          have : l = [] := List.eq_nil_of_length_eq_zero h.2
          subst this
          simp only [Ty.nds]; omega
      · rw [if_neg hk, if_neg hk]
        by_cases hk1 : k = 1
        · rw [if_pos hk1]
          by_cases h2 : v = 0 ∧ l.length = 2
          · rw [if_pos h2]
            have h3 := tyCs_nd l (n - 1) (by omega)
            simp only [hk1, h2.1, h2.2, decide_true, Bool.true_and]
            refine ⟨?_, fun h => ?_⟩
            · rw [h3.1]
              constructor
              · rintro ⟨a, b⟩; exact ⟨a, by omega⟩
              · rintro ⟨a, b⟩; exact ⟨a, by omega⟩
            · rw [h3.2 h]; omega
          · rw [if_neg h2]
            refine ⟨⟨fun h => by simp at h, fun h => ?_⟩, fun h => by simp at h⟩
            simp only [Bool.and_eq_true, decide_eq_true_eq] at h
            exact absurd ⟨h.1.1.1.2, h.1.1.2⟩ h2
        · rw [if_neg hk1]
          refine ⟨⟨fun h => by simp at h, fun h => ?_⟩, fun h => by simp at h⟩
          simp only [Bool.and_eq_true, decide_eq_true_eq] at h
          exact absurd h.1.1.1.1 hk1
theorem tyCs_nd : ∀ (l : List Ty) (n : Int), 0 ≤ n → ((tyCs l n).1 = true ↔ shL l = true ∧ Ty.nds l ≤ n) ∧ ((tyCs l n).1 = true → (tyCs l n).2 = n - Ty.nds l)
  | [], n, h => by simp [tyCs, shL, Ty.nds, h]
  | t :: l, n, h => by
    have h1 := tyC_nd t n h
    have hp := nds_pos l
    simp only [tyCs, shL, Ty.nds, Bool.and_eq_true]
    by_cases hc : (tyC t n).1 = true
    · rw [if_pos hc]
      have hb := tyC_bound t n h
      have h2 := tyCs_nd l (tyC t n).2 (hb.2.2 hc)
      rw [h1.2 hc] at h2 ⊢
      have h3 := h1.1.1 hc
      refine ⟨?_, fun h => ?_⟩
      · rw [h2.1]
        constructor
        · rintro ⟨a, b⟩; exact ⟨⟨h3.1, a⟩, by omega⟩
        · rintro ⟨⟨_, a⟩, b⟩; exact ⟨a, by omega⟩
      · rw [h2.2 h]; omega
    · rw [if_neg hc]
      refine ⟨⟨fun h => by simp at h, fun h => ?_⟩, fun h => by simp at h⟩
      exact absurd (h1.1.2 ⟨h.1.1, by omega⟩) hc
end

theorem isTyR_eq (t : Ty) : isTyR t = (tyC t 20).1 := by
  have h1 := (tnC_nd t 20).1
  have h2 := (tyC_nd t 20 (by omega)).1
  unfold isTyR
  rw [Bool.eq_iff_iff, h2]
  simp only [Bool.and_eq_true, decide_eq_true_eq, h1]
  exact And.comm

theorem fun_V (a b : Ty) (ha : a.V) (hb : b.V) : decide (tnC (.mk 1 0 [a, b]) 20 ≤ 20) = (tyC (.mk 1 0 [a, b]) 20).1 := by
  have h1 := (tnC_nd (.mk 1 0 [a, b]) 20).1
  have h2 := (tyC_nd (.mk 1 0 [a, b]) 20 (by omega)).1
  have h3 := ((tyC_nd a 20 (by omega)).1.1 ha).1
  have h4 := ((tyC_nd b 20 (by omega)).1.1 hb).1
  rw [Bool.eq_iff_iff, h2]
  simp only [decide_eq_true_eq, h1, shC_two, h3, h4]
  simp

/-- Which fields a kind may have. -/
def onlyK (k : Int) (e : Expr) : Bool :=
  if k = 0 then onlyC e true true false 0 else if k = 8 then onlyC e false true false 0 else if k = 1 ∨ k = 2 then onlyC e true false false 0 else if k = 7 then onlyC e true false false 1
  else if k = 3 ∨ k = 5 then onlyC e false false false 2 else if k = 4 then onlyC e false false true 1 else onlyC e false false false (-1)

theorem plain_only (k n v : Int) (ty : Ty) (l : List Expr) (h : 0 ≤ k ∧ k ≤ 8) : plainC (.mk k n v ty l) = (onlyK k (.mk k n v ty l) && (decide (k ≠ 6) || decide (0 < l.length))) := by
  obtain ⟨tk, tv, tl⟩ := ty
  have hl : ∀ j : Nat, decide ((l.length : Int) = (j : Int)) = decide (l.length = j) := fun j => by
    rw [decide_eq_decide]; omega
  have h0 := hl 0
  have h1 := hl 1
  have h2 := hl 2
  simp only [Int.natCast_zero, Int.natCast_one, show ((2 : Nat) : Int) = 2 from rfl] at h0 h1 h2
  have hk : k = 0 ∨ k = 1 ∨ k = 2 ∨ k = 3 ∨ k = 4 ∨ k = 5 ∨ k = 6 ∨ k = 7 ∨ k = 8 := by omega
  rcases hk with rfl | rfl | rfl | rfl | rfl | rfl | rfl | rfl | rfl <;>
    simp [plainC, onlyK, onlyC, argsC, emptyC, h0, h1, h2, Bool.and_assoc]

theorem plain_bad (k n v : Int) (ty : Ty) (l : List Expr) (h : k < 0 ∨ 8 < k) : plainC (.mk k n v ty l) = false := by
  obtain ⟨tk, tv, tl⟩ := ty
  simp only [plainC, argsC]
  rw [if_neg (by omega), if_neg (by omega), if_neg (by omega), decide_eq_false (show ¬ k = 6 by omega)]
  simp

theorem only_len' {k n v : Int} {t : Ty} {l : List Expr} {a b c : Bool} {g : Nat} (h : onlyC (.mk k n v t l) a b c (g : Int) = true) : l.length = g := by
  apply Classical.byContradiction
  intro hne
  rw [only_len k n v t l a b c g (by omega) (by omega)] at h
  cases h

theorem rev_get (sc : List Ty) (n : Nat) (h : n < sc.length) : sc.reverse[sc.reverse.length - 1 - n]? = sc[n]? := by
  rw [List.getElem?_reverse (by simp; omega)]
  congr 1
  simp; omega

theorem casesR_eq (p : Prog) (sc : List Ty) (f : Ty) : ∀ (r : List Expr) (b : Bool), (∀ x ∈ r, (tRef p x sc).2 = (tImp p x sc.reverse).2 ∧ ((tImp p x sc.reverse).2 = true → (tRef p x sc).1 = (tImp p x sc.reverse).1)) →
    casesR p sc f r b = casesC p sc.reverse f r b
  | [], b, _ => rfl
  | c :: r, b, h => by
    show casesR p sc f r (b && (tRef p c sc).2 && decide (f = (tRef p c sc).1)) = casesC p sc.reverse f r (b && (tImp p c sc.reverse).2 && decide (f = (tImp p c sc.reverse).1))
    rw [casesR_eq p sc f r _ (fun x hx => h x (by simp [hx]))]
    congr 1
    obtain ⟨h1, h2⟩ := h c (by simp)
    rw [h1]
    cases hc : (tImp p c sc.reverse).2 with
    | false => simp
    | true => rw [h2 hc]

theorem casesC_false (p : Prog) (sc : List Ty) (f : Ty) : ∀ (r : List Expr), casesC p sc f r false = false
  | [] => rfl
  | c :: r => by
    show casesC p sc f r (false && _ && _) = false
    simp only [Bool.false_and]
    exact casesC_false p sc f r

theorem tRef_eq (p : Prog) (hd : ∀ d ∈ p.defs, d.param.V ∧ d.result.V) : ∀ (e : Expr) (sc : List Ty), (∀ t ∈ sc, t.V) →
    (tRef p e sc).2 = (tImp p e sc.reverse).2 ∧ ((tImp p e sc.reverse).2 = true → (tRef p e sc).1 = (tImp p e sc.reverse).1) := by
  intro e
  induction e using Expr.sind with
  | _ k n v ty l ih =>
    intro sc hs
    have hs' : ∀ t ∈ sc.reverse, t.V := fun t ht => hs t (by simpa using ht)
    by_cases hbad : k < 0 ∨ 8 < k
    · rw [tImp_other _ _ _ _ _ _ _ hbad, tRef_not _ _ _ _ _ _ _ (plain_bad k n v ty l hbad)]
      simp
    have hpo := plain_only k n v ty l (by omega)
    cases hp : plainC (.mk k n v ty l) with
    | false =>
      rw [tRef_not _ _ _ _ _ _ _ hp]
      rw [hp] at hpo
      have hfalse : (tImp p (.mk k n v ty l) sc.reverse).2 = false := by
        rcases kind9 k with rfl | rfl | rfl | rfl | rfl | rfl | rfl | rfl | rfl | hk
        · simp [onlyK] at hpo; rw [tImp_const, hpo]; rfl
        · simp [onlyK] at hpo; rw [tImp_var, hpo]; rfl
        · simp [onlyK] at hpo; rw [tImp_fun, hpo]; rfl
        · simp [onlyK] at hpo
          by_cases h2 : l.length = 2
          · obtain ⟨a, b, rfl⟩ := len2 h2
            rw [tImp_app, hpo]; rfl
          · rw [tImp_app0 _ _ _ _ _ _ h2]
        · simp [onlyK] at hpo
          by_cases h2 : l.length = 1
          · obtain ⟨a, rfl⟩ := len1 h2
            rw [tImp_lam, hpo]; rfl
          · rw [tImp_lam0 _ _ _ _ _ _ h2]
        · simp [onlyK] at hpo
          by_cases h2 : l.length = 2
          · obtain ⟨a, b, rfl⟩ := len2 h2
            rw [tImp_let, hpo]; rfl
          · rw [tImp_let0 _ _ _ _ _ _ h2]
        · simp [onlyK] at hpo
          rcases l with _ | ⟨a, _ | ⟨b, r⟩⟩
          · rw [tImp_case0 _ _ _ _ _ _ (by simp)]
          · rw [tImp_case0 _ _ _ _ _ _ (by simp)]
          · simp at hpo
            rw [tImp_case, hpo]; rfl
        · simp [onlyK] at hpo
          by_cases h2 : l.length = 1
          · obtain ⟨a, rfl⟩ := len1 h2
            rw [tImp_event, hpo]; rfl
          · rw [tImp_event0 _ _ _ _ _ _ h2]
        · simp [onlyK] at hpo; rw [tImp_pick, hpo]; rfl
        · omega
      exact ⟨hfalse.symm, fun h => by rw [hfalse] at h; cases h⟩
    | true =>
      rw [hp] at hpo
      have hpo := hpo.symm
      rw [Bool.and_eq_true] at hpo
      obtain ⟨hon, hlen⟩ := hpo
      rcases kind9 k with rfl | rfl | rfl | rfl | rfl | rfl | rfl | rfl | rfl | hk
      · simp only [onlyK, if_true] at hon
        rw [tRef_const _ _ _ _ _ _ hp, tImp_const, hon]
        simp
      · simp [onlyK] at hon
        rw [tRef_var _ _ _ _ _ _ hp, tImp_var, hon]
        simp only [Bool.true_and, List.length_reverse]
        by_cases hn : decide (0 ≤ n) && decide (n < (sc.length : Int))
        · rw [if_pos hn, if_pos hn]
          simp only [Bool.and_eq_true, decide_eq_true_eq] at hn
          have := rev_get sc n.toNat (by omega)
          rw [List.length_reverse] at this
          rw [this]
          exact ⟨rfl, fun _ => rfl⟩
        · rw [if_neg hn, if_neg hn]
          exact ⟨rfl, fun _ => rfl⟩
      · simp [onlyK] at hon
        rw [tRef_fun _ _ _ _ _ _ hp, tImp_fun, hon]
        simp only [Bool.true_and]
        by_cases hn : decide (0 ≤ n) && decide (n < (p.defs.length : Int))
        · rw [if_pos hn, if_pos hn]
          cases hdd : p.defs[n.toNat]? with
          | none => exact ⟨rfl, fun _ => rfl⟩
          | some d =>
            have := hd d (List.mem_of_getElem? hdd)
            simp only
            rw [fun_V _ _ this.1 this.2]
            exact ⟨rfl, fun _ => by first | rfl | trivial⟩
        · rw [if_neg hn, if_neg hn]
          exact ⟨rfl, fun _ => rfl⟩
      · simp [onlyK] at hon
        obtain ⟨a, b, rfl⟩ := len2 (only_len' (g := 2) hon)
        rw [tRef_app _ _ _ _ _ _ _ hp, tImp_app, hon]
        obtain ⟨a1, a2⟩ := ih a (by simp) sc hs
        obtain ⟨b1, b2⟩ := ih b (by simp) sc hs
        rw [a1, b1]
        simp only [if_true]
        cases ha : (tImp p a sc.reverse).2 with
        | false => simp
        | true =>
          cases hb : (tImp p b sc.reverse).2 with
          | false => simp
          | true =>
            rw [a2 ha, b2 hb]
            simp
      · simp [onlyK] at hon
        obtain ⟨a, rfl⟩ := len1 (only_len' (g := 1) hon)
        rw [tRef_lam _ _ _ _ _ _ hp, tImp_lam, hon, isTyR_eq]
        simp only [Bool.true_and]
        cases hty : (tyC ty 20).1 with
        | false => simp
        | true =>
          obtain ⟨a1, a2⟩ := ih a (by simp) (ty :: sc) (fun t ht => by
            rcases List.mem_cons.1 ht with rfl | ht
            · exact hty
            · exact hs t ht)
          rw [List.reverse_cons] at a1 a2
          rw [a1]
          cases ha : (tImp p a (sc.reverse ++ [ty])).2 with
          | false => simp
          | true =>
            have hVa := tImp_V p hd a (sc.reverse ++ [ty]) (fun t ht => by
              rcases List.mem_append.1 ht with ht | ht
              · exact hs' t ht
              · simp only [List.mem_singleton] at ht; rw [ht]; exact hty) ha
            rw [a2 ha, fun_V _ _ hty hVa]
            simp only [Bool.true_and, if_true]
            cases (tyC (.mk 1 0 [ty, (tImp p a (sc.reverse ++ [ty])).1]) 20).1 <;> simp
      · simp [onlyK] at hon
        obtain ⟨a, b, rfl⟩ := len2 (only_len' (g := 2) hon)
        rw [tRef_let _ _ _ _ _ _ _ hp, tImp_let, hon]
        obtain ⟨a1, a2⟩ := ih a (by simp) sc hs
        rw [a1]
        simp only [if_true]
        cases ha : (tImp p a sc.reverse).2 with
        | false => simp
        | true =>
          have hVa := tImp_V p hd a sc.reverse hs' ha
          rw [a2 ha]
          obtain ⟨b1, b2⟩ := ih b (by simp) ((tImp p a sc.reverse).1 :: sc) (fun t ht => by
            rcases List.mem_cons.1 ht with rfl | ht
            · exact hVa
            · exact hs t ht)
          rw [List.reverse_cons] at b1 b2
          simp only [if_true]
          exact ⟨b1, b2⟩
      · simp [onlyK] at hon hlen
        rcases l with _ | ⟨a, _ | ⟨b, r⟩⟩
        · simp at hlen
        · rw [tRef_case1 _ _ _ _ _ _ hp, tImp_case0 _ _ _ _ _ _ (by simp)]
          exact ⟨rfl, fun _ => rfl⟩
        · rw [tRef_case _ _ _ _ _ _ _ _ hp, tImp_case, hon]
          obtain ⟨a1, a2⟩ := ih a (by simp) sc hs
          obtain ⟨b1, b2⟩ := ih b (by simp) sc hs
          rw [a1]
          simp only [if_true]
          cases ha : (tImp p a sc.reverse).2 with
          | false => simp
          | true =>
            rw [a2 ha]
            simp only [if_true]
            split
            · rw [casesR_eq p sc _ r _ (fun x hx => ih x (by simp [hx]) sc hs), b1]
              cases hb : (tImp p b sc.reverse).2 with
              | false => rw [casesC_false, casesC_false]; exact ⟨rfl, fun h => by cases h⟩
              | true => rw [b2 hb]; exact ⟨rfl, fun _ => rfl⟩
            · exact ⟨rfl, fun _ => rfl⟩
      · simp [onlyK] at hon
        obtain ⟨a, rfl⟩ := len1 (only_len' (g := 1) hon)
        rw [tRef_event _ _ _ _ _ _ hp, tImp_event, hon]
        obtain ⟨a1, a2⟩ := ih a (by simp) sc hs
        rw [a1]
        simp only [Bool.true_and]
        by_cases hn : decide (0 ≤ n) && decide (n < (p.events.length : Int))
        · rw [if_pos hn]
          rw [Bool.and_assoc, hn]
          exact ⟨by simp, a2⟩
        · rw [if_neg hn]
          rw [Bool.not_eq_true] at hn
          rw [Bool.and_assoc, hn]
          simp
      · simp only [onlyK, show ¬ (8 : Int) = 0 by omega, if_true, if_false] at hon
        rw [tRef_pick _ _ _ _ _ _ hp, tImp_pick, hon]
        simp
      · omega

theorem of_case1 (es : List ByteArray) (ds : List Def) (mk mn mv mtk mtv : Int) (mtl : List Ty) (ml : List Expr) (sc : List Ty) (n v tk tv : Int) (tl : List Ty)
    (ak an av atk atv : Int) (atl : List Ty) (al : List Expr)
    (ha : OfOk ⟨es, ds, .mk mk mn mv (.mk mtk mtv mtl) ml⟩ (.mk ak an av (.mk atk atv atl) al) sc)
    (h : plainC (.mk 6 n v (.mk tk tv tl) [.mk ak an av (.mk atk atv atl) al]) = true)
    (hV : (tRef ⟨es, ds, .mk mk mn mv (.mk mtk mtv mtl) ml⟩ (.mk ak an av (.mk atk atv atl) al) sc).2 = true → (tRef ⟨es, ds, .mk mk mn mv (.mk mtk mtv mtl) ml⟩ (.mk ak an av (.mk atk atv atl) al) sc).1.V) :
    OfOk ⟨es, ds, .mk mk mn mv (.mk mtk mtv mtl) ml⟩ (.mk 6 n v (.mk tk tv tl) [.mk ak an av (.mk atk atv atl) al]) sc := by
  unfold OfOk at ha ⊢
  have hp := plain_ 6 n v tk tv tl [.mk ak an av (.mk atk atv atl) al]
  rw [h] at hp
  rw [tRef_case1 _ _ _ _ _ _ h]
  generalize tRef ⟨es, ds, .mk mk mn mv (.mk mtk mtv mtl) ml⟩ (.mk ak an av (.mk atk atv atl) al) sc = T at ha hV
  obtain ⟨⟨rk, rv, rl⟩, rb⟩ := T
  cases rb with
  | false =>
    clear hV
    exact Fn.go KT Try.func15 [.reg [] [], .reg [] [(1, .call (B true) [])], .reg [] [], .reg [] [], .reg [] [], .reg [] [], .reg [] [], .reg [] [], .reg [] [], .reg [] [(4, .row 0 [I ak, I an, I av, I atk, I atv, AV.sl 3 (Ty.encs atl) false, AV.sl 7 (Expr.encs al) false]), (6, .call (AV.tup [AV.agg [I rk, I rv, AV.sl 3 (Ty.encs rl) false], B false]) [])], .reg [] [], .reg [] []] [.tidO 2 [none, none, some 3]] [] (AV.tup [AV.agg [I 0, I 0, AV.sl 3 [] false], B false]) ([]) (by kernel_rfl) (ob1 (hp) (q ((0 : Int) = (↑(0 : Nat) : Int)) (q ([[I ak, I an, I av, I atk, I atv, AV.sl 3 (Ty.encs atl) false, AV.sl 7 (Expr.encs al) false]][0]? = some [I ak, I an, I av, I atk, I atv, AV.sl 3 (Ty.encs atl) false, AV.sl 7 (Expr.encs al) false]) (ob1 (ha) ob0))))
  | true =>
    have hV := hV rfl
    by_cases hk : rk = 0
    · subst hk
      obtain ⟨w1, w2, -⟩ := V_kd0 hV rfl
      clear hV
      exact Fn.go KT Try.func15 [.reg [] [], .reg [] [(1, .call (B true) [])], .reg [] [], .reg [] [], .reg [] [], .reg [] [], .reg [] [], .reg [] [], .reg [] [], .reg [] [(4, .row 0 [I ak, I an, I av, I atk, I atv, AV.sl 3 (Ty.encs atl) false, AV.sl 7 (Expr.encs al) false]), (6, .call (AV.tup [AV.agg [I 0, I rv, AV.sl 3 (Ty.encs rl) false], B true]) [])], .reg [] [], .reg [] [], .reg [] [], .reg [] [], .reg [] [(9, .int (rv + 1)), (10, .bit true)], .reg [] []] [.tidO 2 [none, none, some 3]] [] (AV.tup [AV.agg [I 0, I 0, AV.sl 3 [] false], B false]) ([]) (by kernel_rfl) (ob1 (hp) (q ((0 : Int) = (↑(0 : Nat) : Int)) (q ([[I ak, I an, I av, I atk, I atv, AV.sl 3 (Ty.encs atl) false, AV.sl 7 (Expr.encs al) false]][0]? = some [I ak, I an, I av, I atk, I atv, AV.sl 3 (Ty.encs atl) false, AV.sl 7 (Expr.encs al) false]) (ob1 (ha) (qw (rv + 1) (q ((1 != rv + 1) = true) ob0))))))
    · clear hV
      exact Fn.go KT Try.func15 [.reg [] [], .reg [] [(1, .call (B true) [])], .reg [] [], .reg [] [], .reg [] [], .reg [] [], .reg [] [], .reg [] [], .reg [] [], .reg [] [(4, .row 0 [I ak, I an, I av, I atk, I atv, AV.sl 3 (Ty.encs atl) false, AV.sl 7 (Expr.encs al) false]), (6, .call (AV.tup [AV.agg [I rk, I rv, AV.sl 3 (Ty.encs rl) false], B true]) [])], .reg [] [], .reg [] [], .reg [] [], .reg [] [], .reg [] [(2, .bit true)], .reg [] []] [.tidO 2 [none, none, some 3]] [] (AV.tup [AV.agg [I 0, I 0, AV.sl 3 [] false], B false]) ([]) (by kernel_rfl) (ob1 (hp) (q ((0 : Int) = (↑(0 : Nat) : Int)) (q ([[I ak, I an, I av, I atk, I atv, AV.sl 3 (Ty.encs atl) false, AV.sl 7 (Expr.encs al) false]][0]? = some [I ak, I an, I av, I atk, I atv, AV.sl 3 (Ty.encs atl) false, AV.sl 7 (Expr.encs al) false]) (ob1 (ha) (q ((rk != 0) = true) ob0)))))

end Go.Ae

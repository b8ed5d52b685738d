/- source.Lang.Type: every expression. .. (AeEF21, AeEF22, AeEF23, AeEF24) -/
import Derived.Test.YtmnnmjbjcdjglaaT7
set_option linter.unusedSimpArgs false
set_option linter.unusedVariables false
/- source.Lang.Type: every expression. -/
namespace Go.Ae
open Go.Proofs

theorem tyZ_ok : tyZ.ok := ⟨by unfold ir; omega, by unfold ir; omega, by simp, trivial⟩

theorem appC_ok {f x : Ty} (hf : f.ok) : (appC f x).1.ok := by
  unfold appC
  split
  · rename_i fk fv t u l
    split
    · exact (Ty.oks_mem hf.2.2.2 u (by simp))
    · exact tyZ_ok
  · exact tyZ_ok

theorem fun_ok {a b : Ty} (ha : a.ok) (hb : b.ok) : (Ty.mk 1 0 [a, b]).ok := ⟨by unfold ir; omega, by unfold ir; omega, by simp, ha, hb, trivial⟩

theorem tImp_ok (p : Prog) (hd : ∀ d ∈ p.defs, d.ok) : ∀ (e : Expr) (sc : List Ty), e.ok → (∀ t ∈ sc, t.ok) → (tImp p e sc).1.ok := by
  intro e
  induction e using Expr.sind with
  | _ k n v ty l ih =>
    intro sc he hs
    have hl := Expr.oks_mem he.2.2.2.2.2
    have hv : (tyF v).ok := ⟨by unfold ir; omega, he.2.2.1, by simp, trivial⟩
    rcases kind9 k with rfl | rfl | rfl | rfl | rfl | rfl | rfl | rfl | rfl | hk
    · rw [tImp_const]; exact hv
    · rw [tImp_var]
      split
      · split
        · rename_i t ht
          exact hs t (List.mem_of_getElem? ht)
        · exact tyZ_ok
      · exact tyZ_ok
    · rw [tImp_fun]
      split
      · split
        · rename_i t ht
          have := hd t (List.mem_of_getElem? ht)
          exact fun_ok this.2.1 this.2.2.1
        · exact tyZ_ok
      · exact tyZ_ok
    · by_cases h2 : l.length = 2
      · obtain ⟨a, b, rfl⟩ := len2 h2
        rw [tImp_app]
        split
        · split
          · exact appC_ok (ih a (by simp) sc (hl a (by simp)) hs)
          · exact tyZ_ok
        · exact tyZ_ok
      · rw [tImp_app0 _ _ _ _ _ _ h2]; exact tyZ_ok
    · by_cases h2 : l.length = 1
      · obtain ⟨a, rfl⟩ := len1 h2
        rw [tImp_lam]
        split
        · split
          · refine fun_ok he.2.2.2.1 (ih a (by simp) _ (hl a (by simp)) fun t ht => ?_)
            rcases List.mem_append.1 ht with ht | ht
            · exact hs t ht
            · simp only [List.mem_singleton] at ht; rw [ht]; exact he.2.2.2.1
          · exact tyZ_ok
        · exact tyZ_ok
      · rw [tImp_lam0 _ _ _ _ _ _ h2]; exact tyZ_ok
    · by_cases h2 : l.length = 2
      · obtain ⟨a, b, rfl⟩ := len2 h2
        rw [tImp_let]
        split
        · split
          · refine ih b (by simp) _ (hl b (by simp)) fun t ht => ?_
            rcases List.mem_append.1 ht with ht | ht
            · exact hs t ht
            · simp only [List.mem_singleton] at ht; rw [ht]; exact ih a (by simp) sc (hl a (by simp)) hs
          · exact tyZ_ok
        · exact tyZ_ok
      · rw [tImp_let0 _ _ _ _ _ _ h2]; exact tyZ_ok
    · rcases l with _ | ⟨a, _ | ⟨b, r⟩⟩
      · rw [tImp_case0 _ _ _ _ _ _ (by simp)]; exact tyZ_ok
      · rw [tImp_case0 _ _ _ _ _ _ (by simp)]; exact tyZ_ok
      · rw [tImp_case]
        split
        · split
          · split
            · exact ih b (by simp) sc (hl b (by simp)) hs
            · exact tyZ_ok
          · exact tyZ_ok
        · exact tyZ_ok
    · by_cases h2 : l.length = 1
      · obtain ⟨a, rfl⟩ := len1 h2
        rw [tImp_event]
        split
        · exact ih a (by simp) sc (hl a (by simp)) hs
        · exact tyZ_ok
      · rw [tImp_event0 _ _ _ _ _ _ h2]; exact tyZ_ok
    · rw [tImp_pick]; exact hv
    · rw [tImp_other _ _ _ _ _ _ _ hk]; exact tyZ_ok

theorem szCs_mem : ∀ (l : List Expr) (d n : Int), 0 ≤ n → (szCs l d n).1 = true → (l.length : Int) ≤ n ∧ ∀ x ∈ l, ∃ n', 0 ≤ n' ∧ n' ≤ n ∧ (szC x d n').1 = true
  | [], d, n, h, _ => ⟨by simpa using h, by simp⟩
  | x :: l, d, n, h, ht => by
    rw [szCs_cons] at ht
    split at ht
    · rename_i h1
      have hb := szC_bound x d n h
      obtain ⟨k1, k2⟩ := szCs_mem l d _ (hb.2.2 h1) ht
      have hlt : (szC x d n).2 ≤ n - 1 := by
        obtain ⟨k, a, b, c, m⟩ := x
        rw [szC] at h1 ⊢
        split at h1
        · simp at h1
        · rename_i h3
          rw [if_neg h3]
          split at h1
          · simp at h1
          · rename_i h4
            rw [if_neg h4]
            exact (szCs_bound m (d - 1) (n - 1) (by omega)).2.1
      refine ⟨by simp only [List.length_cons, Int.natCast_add]; omega, fun y hy => ?_⟩
      rcases List.mem_cons.1 hy with rfl | hy
      · exact ⟨n, h, Int.le_refl n, h1⟩
      · obtain ⟨n', q1, q2, q3⟩ := k2 y hy
        exact ⟨n', q1, by omega, q3⟩
    · simp at ht

theorem szC_true {k n v d m : Int} {ty : Ty} {l : List Expr} (h : (szC (.mk k n v ty l) d m).1 = true) : 1 ≤ m ∧ d ≠ 0 ∧ (szCs l (d - 1) (m - 1)).1 = true := by
  rw [szC] at h
  split at h
  · simp at h
  · split at h
    · simp at h
    · exact ⟨by omega, by assumption, h⟩

theorem type_all (es : List ByteArray) (ds : List Def) (mk mn mv mtk mtv : Int) (mtl : List Ty) (ml : List Expr) (hes : es.length ≤ 1000) (hds : ds.length ≤ 1000) (hd : ∀ d ∈ ds, d.ok ∧ d.param.V ∧ d.result.V) :
    ∀ (e : Expr) (sc : List Ty) (d m : Int), e.ok → (szC e d m).1 = true → 0 ≤ d → m ≤ 1000 → d + sc.length ≤ 1000 → (∀ t ∈ sc, t.ok ∧ t.V) → TypeOk ⟨es, ds, .mk mk mn mv (.mk mtk mtv mtl) ml⟩ e sc := by
  intro e
  induction e using Expr.sind with
  | _ k n v ty l ih =>
    intro sc d m he hz hd0 hm hsc hs
    obtain ⟨tk, tv, tl⟩ := ty
    have hl := Expr.oks_mem he.2.2.2.2.2
    obtain ⟨hm1, hd1, hz1⟩ := szC_true hz
    obtain ⟨hlen, hmem⟩ := szCs_mem l (d - 1) (m - 1) (by omega) hz1
    have hV := fun (e : Expr) (sc : List Ty) => tImp_V ⟨es, ds, .mk mk mn mv (.mk mtk mtv mtl) ml⟩ (fun d h => (hd d h).2) e sc
    have hO := fun (e : Expr) (sc : List Ty) => tImp_ok ⟨es, ds, .mk mk mn mv (.mk mtk mtv mtl) ml⟩ (fun d h => (hd d h).1) e sc
    have rec1 : ∀ x ∈ l, ∀ sc', (sc'.length : Int) ≤ sc.length + 1 → (∀ t ∈ sc', t.ok ∧ t.V) → TypeOk ⟨es, ds, .mk mk mn mv (.mk mtk mtv mtl) ml⟩ x sc' := fun x hx sc' h1 h2 => by
      obtain ⟨n', q1, q2, q3⟩ := hmem x hx
      exact ih x hx sc' (d - 1) n' (hl x hx) q3 (by omega) (by omega) (by omega) h2
    rcases kind9 k with rfl | rfl | rfl | rfl | rfl | rfl | rfl | rfl | rfl | hk
    · have := type_const es ds mk mn mv mtk mtv mtl ml sc n v tk tv tl l
      unfold TypeOk; rw [tImp_const]; exact this
    · exact type_var es ds mk mn mv mtk mtv mtl ml sc n v tk tv tl l (by omega)
    · exact type_fun es ds mk mn mv mtk mtv mtl ml sc n v tk tv tl l hds (fun d h => (hd d h).1)
    · refine type_comp _ _ _ _ _ _ _ _ _ _ _ _ _ _ _ _ _ (by omega) ?_
      by_cases h2 : l.length = 2
      · obtain ⟨⟨ak, an, av, ⟨atk, atv, atl⟩, al⟩, ⟨bk, bn, bv, ⟨btk, btv, btl⟩, bl⟩, rfl⟩ := len2 h2
        refine comp_app _ _ _ _ _ _ _ _ _ _ _ _ _ _ _ _ _ _ _ _ _ _ _ _ _ _ _ _ _ (rec1 _ (by simp) sc (by omega) hs) (rec1 _ (by simp) sc (by omega) hs) fun h => ?_
        have v1 := hV _ sc (fun t ht => (hs t ht).2) h
        have o1 := hO (.mk ak an av (.mk atk atv atl) al) sc (hl _ (by simp)) (fun t ht => (hs t ht).1)
        generalize (tImp ⟨es, ds, .mk mk mn mv (.mk mtk mtv mtl) ml⟩ (.mk ak an av (.mk atk atv atl) al) sc).1 = T at v1 o1
        obtain ⟨k, w, l⟩ := T
        refine ⟨k, w, l, rfl, fun hk => ?_⟩
        obtain ⟨a, b, rfl, _, _, _⟩ := V_two v1 hk
        exact ⟨a, b, rfl, Ty.oks_mem o1.2.2.2 a (by simp)⟩
      · exact comp_bad _ _ _ _ _ _ _ _ _ _ _ _ _ _ _ _ _ ⟨.inl rfl, h2⟩
    · refine type_comp _ _ _ _ _ _ _ _ _ _ _ _ _ _ _ _ _ (by omega) ?_
      by_cases h2 : l.length = 1
      · obtain ⟨⟨ak, an, av, ⟨atk, atv, atl⟩, al⟩, rfl⟩ := len1 h2
        by_cases hv1 : (Ty.mk tk tv tl).V
        · have hs' : ∀ t ∈ sc ++ [Ty.mk tk tv tl], t.ok ∧ t.V := fun t ht => by
            rcases List.mem_append.1 ht with ht | ht
            · exact hs t ht
            · simp only [List.mem_singleton] at ht; rw [ht]; exact ⟨he.2.2.2.1, hv1⟩
          exact comp_lam _ _ _ _ _ _ _ _ _ _ _ _ _ _ _ _ _ _ _ _ _ _ (by omega) he.2.2.2.1 (rec1 _ (by simp) _ (by simp) hs')
            (hO _ _ (hl _ (by simp)) (fun t ht => (hs' t ht).1))
        · exact comp_lam1 _ _ _ _ _ _ _ _ _ _ _ _ _ _ _ _ _ _ _ _ _ _ he.2.2.2.1 hv1
      · exact comp_bad_lam _ _ _ _ _ _ _ _ _ _ _ _ _ _ _ _ h2
    · refine type_comp _ _ _ _ _ _ _ _ _ _ _ _ _ _ _ _ _ (by omega) ?_
      by_cases h2 : l.length = 2
      · obtain ⟨⟨ak, an, av, ⟨atk, atv, atl⟩, al⟩, ⟨bk, bn, bv, ⟨btk, btv, btl⟩, bl⟩, rfl⟩ := len2 h2
        refine comp_let _ _ _ _ _ _ _ _ _ _ _ _ _ _ _ _ _ _ _ _ _ _ _ _ _ _ _ _ _ (by omega) (rec1 _ (by simp) sc (by omega) hs) fun t ht => ?_
        refine rec1 _ (by simp) _ (by simp) fun u hu => ?_
        rcases List.mem_append.1 hu with hu | hu
        · exact hs u hu
        · simp only [List.mem_singleton] at hu
          rw [hu]
          have v1 := hV (.mk ak an av (.mk atk atv atl) al) sc (fun t ht => (hs t ht).2) (by rw [ht])
          have o1 := hO (.mk ak an av (.mk atk atv atl) al) sc (hl _ (by simp)) (fun t ht => (hs t ht).1)
          rw [ht] at v1 o1
          exact ⟨o1, v1⟩
      · exact comp_bad _ _ _ _ _ _ _ _ _ _ _ _ _ _ _ _ _ ⟨.inr rfl, h2⟩
    · refine type_comp _ _ _ _ _ _ _ _ _ _ _ _ _ _ _ _ _ (by omega) ?_
      rcases l with _ | ⟨⟨ak, an, av, ⟨atk, atv, atl⟩, al⟩, _ | ⟨⟨bk, bn, bv, ⟨btk, btv, btl⟩, bl⟩, r⟩⟩
      · exact comp_bad_case _ _ _ _ _ _ _ _ _ _ _ _ _ _ _ _ (by simp)
      · exact comp_bad_case _ _ _ _ _ _ _ _ _ _ _ _ _ _ _ _ (by simp)
      · exact comp_case _ _ _ _ _ _ _ _ _ _ _ _ _ _ _ _ _ _ _ _ _ _ _ _ _ _ _ _ _ _ (by simp at hlen; omega) (rec1 _ (by simp) sc (by omega) hs) (rec1 _ (by simp) sc (by omega) hs)
          (fun x hx => rec1 _ (by simp [hx]) sc (by omega) hs) (hO _ _ (hl _ (by simp)) (fun t ht => (hs t ht).1))
    · by_cases h2 : l.length = 1
      · obtain ⟨⟨ak, an, av, ⟨atk, atv, atl⟩, al⟩, rfl⟩ := len1 h2
        exact type_event1 _ _ _ _ _ _ _ _ _ _ _ _ _ _ _ _ _ _ _ _ _ _ hes (rec1 _ (by simp) sc (by omega) hs)
      · exact type_event0 _ _ _ _ _ _ _ _ _ _ _ _ _ _ _ _ h2
    · have := type_pick es ds mk mn mv mtk mtv mtl ml sc n v tk tv tl l
      unfold TypeOk; rw [tImp_pick]; exact this
    · exact type_other _ _ _ _ _ _ _ _ _ _ _ _ _ _ _ _ _ hk

end Go.Ae

/- ref25.Of: what it returns; constants, choices, variables, functions. -/
namespace Go.Ae
open Go.Proofs

def isTyR (t : Ty) : Bool := decide (tnC t 20 ≤ 20) && shC t

/-- What ref25.Of returns; the scope's innermost type is the first one. -/
noncomputable def tRef (p : Prog) : Expr → List Ty → Ty × Bool
  | .mk k n v ty l, sc =>
    if plainC (.mk k n v ty l) then
      (if k = 0 then (tyF v, decide (1 ≤ v) && decide (v ≤ 4) && decide (0 ≤ n) && decide (n < v))
      else if k = 8 then (tyF v, decide (1 ≤ v) && decide (v ≤ 4))
      else if k = 1 then (if decide (0 ≤ n) && decide (n < (sc.length : Int)) then (match sc[n.toNat]? with
        | some t => (t, true)
        | none => (tyZ, false)) else (tyZ, false))
      else if k = 2 then (if decide (0 ≤ n) && decide (n < (p.defs.length : Int)) then (match p.defs[n.toNat]? with
        | some d => (.mk 1 0 [d.param, d.result], decide (tnC (.mk 1 0 [d.param, d.result]) 20 ≤ 20))
        | none => (tyZ, false)) else (tyZ, false))
      else if k = 4 then (match l with
        | [a] => (.mk 1 0 [ty, (tRef p a (ty :: sc)).1], (tRef p a (ty :: sc)).2 && isTyR ty && decide (tnC (.mk 1 0 [ty, (tRef p a (ty :: sc)).1]) 20 ≤ 20))
        | _ => (tyZ, false))
      else if k = 7 then (match l with
        | [a] => ((tRef p a sc).1, (tRef p a sc).2 && decide (0 ≤ n) && decide (n < (p.events.length : Int)))
        | _ => (tyZ, false))
      else match l with
        | [] => (tyZ, false)
        | a :: m => if (tRef p a sc).2 then
            (if k = 5 then (match m with
              | [b] => tRef p b ((tRef p a sc).1 :: sc)
              | _ => (tyZ, false))
            else if k = 3 then (match m with
              | [b] => if (tRef p b sc).2 then appC (tRef p a sc).1 (tRef p b sc).1 else (tyZ, false)
              | _ => (tyZ, false))
            else (match m with
              | [] => (tyZ, false)
              | b :: r => if (tRef p a sc).1.kd = 0 ∧ (tRef p a sc).1.vl = ((b :: r).length : Int) then
                  ((tRef p b sc).1, r.attach.foldl (fun ok c => ok && (tRef p c.1 sc).2 && decide ((tRef p b sc).1 = (tRef p c.1 sc).1)) (tRef p b sc).2) else (tyZ, false))) else (tyZ, false))
    else (tyZ, false)
termination_by e => SizeOf.sizeOf e
decreasing_by all_goals (simp_wf; first | omega | (have := List.sizeOf_lt_of_mem c.2; omega))

def OfOk (p : Prog) (e : Expr) (sc : List Ty) : Prop :=
  SoundCall Try.prog 15 [.agg p.enc, .sl 3 (Ty.encs sc) false, .agg e.enc] [] (.tup [.agg (tRef p e sc).1.enc, B (tRef p e sc).2]) []

section
variable (p : Prog) (n v : Int) (ty : Ty) (l : List Expr) (sc : List Ty)

theorem tRef_not (k : Int) (h : plainC (.mk k n v ty l) = false) : tRef p (.mk k n v ty l) sc = (tyZ, false) := by
  rw [tRef.eq_def]; dsimp only; rw [h]; rfl
theorem tRef_const (h : plainC (.mk 0 n v ty l) = true) : tRef p (.mk 0 n v ty l) sc = (tyF v, decide (1 ≤ v) && decide (v ≤ 4) && decide (0 ≤ n) && decide (n < v)) := by
  rw [tRef.eq_def]; dsimp only; rw [h]; rfl
theorem tRef_pick (h : plainC (.mk 8 n v ty l) = true) : tRef p (.mk 8 n v ty l) sc = (tyF v, decide (1 ≤ v) && decide (v ≤ 4)) := by
  rw [tRef.eq_def]; dsimp only; rw [h]; rfl
theorem tRef_var (h : plainC (.mk 1 n v ty l) = true) : tRef p (.mk 1 n v ty l) sc = (if decide (0 ≤ n) && decide (n < (sc.length : Int)) then (match sc[n.toNat]? with
        | some t => (t, true)
        | none => (tyZ, false)) else (tyZ, false)) := by
  rw [tRef.eq_def]; dsimp only; rw [h]; rfl
theorem tRef_fun (h : plainC (.mk 2 n v ty l) = true) : tRef p (.mk 2 n v ty l) sc = (if decide (0 ≤ n) && decide (n < (p.defs.length : Int)) then (match p.defs[n.toNat]? with
        | some d => (.mk 1 0 [d.param, d.result], decide (tnC (.mk 1 0 [d.param, d.result]) 20 ≤ 20))
        | none => (tyZ, false)) else (tyZ, false)) := by
  rw [tRef.eq_def]; dsimp only; rw [h]; rfl
theorem tRef_lam (a : Expr) (h : plainC (.mk 4 n v ty [a]) = true) : tRef p (.mk 4 n v ty [a]) sc =
    (.mk 1 0 [ty, (tRef p a (ty :: sc)).1], (tRef p a (ty :: sc)).2 && isTyR ty && decide (tnC (.mk 1 0 [ty, (tRef p a (ty :: sc)).1]) 20 ≤ 20)) := by
  rw [tRef.eq_def]; dsimp only; rw [h]; rfl
theorem tRef_event (a : Expr) (h : plainC (.mk 7 n v ty [a]) = true) : tRef p (.mk 7 n v ty [a]) sc = ((tRef p a sc).1, (tRef p a sc).2 && decide (0 ≤ n) && decide (n < (p.events.length : Int))) := by
  rw [tRef.eq_def]; dsimp only; rw [h]; rfl
theorem tRef_let (a b : Expr) (h : plainC (.mk 5 n v ty [a, b]) = true) : tRef p (.mk 5 n v ty [a, b]) sc = if (tRef p a sc).2 then tRef p b ((tRef p a sc).1 :: sc) else (tyZ, false) := by
  rw [tRef.eq_def]; dsimp only; rw [h]; rfl
theorem tRef_app (a b : Expr) (h : plainC (.mk 3 n v ty [a, b]) = true) : tRef p (.mk 3 n v ty [a, b]) sc =
    if (tRef p a sc).2 then (if (tRef p b sc).2 then appC (tRef p a sc).1 (tRef p b sc).1 else (tyZ, false)) else (tyZ, false) := by
  rw [tRef.eq_def]; dsimp only; rw [h]; rfl

noncomputable def casesR (p : Prog) (sc : List Ty) (f : Ty) (r : List Expr) (b : Bool) : Bool := r.foldl (fun ok c => ok && (tRef p c sc).2 && decide (f = (tRef p c sc).1)) b

theorem tRef_case (a b : Expr) (r : List Expr) (h : plainC (.mk 6 n v ty (a :: b :: r)) = true) : tRef p (.mk 6 n v ty (a :: b :: r)) sc =
    if (tRef p a sc).2 then (if (tRef p a sc).1.kd = 0 ∧ (tRef p a sc).1.vl = ((b :: r).length : Int) then ((tRef p b sc).1, casesR p sc (tRef p b sc).1 r (tRef p b sc).2) else (tyZ, false)) else (tyZ, false) := by
  have hf : ∀ f b, r.attach.foldl (fun ok c => ok && (tRef p c.1 sc).2 && decide (f = (tRef p c.1 sc).1)) b = casesR p sc f r b :=
    fun f b => List.foldl_attach (f := fun ok c => ok && (tRef p c sc).2 && decide (f = (tRef p c sc).1))
  rw [tRef.eq_def]; dsimp only; rw [h]
  simp only [hf]
  rfl
theorem tRef_case1 (a : Expr) (h : plainC (.mk 6 n v ty [a]) = true) : tRef p (.mk 6 n v ty [a]) sc = (tyZ, false) := by
  rw [tRef.eq_def]; dsimp only; rw [h]
  cases (tRef p a sc).2 <;> rfl
end

theorem of_not (es : List ByteArray) (ds : List Def) (mk mn mv mtk mtv : Int) (mtl : List Ty) (ml : List Expr) (sc : List Ty) (k n v tk tv : Int) (tl : List Ty) (l : List Expr) (h : plainC (.mk k n v (.mk tk tv tl) l) = false) :
    OfOk ⟨es, ds, .mk mk mn mv (.mk mtk mtv mtl) ml⟩ (.mk k n v (.mk tk tv tl) l) sc := by
  unfold OfOk
  have hp := plain_ k n v tk tv tl l
  rw [tRef_not _ _ _ _ _ _ _ h]
  rw [h] at hp
  exact Fn.go KT Try.func15 [.reg [] [], .reg [] [(1, .call (B false) [])], .reg [] []] [.tidO 2 [none, none, some 3]] [] (AV.tup [AV.agg [I 0, I 0, AV.sl 3 [] false], B false]) ([]) (by kernel_rfl) (ob1 (hp) ob0)

theorem of_const (es : List ByteArray) (ds : List Def) (mk mn mv mtk mtv : Int) (mtl : List Ty) (ml : List Expr) (sc : List Ty) (n v tk tv : Int) (tl : List Ty) (l : List Expr) (h : plainC (.mk 0 n v (.mk tk tv tl) l) = true) :
    OfOk ⟨es, ds, .mk mk mn mv (.mk mtk mtv mtl) ml⟩ (.mk 0 n v (.mk tk tv tl) l) sc := by
  unfold OfOk
  have hp := plain_ 0 n v tk tv tl l
  rw [tRef_const _ _ _ _ _ _ h]
  rw [h] at hp
  have hf := fin_1 v
  rcases dsp (1 ≤ v) with ⟨hb1, hb1'⟩ | ⟨hb1, hb1'⟩
  · skip
    rcases dsp (v ≤ 4) with ⟨hb2, hb2'⟩ | ⟨hb2, hb2'⟩
    · skip
      rcases dsp (0 ≤ n) with ⟨hb3, hb3'⟩ | ⟨hb3, hb3'⟩
      · skip
        rcases dsp (n < v) with ⟨hb4, hb4'⟩ | ⟨hb4, hb4'⟩
        · skip
          exact Fn.go KT Try.func15 [.reg [] [], .reg [] [(1, .call (B true) [])], .reg [] [], .reg [] [], .reg [] [(2, .call (AV.agg [I 0, I v, AV.sl 3 [] false]) []), (5, .bit true), (9, .bit true), (14, .bit true), (21, .bit true)]] [.tidO 2 [none, none, some 3]] [] (AV.tup [AV.agg [I 0, I v, AV.sl 3 [] false], B true]) ([]) (by kernel_rfl) (ob1 (hp) (ob1 (hf) (q (decide (1 ≤ v) = true) (q (decide (v ≤ 4) = true) (q (decide (0 ≤ n) = true) (q (decide (n < v) = true) ob0)))))) (by (simp only [tyF, Ty.enc, Ty.encs, *, decide_true, decide_false, Bool.and_true, Bool.and_false, Bool.true_and, Bool.false_and])) (by first | rfl | (simp [*]; done))
        · skip
          exact Fn.go KT Try.func15 [.reg [] [], .reg [] [(1, .call (B true) [])], .reg [] [], .reg [] [], .reg [] [(2, .call (AV.agg [I 0, I v, AV.sl 3 [] false]) []), (5, .bit true), (9, .bit true), (14, .bit true), (21, .bit false)]] [.tidO 2 [none, none, some 3]] [] (AV.tup [AV.agg [I 0, I v, AV.sl 3 [] false], B false]) ([]) (by kernel_rfl) (ob1 (hp) (ob1 (hf) (q (decide (1 ≤ v) = true) (q (decide (v ≤ 4) = true) (q (decide (0 ≤ n) = true) (q (decide (n < v) = false) ob0)))))) (by (simp only [tyF, Ty.enc, Ty.encs, *, decide_true, decide_false, Bool.and_true, Bool.and_false, Bool.true_and, Bool.false_and])) (by first | rfl | (simp [*]; done))
      · skip
        exact Fn.go KT Try.func15 [.reg [] [], .reg [] [(1, .call (B true) [])], .reg [] [], .reg [] [], .reg [] [(2, .call (AV.agg [I 0, I v, AV.sl 3 [] false]) []), (5, .bit true), (9, .bit true), (14, .bit false)]] [.tidO 2 [none, none, some 3]] [] (AV.tup [AV.agg [I 0, I v, AV.sl 3 [] false], B false]) ([]) (by kernel_rfl) (ob1 (hp) (ob1 (hf) (q (decide (1 ≤ v) = true) (q (decide (v ≤ 4) = true) (q (decide (0 ≤ n) = false) ob0))))) (by (simp only [tyF, Ty.enc, Ty.encs, *, decide_true, decide_false, Bool.and_true, Bool.and_false, Bool.true_and, Bool.false_and])) (by first | rfl | (simp [*]; done))
    · skip
      exact Fn.go KT Try.func15 [.reg [] [], .reg [] [(1, .call (B true) [])], .reg [] [], .reg [] [], .reg [] [(2, .call (AV.agg [I 0, I v, AV.sl 3 [] false]) []), (5, .bit true), (9, .bit false)]] [.tidO 2 [none, none, some 3]] [] (AV.tup [AV.agg [I 0, I v, AV.sl 3 [] false], B false]) ([]) (by kernel_rfl) (ob1 (hp) (ob1 (hf) (q (decide (1 ≤ v) = true) (q (decide (v ≤ 4) = false) ob0)))) (by (simp only [tyF, Ty.enc, Ty.encs, *, decide_true, decide_false, Bool.and_true, Bool.and_false, Bool.true_and, Bool.false_and])) (by first | rfl | (simp [*]; done))
  · skip
    exact Fn.go KT Try.func15 [.reg [] [], .reg [] [(1, .call (B true) [])], .reg [] [], .reg [] [], .reg [] [(2, .call (AV.agg [I 0, I v, AV.sl 3 [] false]) []), (5, .bit false)]] [.tidO 2 [none, none, some 3]] [] (AV.tup [AV.agg [I 0, I v, AV.sl 3 [] false], B false]) ([]) (by kernel_rfl) (ob1 (hp) (ob1 (hf) (q (decide (1 ≤ v) = false) ob0))) (by (simp only [tyF, Ty.enc, Ty.encs, *, decide_true, decide_false, Bool.and_true, Bool.and_false, Bool.true_and, Bool.false_and])) (by first | rfl | (simp [*]; done))

theorem of_pick (es : List ByteArray) (ds : List Def) (mk mn mv mtk mtv : Int) (mtl : List Ty) (ml : List Expr) (sc : List Ty) (n v tk tv : Int) (tl : List Ty) (l : List Expr) (h : plainC (.mk 8 n v (.mk tk tv tl) l) = true) :
    OfOk ⟨es, ds, .mk mk mn mv (.mk mtk mtv mtl) ml⟩ (.mk 8 n v (.mk tk tv tl) l) sc := by
  unfold OfOk
  have hp := plain_ 8 n v tk tv tl l
  rw [tRef_pick _ _ _ _ _ _ h]
  rw [h] at hp
  have hf := fin_1 v
  rcases dsp (1 ≤ v) with ⟨hb1, hb1'⟩ | ⟨hb1, hb1'⟩
  · skip
    rcases dsp (v ≤ 4) with ⟨hb2, hb2'⟩ | ⟨hb2, hb2'⟩
    · skip
      exact Fn.go KT Try.func15 [.reg [] [], .reg [] [(1, .call (B true) [])], .reg [] [], .reg [] [], .reg [] [], .reg [] [(2, .call (AV.agg [I 0, I v, AV.sl 3 [] false]) []), (5, .bit true), (9, .bit true)]] [.tidO 2 [none, none, some 3]] [] (AV.tup [AV.agg [I 0, I v, AV.sl 3 [] false], B true]) ([]) (by kernel_rfl) (ob1 (hp) (ob1 (hf) (q (decide (1 ≤ v) = true) (q (decide (v ≤ 4) = true) ob0)))) (by (simp only [tyF, Ty.enc, Ty.encs, *, decide_true, decide_false, Bool.and_true, Bool.and_false, Bool.true_and, Bool.false_and])) (by first | rfl | (simp [*]; done))
    · skip
      exact Fn.go KT Try.func15 [.reg [] [], .reg [] [(1, .call (B true) [])], .reg [] [], .reg [] [], .reg [] [], .reg [] [(2, .call (AV.agg [I 0, I v, AV.sl 3 [] false]) []), (5, .bit true), (9, .bit false)]] [.tidO 2 [none, none, some 3]] [] (AV.tup [AV.agg [I 0, I v, AV.sl 3 [] false], B false]) ([]) (by kernel_rfl) (ob1 (hp) (ob1 (hf) (q (decide (1 ≤ v) = true) (q (decide (v ≤ 4) = false) ob0)))) (by (simp only [tyF, Ty.enc, Ty.encs, *, decide_true, decide_false, Bool.and_true, Bool.and_false, Bool.true_and, Bool.false_and])) (by first | rfl | (simp [*]; done))
  · skip
    exact Fn.go KT Try.func15 [.reg [] [], .reg [] [(1, .call (B true) [])], .reg [] [], .reg [] [], .reg [] [], .reg [] [(2, .call (AV.agg [I 0, I v, AV.sl 3 [] false]) []), (5, .bit false)]] [.tidO 2 [none, none, some 3]] [] (AV.tup [AV.agg [I 0, I v, AV.sl 3 [] false], B false]) ([]) (by kernel_rfl) (ob1 (hp) (ob1 (hf) (q (decide (1 ≤ v) = false) ob0))) (by (simp only [tyF, Ty.enc, Ty.encs, *, decide_true, decide_false, Bool.and_true, Bool.and_false, Bool.true_and, Bool.false_and])) (by first | rfl | (simp [*]; done))

theorem of_var (es : List ByteArray) (ds : List Def) (mk mn mv mtk mtv : Int) (mtl : List Ty) (ml : List Expr) (sc : List Ty) (n v tk tv : Int) (tl : List Ty) (l : List Expr) (h : plainC (.mk 1 n v (.mk tk tv tl) l) = true) :
    OfOk ⟨es, ds, .mk mk mn mv (.mk mtk mtv mtl) ml⟩ (.mk 1 n v (.mk tk tv tl) l) sc := by
  unfold OfOk
  have hp := plain_ 1 n v tk tv tl l
  rw [tRef_var _ _ _ _ _ _ h]
  rw [h] at hp
  by_cases h1 : 0 ≤ n
  · by_cases h2 : n < (sc.length : Int)
    · have hj : n.toNat < sc.length := by omega
      obtain ⟨ka, va, la, hg⟩ : ∃ ka va la, sc[n.toNat]? = some (Ty.mk ka va la) := by
        rcases hx : sc[n.toNat]'hj with ⟨ka, va, la⟩
        exact ⟨ka, va, la, by rw [List.getElem?_eq_getElem hj, hx]⟩
      have hx : (Ty.encs sc)[n.toNat]? = some (Ty.mk ka va la).enc := by rw [Ty.encs_get, hg]; rfl
      simp only [decide_eq_true h1, decide_eq_true h2, Bool.and_true, if_true, hg]
      exact Fn.go KT Try.func15 [.reg [] [], .reg [] [(1, .call (B true) [])], .reg [] [], .reg [] [], .reg [] [], .reg [] [], .reg [] [(2, .bit false), (7, .int (↑(List.length sc) : Int)), (8, .bit false)], .reg [] [(3, .row (Int.toNat n) (Ty.enc (Ty.mk ka va la)))]] [.tidO 2 [none, none, some 3]] [] (AV.tup [AV.agg [I ka, I va, AV.sl 3 (Ty.encs la) false], B true]) ([]) (by kernel_rfl) (ob1 (hp) (q (decide (n < 0) = false) (q ((↑(List.length (Ty.encs sc)) : Int) = (↑(List.length sc) : Int)) (q (decide ((↑(List.length sc) : Int) ≤ n) = false) (q (n = (↑(Int.toNat n) : Int)) (q ((Ty.encs sc)[Int.toNat n]? = some (Ty.enc (Ty.mk ka va la))) ob0))))))
    · simp only [decide_eq_false h2, Bool.and_false, Bool.false_eq_true, if_false]
      exact Fn.go KT Try.func15 [.reg [] [], .reg [] [(1, .call (B true) [])], .reg [] [], .reg [] [], .reg [] [], .reg [] [], .reg [] [(2, .bit false), (7, .int (↑(List.length sc) : Int)), (8, .bit true)], .reg [] []] [.tidO 2 [none, none, some 3]] [] (AV.tup [AV.agg [I 0, I 0, AV.sl 3 [] false], B false]) ([]) (by kernel_rfl) (ob1 (hp) (q (decide (n < 0) = false) (q ((↑(List.length (Ty.encs sc)) : Int) = (↑(List.length sc) : Int)) (q (decide ((↑(List.length sc) : Int) ≤ n) = true) ob0))))
  · simp only [decide_eq_false h1, Bool.false_and, Bool.false_eq_true, if_false]
    exact Fn.go KT Try.func15 [.reg [] [], .reg [] [(1, .call (B true) [])], .reg [] [], .reg [] [], .reg [] [], .reg [] [], .reg [] [(2, .bit true)], .reg [] []] [.tidO 2 [none, none, some 3]] [] (AV.tup [AV.agg [I 0, I 0, AV.sl 3 [] false], B false]) ([]) (by kernel_rfl) (ob1 (hp) (q (decide (n < 0) = true) ob0))

theorem of_fun (es : List ByteArray) (ds : List Def) (mk mn mv mtk mtv : Int) (mtl : List Ty) (ml : List Expr) (sc : List Ty) (n v tk tv : Int) (tl : List Ty) (l : List Expr) (hs : ds.length ≤ 1000) (hd : ∀ d ∈ ds, d.ok) (h : plainC (.mk 2 n v (.mk tk tv tl) l) = true) :
    OfOk ⟨es, ds, .mk mk mn mv (.mk mtk mtv mtl) ml⟩ (.mk 2 n v (.mk tk tv tl) l) sc := by
  unfold OfOk
  have hp := plain_ 2 n v tk tv tl l
  rw [tRef_fun _ _ _ _ _ _ h]
  rw [h] at hp
  by_cases h1 : 0 ≤ n
  · by_cases h2 : n < (ds.length : Int)
    · have hj : n.toNat < ds.length := by omega
      obtain ⟨nm, ka, va, la, kb, vb, lb, bk, bn, bv, btk, btv, btl, bl, hg⟩ : ∃ nm ka va la kb vb lb bk bn bv btk btv btl bl, ds[n.toNat]? = some (Def.mk nm (.mk ka va la) (.mk kb vb lb) (.mk bk bn bv (.mk btk btv btl) bl)) := by
        rcases hx : ds[n.toNat]'hj with ⟨nm, ⟨ka, va, la⟩, ⟨kb, vb, lb⟩, ⟨bk, bn, bv, ⟨btk, btv, btl⟩, bl⟩⟩
        exact ⟨_, _, _, _, _, _, _, _, _, _, _, _, _, _, by rw [List.getElem?_eq_getElem hj, hx]⟩
      have hok := hd _ (List.mem_of_getElem? hg)
      have hx : (Def.encs ds)[n.toNat]? = some (Def.mk nm (.mk ka va la) (.mk kb vb lb) (.mk bk bn bv (.mk btk btv btl) bl)).enc := by rw [Def.encs_get, hg]; rfl
      have ht := tyNodes_ (.mk 1 0 [.mk ka va la, .mk kb vb lb]) 20 ⟨by unfold ir; omega, by unfold ir; omega, by simp, hok.2.1, hok.2.2.1, trivial⟩ (by omega) (by omega)
      have hf := fun_ (.mk ka va la) (.mk kb vb lb)
      simp only [decide_eq_true h1, decide_eq_true h2, Bool.and_true, if_true, hg]
      generalize tnC (.mk 1 0 [.mk ka va la, .mk kb vb lb]) 20 = E2 at ht ⊢
      clear hok hd
      by_cases h3 : E2 ≤ 20
      · simp only [decide_eq_true h3]
        exact Fn.go KT Try.func15 [.reg [] [], .reg [] [(1, .call (B true) [])], .reg [] [], .reg [] [], .reg [] [], .reg [] [], .reg [] [], .reg [] [(2, .bit false), (8, .int (↑(List.length ds) : Int)), (9, .bit false)], .reg [] [(4, .row (Int.toNat n) (Def.enc { name := nm, param := Ty.mk ka va la, result := Ty.mk kb vb lb, body := Expr.mk bk bn bv (Ty.mk btk btv btl) bl })), (11, .row (Int.toNat n) (Def.enc { name := nm, param := Ty.mk ka va la, result := Ty.mk kb vb lb, body := Expr.mk bk bn bv (Ty.mk btk btv btl) bl })), (14, .call (AV.agg [I 1, I 0, AV.sl 3 [[I ka, I va, AV.sl 3 (Ty.encs la) false], [I kb, I vb, AV.sl 3 (Ty.encs lb) false]] false]) [])], .reg [] [(2, .call (I E2) []), (3, .bit true)]] [.tidO 2 [none, none, some 3]] [] (AV.tup [AV.agg [I 1, I 0, AV.sl 3 [[I ka, I va, AV.sl 3 (Ty.encs la) false], [I kb, I vb, AV.sl 3 (Ty.encs lb) false]] false], B true]) ([]) (by kernel_rfl) (ob1 (hp) (q (decide (n < 0) = false) (q ((↑(List.length (Def.encs ds)) : Int) = (↑(List.length ds) : Int)) (q (decide ((↑(List.length ds) : Int) ≤ n) = false) (q (n = (↑(Int.toNat n) : Int)) (q ((Def.encs ds)[Int.toNat n]? = some (Def.enc { name := nm, param := Ty.mk ka va la, result := Ty.mk kb vb lb, body := Expr.mk bk bn bv (Ty.mk btk btv btl) bl })) (q (n = (↑(Int.toNat n) : Int)) (q ((Def.encs ds)[Int.toNat n]? = some (Def.enc { name := nm, param := Ty.mk ka va la, result := Ty.mk kb vb lb, body := Expr.mk bk bn bv (Ty.mk btk btv btl) bl })) (ob1 (hf) (ob1 (ht) (q (decide (E2 ≤ 20) = true) ob0)))))))))))
      · simp only [decide_eq_false h3]
        exact Fn.go KT Try.func15 [.reg [] [], .reg [] [(1, .call (B true) [])], .reg [] [], .reg [] [], .reg [] [], .reg [] [], .reg [] [], .reg [] [(2, .bit false), (8, .int (↑(List.length ds) : Int)), (9, .bit false)], .reg [] [(4, .row (Int.toNat n) (Def.enc { name := nm, param := Ty.mk ka va la, result := Ty.mk kb vb lb, body := Expr.mk bk bn bv (Ty.mk btk btv btl) bl })), (11, .row (Int.toNat n) (Def.enc { name := nm, param := Ty.mk ka va la, result := Ty.mk kb vb lb, body := Expr.mk bk bn bv (Ty.mk btk btv btl) bl })), (14, .call (AV.agg [I 1, I 0, AV.sl 3 [[I ka, I va, AV.sl 3 (Ty.encs la) false], [I kb, I vb, AV.sl 3 (Ty.encs lb) false]] false]) [])], .reg [] [(2, .call (I E2) []), (3, .bit false)]] [.tidO 2 [none, none, some 3]] [] (AV.tup [AV.agg [I 1, I 0, AV.sl 3 [[I ka, I va, AV.sl 3 (Ty.encs la) false], [I kb, I vb, AV.sl 3 (Ty.encs lb) false]] false], B false]) ([]) (by kernel_rfl) (ob1 (hp) (q (decide (n < 0) = false) (q ((↑(List.length (Def.encs ds)) : Int) = (↑(List.length ds) : Int)) (q (decide ((↑(List.length ds) : Int) ≤ n) = false) (q (n = (↑(Int.toNat n) : Int)) (q ((Def.encs ds)[Int.toNat n]? = some (Def.enc { name := nm, param := Ty.mk ka va la, result := Ty.mk kb vb lb, body := Expr.mk bk bn bv (Ty.mk btk btv btl) bl })) (q (n = (↑(Int.toNat n) : Int)) (q ((Def.encs ds)[Int.toNat n]? = some (Def.enc { name := nm, param := Ty.mk ka va la, result := Ty.mk kb vb lb, body := Expr.mk bk bn bv (Ty.mk btk btv btl) bl })) (ob1 (hf) (ob1 (ht) (q (decide (E2 ≤ 20) = false) ob0)))))))))))
    · simp only [decide_eq_false h2, Bool.and_false, Bool.false_eq_true, if_false]
      exact Fn.go KT Try.func15 [.reg [] [], .reg [] [(1, .call (B true) [])], .reg [] [], .reg [] [], .reg [] [], .reg [] [], .reg [] [], .reg [] [(2, .bit false), (8, .int (↑(List.length ds) : Int)), (9, .bit true)], .reg [] []] [.tidO 2 [none, none, some 3]] [] (AV.tup [AV.agg [I 0, I 0, AV.sl 3 [] false], B false]) ([]) (by kernel_rfl) (ob1 (hp) (q (decide (n < 0) = false) (q ((↑(List.length (Def.encs ds)) : Int) = (↑(List.length ds) : Int)) (q (decide ((↑(List.length ds) : Int) ≤ n) = true) ob0))))
  · simp only [decide_eq_false h1, Bool.false_and, Bool.false_eq_true, if_false]
    exact Fn.go KT Try.func15 [.reg [] [], .reg [] [(1, .call (B true) [])], .reg [] [], .reg [] [], .reg [] [], .reg [] [], .reg [] [], .reg [] [(2, .bit true)], .reg [] []] [.tidO 2 [none, none, some 3]] [] (AV.tup [AV.agg [I 0, I 0, AV.sl 3 [] false], B false]) ([]) (by kernel_rfl) (ob1 (hp) (q (decide (n < 0) = true) ob0))

end Go.Ae

/- ref25.Of: ELam, EEvent, ELet, EApp. -/
namespace Go.Ae
open Go.Proofs

theorem of_lam (es : List ByteArray) (ds : List Def) (mk mn mv mtk mtv : Int) (mtl : List Ty) (ml : List Expr) (sc : List Ty) (n v tk tv : Int) (tl : List Ty) (ak an av atk atv : Int) (atl : List Ty) (al : List Expr)
    (h : plainC (.mk 4 n v (.mk tk tv tl) [.mk ak an av (.mk atk atv atl) al]) = true) (hs : sc.length ≤ 1000) (htok : (Ty.mk tk tv tl).ok)
    (ha : OfOk ⟨es, ds, .mk mk mn mv (.mk mtk mtv mtl) ml⟩ (.mk ak an av (.mk atk atv atl) al) (.mk tk tv tl :: sc))
    (hok : (tRef ⟨es, ds, .mk mk mn mv (.mk mtk mtv mtl) ml⟩ (.mk ak an av (.mk atk atv atl) al) (.mk tk tv tl :: sc)).1.ok) :
    OfOk ⟨es, ds, .mk mk mn mv (.mk mtk mtv mtl) ml⟩ (.mk 4 n v (.mk tk tv tl) [.mk ak an av (.mk atk atv atl) al]) sc := by
  unfold OfOk at ha ⊢
  have hp := plain_ 4 n v tk tv tl [.mk ak an av (.mk atk atv atl) al]
  rw [tRef_lam _ _ _ _ _ _ h]
  rw [h] at hp
  have hi := refIsTy_ (.mk tk tv tl) htok
  have hu := inside_ (.mk tk tv tl) sc hs
  unfold isTyR
  generalize (decide (tnC (.mk tk tv tl) 20 ≤ 20) && shC (.mk tk tv tl)) = E1 at hi ⊢
  generalize tRef ⟨es, ds, .mk mk mn mv (.mk mtk mtv mtl) ml⟩ (.mk ak an av (.mk atk atv atl) al) (.mk tk tv tl :: sc) = T at ha hok ⊢
  obtain ⟨⟨rk, rv, rl⟩, rb⟩ := T
  have hf := fun_ (.mk tk tv tl) (.mk rk rv rl)
  have hj := tyNodes_ (.mk 1 0 [.mk tk tv tl, .mk rk rv rl]) 20 ⟨by unfold ir; omega, by unfold ir; omega, by simp, htok, hok, trivial⟩ (by omega) (by omega)
  dsimp only
  generalize tnC (.mk 1 0 [.mk tk tv tl, .mk rk rv rl]) 20 = E2 at hj ⊢
  clear htok hok
  cases rb with
  | false =>
    simp only [Bool.false_and]
    exact Fn.go KT Try.func15 [.reg [] [], .reg [] [(1, .call (B true) [])], .reg [] [], .reg [] [], .reg [] [], .reg [] [], .reg [] [], .reg [] [], .reg [] [(4, .call (AV.sl 3 ([I tk, I tv, AV.sl 3 (Ty.encs tl) false] :: Ty.encs sc) false) []), (7, .row 0 [I ak, I an, I av, I atk, I atv, AV.sl 3 (Ty.encs atl) false, AV.sl 7 (Expr.encs al) false]), (9, .call (AV.tup [AV.agg [I rk, I rv, AV.sl 3 (Ty.encs rl) false], B false]) [])], .reg [] [(3, .call (AV.agg [I 1, I 0, AV.sl 3 [[I tk, I tv, AV.sl 3 (Ty.encs tl) false], [I rk, I rv, AV.sl 3 (Ty.encs rl) false]] false]) [])]] [.tidO 2 [none, none, some 3]] [] (AV.tup [AV.agg [I 1, I 0, AV.sl 3 [[I tk, I tv, AV.sl 3 (Ty.encs tl) false], [I rk, I rv, AV.sl 3 (Ty.encs rl) false]] false], B false]) ([]) (by kernel_rfl) (ob1 (hp) (ob1 (hu) (q ((0 : Int) = (↑(0 : Nat) : Int)) (q ([[I ak, I an, I av, I atk, I atv, AV.sl 3 (Ty.encs atl) false, AV.sl 7 (Expr.encs al) false]][0]? = some [I ak, I an, I av, I atk, I atv, AV.sl 3 (Ty.encs atl) false, AV.sl 7 (Expr.encs al) false]) (ob1 (ha) (ob1 (hf) ob0))))))
  | true =>
    cases E1 with
    | false =>
      simp only [Bool.and_false, Bool.false_and]
      exact Fn.go KT Try.func15 [.reg [] [], .reg [] [(1, .call (B true) [])], .reg [] [], .reg [] [], .reg [] [], .reg [] [], .reg [] [], .reg [] [], .reg [] [(4, .call (AV.sl 3 ([I tk, I tv, AV.sl 3 (Ty.encs tl) false] :: Ty.encs sc) false) []), (7, .row 0 [I ak, I an, I av, I atk, I atv, AV.sl 3 (Ty.encs atl) false, AV.sl 7 (Expr.encs al) false]), (9, .call (AV.tup [AV.agg [I rk, I rv, AV.sl 3 (Ty.encs rl) false], B true]) [])], .reg [] [(3, .call (AV.agg [I 1, I 0, AV.sl 3 [[I tk, I tv, AV.sl 3 (Ty.encs tl) false], [I rk, I rv, AV.sl 3 (Ty.encs rl) false]] false]) []), (8, .call (B false) [])]] [.tidO 2 [none, none, some 3]] [] (AV.tup [AV.agg [I 1, I 0, AV.sl 3 [[I tk, I tv, AV.sl 3 (Ty.encs tl) false], [I rk, I rv, AV.sl 3 (Ty.encs rl) false]] false], B false]) ([]) (by kernel_rfl) (ob1 (hp) (ob1 (hu) (q ((0 : Int) = (↑(0 : Nat) : Int)) (q ([[I ak, I an, I av, I atk, I atv, AV.sl 3 (Ty.encs atl) false, AV.sl 7 (Expr.encs al) false]][0]? = some [I ak, I an, I av, I atk, I atv, AV.sl 3 (Ty.encs atl) false, AV.sl 7 (Expr.encs al) false]) (ob1 (ha) (ob1 (hf) (ob1 (hi) ob0)))))))
    | true =>
      by_cases h3 : E2 ≤ 20
      · simp only [decide_eq_true h3, Bool.and_true]
        exact Fn.go KT Try.func15 [.reg [] [], .reg [] [(1, .call (B true) [])], .reg [] [], .reg [] [], .reg [] [], .reg [] [], .reg [] [], .reg [] [], .reg [] [(4, .call (AV.sl 3 ([I tk, I tv, AV.sl 3 (Ty.encs tl) false] :: Ty.encs sc) false) []), (7, .row 0 [I ak, I an, I av, I atk, I atv, AV.sl 3 (Ty.encs atl) false, AV.sl 7 (Expr.encs al) false]), (9, .call (AV.tup [AV.agg [I rk, I rv, AV.sl 3 (Ty.encs rl) false], B true]) [])], .reg [] [(3, .call (AV.agg [I 1, I 0, AV.sl 3 [[I tk, I tv, AV.sl 3 (Ty.encs tl) false], [I rk, I rv, AV.sl 3 (Ty.encs rl) false]] false]) []), (8, .call (B true) []), (14, .call (AV.agg [I 1, I 0, AV.sl 3 [[I tk, I tv, AV.sl 3 (Ty.encs tl) false], [I rk, I rv, AV.sl 3 (Ty.encs rl) false]] false]) []), (15, .call (I E2) []), (16, .bit true)]] [.tidO 2 [none, none, some 3]] [] (AV.tup [AV.agg [I 1, I 0, AV.sl 3 [[I tk, I tv, AV.sl 3 (Ty.encs tl) false], [I rk, I rv, AV.sl 3 (Ty.encs rl) false]] false], B true]) ([]) (by kernel_rfl) (ob1 (hp) (ob1 (hu) (q ((0 : Int) = (↑(0 : Nat) : Int)) (q ([[I ak, I an, I av, I atk, I atv, AV.sl 3 (Ty.encs atl) false, AV.sl 7 (Expr.encs al) false]][0]? = some [I ak, I an, I av, I atk, I atv, AV.sl 3 (Ty.encs atl) false, AV.sl 7 (Expr.encs al) false]) (ob1 (ha) (ob1 (hf) (ob1 (hi) (ob1 (hf) (ob1 (hj) (q (decide (E2 ≤ 20) = true) ob0))))))))))
      · simp only [decide_eq_false h3, Bool.and_false]
        exact Fn.go KT Try.func15 [.reg [] [], .reg [] [(1, .call (B true) [])], .reg [] [], .reg [] [], .reg [] [], .reg [] [], .reg [] [], .reg [] [], .reg [] [(4, .call (AV.sl 3 ([I tk, I tv, AV.sl 3 (Ty.encs tl) false] :: Ty.encs sc) false) []), (7, .row 0 [I ak, I an, I av, I atk, I atv, AV.sl 3 (Ty.encs atl) false, AV.sl 7 (Expr.encs al) false]), (9, .call (AV.tup [AV.agg [I rk, I rv, AV.sl 3 (Ty.encs rl) false], B true]) [])], .reg [] [(3, .call (AV.agg [I 1, I 0, AV.sl 3 [[I tk, I tv, AV.sl 3 (Ty.encs tl) false], [I rk, I rv, AV.sl 3 (Ty.encs rl) false]] false]) []), (8, .call (B true) []), (14, .call (AV.agg [I 1, I 0, AV.sl 3 [[I tk, I tv, AV.sl 3 (Ty.encs tl) false], [I rk, I rv, AV.sl 3 (Ty.encs rl) false]] false]) []), (15, .call (I E2) []), (16, .bit false)]] [.tidO 2 [none, none, some 3]] [] (AV.tup [AV.agg [I 1, I 0, AV.sl 3 [[I tk, I tv, AV.sl 3 (Ty.encs tl) false], [I rk, I rv, AV.sl 3 (Ty.encs rl) false]] false], B false]) ([]) (by kernel_rfl) (ob1 (hp) (ob1 (hu) (q ((0 : Int) = (↑(0 : Nat) : Int)) (q ([[I ak, I an, I av, I atk, I atv, AV.sl 3 (Ty.encs atl) false, AV.sl 7 (Expr.encs al) false]][0]? = some [I ak, I an, I av, I atk, I atv, AV.sl 3 (Ty.encs atl) false, AV.sl 7 (Expr.encs al) false]) (ob1 (ha) (ob1 (hf) (ob1 (hi) (ob1 (hf) (ob1 (hj) (q (decide (E2 ≤ 20) = false) ob0))))))))))

theorem of_event (es : List ByteArray) (ds : List Def) (mk mn mv mtk mtv : Int) (mtl : List Ty) (ml : List Expr) (sc : List Ty) (n v tk tv : Int) (tl : List Ty) (ak an av atk atv : Int) (atl : List Ty) (al : List Expr)
    (h : plainC (.mk 7 n v (.mk tk tv tl) [.mk ak an av (.mk atk atv atl) al]) = true) (hs : es.length ≤ 1000)
    (ha : OfOk ⟨es, ds, .mk mk mn mv (.mk mtk mtv mtl) ml⟩ (.mk ak an av (.mk atk atv atl) al) sc) :
    OfOk ⟨es, ds, .mk mk mn mv (.mk mtk mtv mtl) ml⟩ (.mk 7 n v (.mk tk tv tl) [.mk ak an av (.mk atk atv atl) al]) sc := by
  unfold OfOk at ha ⊢
  have hp := plain_ 7 n v tk tv tl [.mk ak an av (.mk atk atv atl) al]
  rw [tRef_event _ _ _ _ _ _ h]
  rw [h] at hp
  generalize tRef ⟨es, ds, .mk mk mn mv (.mk mtk mtv mtl) ml⟩ (.mk ak an av (.mk atk atv atl) al) sc = T at ha ⊢
  obtain ⟨⟨rk, rv, rl⟩, rb⟩ := T
  dsimp only
  cases rb with
  | false =>
    simp only [Bool.false_and]
    exact Fn.go KT Try.func15 [.reg [] [], .reg [] [(1, .call (B true) [])], .reg [] [], .reg [] [], .reg [] [], .reg [] [], .reg [] [], .reg [] [], .reg [] [], .reg [] [(4, .row 0 [I ak, I an, I av, I atk, I atv, AV.sl 3 (Ty.encs atl) false, AV.sl 7 (Expr.encs al) false]), (6, .call (AV.tup [AV.agg [I rk, I rv, AV.sl 3 (Ty.encs rl) false], B false]) [])], .reg [] []] [.tidO 2 [none, none, some 3]] [] (AV.tup [AV.agg [I rk, I rv, AV.sl 3 (Ty.encs rl) false], B false]) ([]) (by kernel_rfl) (ob1 (hp) (q ((0 : Int) = (↑(0 : Nat) : Int)) (q ([[I ak, I an, I av, I atk, I atv, AV.sl 3 (Ty.encs atl) false, AV.sl 7 (Expr.encs al) false]][0]? = some [I ak, I an, I av, I atk, I atv, AV.sl 3 (Ty.encs atl) false, AV.sl 7 (Expr.encs al) false]) (ob1 (ha) ob0))))
  | true =>
    by_cases h1 : 0 ≤ n
    · by_cases h2 : n < (es.length : Int)
      · simp only [decide_eq_true h1, decide_eq_true h2, Bool.and_true]
        exact Fn.go KT Try.func15 [.reg [] [], .reg [] [(1, .call (B true) [])], .reg [] [], .reg [] [], .reg [] [], .reg [] [], .reg [] [], .reg [] [], .reg [] [], .reg [] [(4, .row 0 [I ak, I an, I av, I atk, I atv, AV.sl 3 (Ty.encs atl) false, AV.sl 7 (Expr.encs al) false]), (6, .call (AV.tup [AV.agg [I rk, I rv, AV.sl 3 (Ty.encs rl) false], B true]) [])], .reg [] [(5, .bit true), (12, .int (↑(List.length es) : Int)), (13, .bit true)]] [.tidO 2 [none, none, some 3]] [] (AV.tup [AV.agg [I rk, I rv, AV.sl 3 (Ty.encs rl) false], B true]) ([]) (by kernel_rfl) (ob1 (hp) (q ((0 : Int) = (↑(0 : Nat) : Int)) (q ([[I ak, I an, I av, I atk, I atv, AV.sl 3 (Ty.encs atl) false, AV.sl 7 (Expr.encs al) false]][0]? = some [I ak, I an, I av, I atk, I atv, AV.sl 3 (Ty.encs atl) false, AV.sl 7 (Expr.encs al) false]) (ob1 (ha) (q (decide (0 ≤ n) = true) (q ((↑(List.length (strs es)) : Int) = (↑(List.length es) : Int)) (q (decide (n < (↑(List.length es) : Int)) = true) ob0)))))))
      · simp only [decide_eq_false h2, Bool.and_false]
        exact Fn.go KT Try.func15 [.reg [] [], .reg [] [(1, .call (B true) [])], .reg [] [], .reg [] [], .reg [] [], .reg [] [], .reg [] [], .reg [] [], .reg [] [], .reg [] [(4, .row 0 [I ak, I an, I av, I atk, I atv, AV.sl 3 (Ty.encs atl) false, AV.sl 7 (Expr.encs al) false]), (6, .call (AV.tup [AV.agg [I rk, I rv, AV.sl 3 (Ty.encs rl) false], B true]) [])], .reg [] [(5, .bit true), (12, .int (↑(List.length es) : Int)), (13, .bit false)]] [.tidO 2 [none, none, some 3]] [] (AV.tup [AV.agg [I rk, I rv, AV.sl 3 (Ty.encs rl) false], B false]) ([]) (by kernel_rfl) (ob1 (hp) (q ((0 : Int) = (↑(0 : Nat) : Int)) (q ([[I ak, I an, I av, I atk, I atv, AV.sl 3 (Ty.encs atl) false, AV.sl 7 (Expr.encs al) false]][0]? = some [I ak, I an, I av, I atk, I atv, AV.sl 3 (Ty.encs atl) false, AV.sl 7 (Expr.encs al) false]) (ob1 (ha) (q (decide (0 ≤ n) = true) (q ((↑(List.length (strs es)) : Int) = (↑(List.length es) : Int)) (q (decide (n < (↑(List.length es) : Int)) = false) ob0)))))))
    · simp only [decide_eq_false h1, Bool.and_false, Bool.false_and]
      exact Fn.go KT Try.func15 [.reg [] [], .reg [] [(1, .call (B true) [])], .reg [] [], .reg [] [], .reg [] [], .reg [] [], .reg [] [], .reg [] [], .reg [] [], .reg [] [(4, .row 0 [I ak, I an, I av, I atk, I atv, AV.sl 3 (Ty.encs atl) false, AV.sl 7 (Expr.encs al) false]), (6, .call (AV.tup [AV.agg [I rk, I rv, AV.sl 3 (Ty.encs rl) false], B true]) [])], .reg [] [(5, .bit false)]] [.tidO 2 [none, none, some 3]] [] (AV.tup [AV.agg [I rk, I rv, AV.sl 3 (Ty.encs rl) false], B false]) ([]) (by kernel_rfl) (ob1 (hp) (q ((0 : Int) = (↑(0 : Nat) : Int)) (q ([[I ak, I an, I av, I atk, I atv, AV.sl 3 (Ty.encs atl) false, AV.sl 7 (Expr.encs al) false]][0]? = some [I ak, I an, I av, I atk, I atv, AV.sl 3 (Ty.encs atl) false, AV.sl 7 (Expr.encs al) false]) (ob1 (ha) (q (decide (0 ≤ n) = false) ob0)))))

theorem of_let (es : List ByteArray) (ds : List Def) (mk mn mv mtk mtv : Int) (mtl : List Ty) (ml : List Expr) (sc : List Ty) (n v tk tv : Int) (tl : List Ty)
    (ak an av atk atv : Int) (atl : List Ty) (al : List Expr) (bk bn bv btk btv : Int) (btl : List Ty) (bl : List Expr) (hs : sc.length ≤ 1000)
    (h : plainC (.mk 5 n v (.mk tk tv tl) [.mk ak an av (.mk atk atv atl) al, .mk bk bn bv (.mk btk btv btl) bl]) = true)
    (ha : OfOk ⟨es, ds, .mk mk mn mv (.mk mtk mtv mtl) ml⟩ (.mk ak an av (.mk atk atv atl) al) sc)
    (hb : ∀ t, (tRef ⟨es, ds, .mk mk mn mv (.mk mtk mtv mtl) ml⟩ (.mk ak an av (.mk atk atv atl) al) sc) = (t, true) → OfOk ⟨es, ds, .mk mk mn mv (.mk mtk mtv mtl) ml⟩ (.mk bk bn bv (.mk btk btv btl) bl) (t :: sc)) :
    OfOk ⟨es, ds, .mk mk mn mv (.mk mtk mtv mtl) ml⟩ (.mk 5 n v (.mk tk tv tl) [.mk ak an av (.mk atk atv atl) al, .mk bk bn bv (.mk btk btv btl) bl]) sc := by
  unfold OfOk at ha hb ⊢
  have hp := plain_ 5 n v tk tv tl [.mk ak an av (.mk atk atv atl) al, .mk bk bn bv (.mk btk btv btl) bl]
  rw [tRef_let _ _ _ _ _ _ _ h]
  rw [h] at hp
  generalize tRef ⟨es, ds, .mk mk mn mv (.mk mtk mtv mtl) ml⟩ (.mk ak an av (.mk atk atv atl) al) sc = T at ha hb ⊢
  obtain ⟨⟨rk, rv, rl⟩, rb⟩ := T
  cases rb with
  | false =>
    clear hb
    simp only [Bool.false_eq_true, if_false]
    exact Fn.go KT Try.func15 [.reg [] [], .reg [] [(1, .call (B true) [])], .reg [] [], .reg [] [], .reg [] [], .reg [] [], .reg [] [], .reg [] [], .reg [] [], .reg [] [(4, .row 0 [I ak, I an, I av, I atk, I atv, AV.sl 3 (Ty.encs atl) false, AV.sl 7 (Expr.encs al) false]), (6, .call (AV.tup [AV.agg [I rk, I rv, AV.sl 3 (Ty.encs rl) false], B false]) [])], .reg [] [], .reg [] []] [.tidO 2 [none, none, some 3]] [] (AV.tup [AV.agg [I 0, I 0, AV.sl 3 [] false], B false]) ([]) (by kernel_rfl) (ob1 (hp) (q ((0 : Int) = (↑(0 : Nat) : Int)) (q ([[I ak, I an, I av, I atk, I atv, AV.sl 3 (Ty.encs atl) false, AV.sl 7 (Expr.encs al) false], [I bk, I bn, I bv, I btk, I btv, AV.sl 3 (Ty.encs btl) false, AV.sl 7 (Expr.encs bl) false]][0]? = some [I ak, I an, I av, I atk, I atv, AV.sl 3 (Ty.encs atl) false, AV.sl 7 (Expr.encs al) false]) (ob1 (ha) ob0))))
  | true =>
    replace hb := hb _ rfl
    have hu := inside_ (.mk rk rv rl) sc hs
    simp only [if_true]
    generalize tRef ⟨es, ds, .mk mk mn mv (.mk mtk mtv mtl) ml⟩ (.mk bk bn bv (.mk btk btv btl) bl) (.mk rk rv rl :: sc) = U at hb ⊢
    obtain ⟨⟨uk, uv, ul⟩, ub⟩ := U
    cases ub with
    | true => exact Fn.go KT Try.func15 [.reg [] [], .reg [] [(1, .call (B true) [])], .reg [] [], .reg [] [], .reg [] [], .reg [] [], .reg [] [], .reg [] [], .reg [] [], .reg [] [(4, .row 0 [I ak, I an, I av, I atk, I atv, AV.sl 3 (Ty.encs atl) false, AV.sl 7 (Expr.encs al) false]), (6, .call (AV.tup [AV.agg [I rk, I rv, AV.sl 3 (Ty.encs rl) false], B true]) [])], .reg [] [], .reg [] [], .reg [] [], .reg [] [(3, .call (AV.sl 3 ([I rk, I rv, AV.sl 3 (Ty.encs rl) false] :: Ty.encs sc) false) []), (6, .row 1 [I bk, I bn, I bv, I btk, I btv, AV.sl 3 (Ty.encs btl) false, AV.sl 7 (Expr.encs bl) false]), (8, .call (AV.tup [AV.agg [I uk, I uv, AV.sl 3 (Ty.encs ul) false], B true]) [])]] [.tidO 2 [none, none, some 3]] [] (AV.tup [AV.agg [I uk, I uv, AV.sl 3 (Ty.encs ul) false], B true]) ([]) (by kernel_rfl) (ob1 (hp) (q ((0 : Int) = (↑(0 : Nat) : Int)) (q ([[I ak, I an, I av, I atk, I atv, AV.sl 3 (Ty.encs atl) false, AV.sl 7 (Expr.encs al) false], [I bk, I bn, I bv, I btk, I btv, AV.sl 3 (Ty.encs btl) false, AV.sl 7 (Expr.encs bl) false]][0]? = some [I ak, I an, I av, I atk, I atv, AV.sl 3 (Ty.encs atl) false, AV.sl 7 (Expr.encs al) false]) (ob1 (ha) (ob1 (hu) (q ((1 : Int) = (↑(1 : Nat) : Int)) (q ([[I ak, I an, I av, I atk, I atv, AV.sl 3 (Ty.encs atl) false, AV.sl 7 (Expr.encs al) false], [I bk, I bn, I bv, I btk, I btv, AV.sl 3 (Ty.encs btl) false, AV.sl 7 (Expr.encs bl) false]][1]? = some [I bk, I bn, I bv, I btk, I btv, AV.sl 3 (Ty.encs btl) false, AV.sl 7 (Expr.encs bl) false]) (ob1 (hb) ob0))))))))
    | false => exact Fn.go KT Try.func15 [.reg [] [], .reg [] [(1, .call (B true) [])], .reg [] [], .reg [] [], .reg [] [], .reg [] [], .reg [] [], .reg [] [], .reg [] [], .reg [] [(4, .row 0 [I ak, I an, I av, I atk, I atv, AV.sl 3 (Ty.encs atl) false, AV.sl 7 (Expr.encs al) false]), (6, .call (AV.tup [AV.agg [I rk, I rv, AV.sl 3 (Ty.encs rl) false], B true]) [])], .reg [] [], .reg [] [], .reg [] [], .reg [] [(3, .call (AV.sl 3 ([I rk, I rv, AV.sl 3 (Ty.encs rl) false] :: Ty.encs sc) false) []), (6, .row 1 [I bk, I bn, I bv, I btk, I btv, AV.sl 3 (Ty.encs btl) false, AV.sl 7 (Expr.encs bl) false]), (8, .call (AV.tup [AV.agg [I uk, I uv, AV.sl 3 (Ty.encs ul) false], B false]) [])]] [.tidO 2 [none, none, some 3]] [] (AV.tup [AV.agg [I uk, I uv, AV.sl 3 (Ty.encs ul) false], B false]) ([]) (by kernel_rfl) (ob1 (hp) (q ((0 : Int) = (↑(0 : Nat) : Int)) (q ([[I ak, I an, I av, I atk, I atv, AV.sl 3 (Ty.encs atl) false, AV.sl 7 (Expr.encs al) false], [I bk, I bn, I bv, I btk, I btv, AV.sl 3 (Ty.encs btl) false, AV.sl 7 (Expr.encs bl) false]][0]? = some [I ak, I an, I av, I atk, I atv, AV.sl 3 (Ty.encs atl) false, AV.sl 7 (Expr.encs al) false]) (ob1 (ha) (ob1 (hu) (q ((1 : Int) = (↑(1 : Nat) : Int)) (q ([[I ak, I an, I av, I atk, I atv, AV.sl 3 (Ty.encs atl) false, AV.sl 7 (Expr.encs al) false], [I bk, I bn, I bv, I btk, I btv, AV.sl 3 (Ty.encs btl) false, AV.sl 7 (Expr.encs bl) false]][1]? = some [I bk, I bn, I bv, I btk, I btv, AV.sl 3 (Ty.encs btl) false, AV.sl 7 (Expr.encs bl) false]) (ob1 (hb) ob0))))))))

theorem of_app (es : List ByteArray) (ds : List Def) (mk mn mv mtk mtv : Int) (mtl : List Ty) (ml : List Expr) (sc : List Ty) (n v tk tv : Int) (tl : List Ty)
    (ak an av atk atv : Int) (atl : List Ty) (al : List Expr) (bk bn bv btk btv : Int) (btl : List Ty) (bl : List Expr)
    (h : plainC (.mk 3 n v (.mk tk tv tl) [.mk ak an av (.mk atk atv atl) al, .mk bk bn bv (.mk btk btv btl) bl]) = true)
    (ha : OfOk ⟨es, ds, .mk mk mn mv (.mk mtk mtv mtl) ml⟩ (.mk ak an av (.mk atk atv atl) al) sc)
    (hb : OfOk ⟨es, ds, .mk mk mn mv (.mk mtk mtv mtl) ml⟩ (.mk bk bn bv (.mk btk btv btl) bl) sc)
    (hg : (tRef ⟨es, ds, .mk mk mn mv (.mk mtk mtv mtl) ml⟩ (.mk ak an av (.mk atk atv atl) al) sc).2 = true → ∃ k v l, (tRef ⟨es, ds, .mk mk mn mv (.mk mtk mtv mtl) ml⟩ (.mk ak an av (.mk atk atv atl) al) sc).1 = .mk k v l ∧ (k = 1 → (∃ t u, l = [t, u] ∧ t.ok))) :
    OfOk ⟨es, ds, .mk mk mn mv (.mk mtk mtv mtl) ml⟩ (.mk 3 n v (.mk tk tv tl) [.mk ak an av (.mk atk atv atl) al, .mk bk bn bv (.mk btk btv btl) bl]) sc := by
  unfold OfOk at ha hb ⊢
  have hp := plain_ 3 n v tk tv tl [.mk ak an av (.mk atk atv atl) al, .mk bk bn bv (.mk btk btv btl) bl]
  rw [tRef_app _ _ _ _ _ _ _ h]
  rw [h] at hp
  generalize tRef ⟨es, ds, .mk mk mn mv (.mk mtk mtv mtl) ml⟩ (.mk ak an av (.mk atk atv atl) al) sc = T at ha hg ⊢
  generalize tRef ⟨es, ds, .mk mk mn mv (.mk mtk mtv mtl) ml⟩ (.mk bk bn bv (.mk btk btv btl) bl) sc = U at hb ⊢
  obtain ⟨⟨rk, rv, rl⟩, rb⟩ := T
  obtain ⟨⟨uk, uv, ul⟩, ub⟩ := U
  cases rb with
  | false =>
    clear hg hb
    simp only [Bool.false_eq_true, if_false]
    exact Fn.go KT Try.func15 [.reg [] [], .reg [] [(1, .call (B true) [])], .reg [] [], .reg [] [], .reg [] [], .reg [] [], .reg [] [], .reg [] [], .reg [] [], .reg [] [(4, .row 0 [I ak, I an, I av, I atk, I atv, AV.sl 3 (Ty.encs atl) false, AV.sl 7 (Expr.encs al) false]), (6, .call (AV.tup [AV.agg [I rk, I rv, AV.sl 3 (Ty.encs rl) false], B false]) [])], .reg [] [], .reg [] []] [.tidO 2 [none, none, some 3]] [] (AV.tup [AV.agg [I 0, I 0, AV.sl 3 [] false], B false]) ([]) (by kernel_rfl) (ob1 (hp) (q ((0 : Int) = (↑(0 : Nat) : Int)) (q ([[I ak, I an, I av, I atk, I atv, AV.sl 3 (Ty.encs atl) false, AV.sl 7 (Expr.encs al) false], [I bk, I bn, I bv, I btk, I btv, AV.sl 3 (Ty.encs btl) false, AV.sl 7 (Expr.encs bl) false]][0]? = some [I ak, I an, I av, I atk, I atv, AV.sl 3 (Ty.encs atl) false, AV.sl 7 (Expr.encs al) false]) (ob1 (ha) ob0))))
  | true =>
    simp only [if_true]
    cases ub with
    | false =>
      clear hg
      simp only [Bool.false_eq_true, if_false]
      exact Fn.go KT Try.func15 [.reg [] [], .reg [] [(1, .call (B true) [])], .reg [] [], .reg [] [], .reg [] [], .reg [] [], .reg [] [], .reg [] [], .reg [] [], .reg [] [(4, .row 0 [I ak, I an, I av, I atk, I atv, AV.sl 3 (Ty.encs atl) false, AV.sl 7 (Expr.encs al) false]), (6, .call (AV.tup [AV.agg [I rk, I rv, AV.sl 3 (Ty.encs rl) false], B true]) [])], .reg [] [], .reg [] [], .reg [] [], .reg [] [], .reg [] [(4, .row 1 [I bk, I bn, I bv, I btk, I btv, AV.sl 3 (Ty.encs btl) false, AV.sl 7 (Expr.encs bl) false]), (6, .call (AV.tup [AV.agg [I uk, I uv, AV.sl 3 (Ty.encs ul) false], B false]) [])], .reg [] [], .reg [] []] [.tidO 2 [none, none, some 3]] [] (AV.tup [AV.agg [I 0, I 0, AV.sl 3 [] false], B false]) ([]) (by kernel_rfl) (ob1 (hp) (q ((0 : Int) = (↑(0 : Nat) : Int)) (q ([[I ak, I an, I av, I atk, I atv, AV.sl 3 (Ty.encs atl) false, AV.sl 7 (Expr.encs al) false], [I bk, I bn, I bv, I btk, I btv, AV.sl 3 (Ty.encs btl) false, AV.sl 7 (Expr.encs bl) false]][0]? = some [I ak, I an, I av, I atk, I atv, AV.sl 3 (Ty.encs atl) false, AV.sl 7 (Expr.encs al) false]) (ob1 (ha) (q ((1 : Int) = (↑(1 : Nat) : Int)) (q ([[I ak, I an, I av, I atk, I atv, AV.sl 3 (Ty.encs atl) false, AV.sl 7 (Expr.encs al) false], [I bk, I bn, I bv, I btk, I btv, AV.sl 3 (Ty.encs btl) false, AV.sl 7 (Expr.encs bl) false]][1]? = some [I bk, I bn, I bv, I btk, I btv, AV.sl 3 (Ty.encs btl) false, AV.sl 7 (Expr.encs bl) false]) (ob1 (hb) ob0)))))))
    | true =>
      obtain ⟨k, v', l, he, hg⟩ := hg rfl
      simp only [Ty.mk.injEq] at he
      obtain ⟨rfl, rfl, rfl⟩ := he
      simp only [if_true]
      by_cases hk : rk = 1
      · obtain ⟨⟨t1, t2, t3⟩, ⟨u1, u2, u3⟩, rfl, hok⟩ := hg hk
        subst hk
        have hq := eqTy_1 (.mk t1 t2 t3) (.mk uk uv ul) hok
        rw [appC_two]
        by_cases hx : Ty.mk t1 t2 t3 = Ty.mk uk uv ul
        · rw [decide_eq_true hx] at hq
          rw [if_pos hx]
          clear hg hok
          exact Fn.go KT Try.func15 [.reg [] [], .reg [] [(1, .call (B true) [])], .reg [] [], .reg [] [], .reg [] [], .reg [] [], .reg [] [], .reg [] [], .reg [] [], .reg [] [(4, .row 0 [I ak, I an, I av, I atk, I atv, AV.sl 3 (Ty.encs atl) false, AV.sl 7 (Expr.encs al) false]), (6, .call (AV.tup [AV.agg [I 1, I rv, AV.sl 3 [[I t1, I t2, AV.sl 3 (Ty.encs t3) false], [I u1, I u2, AV.sl 3 (Ty.encs u3) false]] false], B true]) [])], .reg [] [], .reg [] [], .reg [] [], .reg [] [], .reg [] [(4, .row 1 [I bk, I bn, I bv, I btk, I btv, AV.sl 3 (Ty.encs btl) false, AV.sl 7 (Expr.encs bl) false]), (6, .call (AV.tup [AV.agg [I uk, I uv, AV.sl 3 (Ty.encs ul) false], B true]) [])], .reg [] [(10, .row 0 [I t1, I t2, AV.sl 3 (Ty.encs t3) false]), (13, .call (B true) [])], .reg [] [(2, .row 1 [I u1, I u2, AV.sl 3 (Ty.encs u3) false])]] [.tidO 2 [none, none, some 3]] [] (AV.tup [AV.agg [I u1, I u2, AV.sl 3 (Ty.encs u3) false], B true]) ([]) (by kernel_rfl) (ob1 (hp) (q ((0 : Int) = (↑(0 : Nat) : Int)) (q ([[I ak, I an, I av, I atk, I atv, AV.sl 3 (Ty.encs atl) false, AV.sl 7 (Expr.encs al) false], [I bk, I bn, I bv, I btk, I btv, AV.sl 3 (Ty.encs btl) false, AV.sl 7 (Expr.encs bl) false]][0]? = some [I ak, I an, I av, I atk, I atv, AV.sl 3 (Ty.encs atl) false, AV.sl 7 (Expr.encs al) false]) (ob1 (ha) (q ((1 : Int) = (↑(1 : Nat) : Int)) (q ([[I ak, I an, I av, I atk, I atv, AV.sl 3 (Ty.encs atl) false, AV.sl 7 (Expr.encs al) false], [I bk, I bn, I bv, I btk, I btv, AV.sl 3 (Ty.encs btl) false, AV.sl 7 (Expr.encs bl) false]][1]? = some [I bk, I bn, I bv, I btk, I btv, AV.sl 3 (Ty.encs btl) false, AV.sl 7 (Expr.encs bl) false]) (ob1 (hb) (q ((0 : Int) = (↑(0 : Nat) : Int)) (q ([[I t1, I t2, AV.sl 3 (Ty.encs t3) false], [I u1, I u2, AV.sl 3 (Ty.encs u3) false]][0]? = some [I t1, I t2, AV.sl 3 (Ty.encs t3) false]) (ob1 (hq) (q ((1 : Int) = (↑(1 : Nat) : Int)) (q ([[I t1, I t2, AV.sl 3 (Ty.encs t3) false], [I u1, I u2, AV.sl 3 (Ty.encs u3) false]][1]? = some [I u1, I u2, AV.sl 3 (Ty.encs u3) false]) ob0))))))))))))
        · rw [decide_eq_false hx] at hq
          rw [if_neg hx]
          clear hg hok
          exact Fn.go KT Try.func15 [.reg [] [], .reg [] [(1, .call (B true) [])], .reg [] [], .reg [] [], .reg [] [], .reg [] [], .reg [] [], .reg [] [], .reg [] [], .reg [] [(4, .row 0 [I ak, I an, I av, I atk, I atv, AV.sl 3 (Ty.encs atl) false, AV.sl 7 (Expr.encs al) false]), (6, .call (AV.tup [AV.agg [I 1, I rv, AV.sl 3 [[I t1, I t2, AV.sl 3 (Ty.encs t3) false], [I u1, I u2, AV.sl 3 (Ty.encs u3) false]] false], B true]) [])], .reg [] [], .reg [] [], .reg [] [], .reg [] [], .reg [] [(4, .row 1 [I bk, I bn, I bv, I btk, I btv, AV.sl 3 (Ty.encs btl) false, AV.sl 7 (Expr.encs bl) false]), (6, .call (AV.tup [AV.agg [I uk, I uv, AV.sl 3 (Ty.encs ul) false], B true]) [])], .reg [] [(10, .row 0 [I t1, I t2, AV.sl 3 (Ty.encs t3) false]), (13, .call (B false) [])], .reg [] []] [.tidO 2 [none, none, some 3]] [] (AV.tup [AV.agg [I 0, I 0, AV.sl 3 [] false], B false]) ([]) (by kernel_rfl) (ob1 (hp) (q ((0 : Int) = (↑(0 : Nat) : Int)) (q ([[I ak, I an, I av, I atk, I atv, AV.sl 3 (Ty.encs atl) false, AV.sl 7 (Expr.encs al) false], [I bk, I bn, I bv, I btk, I btv, AV.sl 3 (Ty.encs btl) false, AV.sl 7 (Expr.encs bl) false]][0]? = some [I ak, I an, I av, I atk, I atv, AV.sl 3 (Ty.encs atl) false, AV.sl 7 (Expr.encs al) false]) (ob1 (ha) (q ((1 : Int) = (↑(1 : Nat) : Int)) (q ([[I ak, I an, I av, I atk, I atv, AV.sl 3 (Ty.encs atl) false, AV.sl 7 (Expr.encs al) false], [I bk, I bn, I bv, I btk, I btv, AV.sl 3 (Ty.encs btl) false, AV.sl 7 (Expr.encs bl) false]][1]? = some [I bk, I bn, I bv, I btk, I btv, AV.sl 3 (Ty.encs btl) false, AV.sl 7 (Expr.encs bl) false]) (ob1 (hb) (q ((0 : Int) = (↑(0 : Nat) : Int)) (q ([[I t1, I t2, AV.sl 3 (Ty.encs t3) false], [I u1, I u2, AV.sl 3 (Ty.encs u3) false]][0]? = some [I t1, I t2, AV.sl 3 (Ty.encs t3) false]) (ob1 (hq) ob0))))))))))
      · clear hg
        rw [appC_ne hk]
        exact Fn.go KT Try.func15 [.reg [] [], .reg [] [(1, .call (B true) [])], .reg [] [], .reg [] [], .reg [] [], .reg [] [], .reg [] [], .reg [] [], .reg [] [], .reg [] [(4, .row 0 [I ak, I an, I av, I atk, I atv, AV.sl 3 (Ty.encs atl) false, AV.sl 7 (Expr.encs al) false]), (6, .call (AV.tup [AV.agg [I rk, I rv, AV.sl 3 (Ty.encs rl) false], B true]) [])], .reg [] [], .reg [] [], .reg [] [], .reg [] [], .reg [] [(4, .row 1 [I bk, I bn, I bv, I btk, I btv, AV.sl 3 (Ty.encs btl) false, AV.sl 7 (Expr.encs bl) false]), (6, .call (AV.tup [AV.agg [I uk, I uv, AV.sl 3 (Ty.encs ul) false], B true]) [])], .reg [] [(5, .bit true)], .reg [] []] [.tidO 2 [none, none, some 3]] [] (AV.tup [AV.agg [I 0, I 0, AV.sl 3 [] false], B false]) ([]) (by kernel_rfl) (ob1 (hp) (q ((0 : Int) = (↑(0 : Nat) : Int)) (q ([[I ak, I an, I av, I atk, I atv, AV.sl 3 (Ty.encs atl) false, AV.sl 7 (Expr.encs al) false], [I bk, I bn, I bv, I btk, I btv, AV.sl 3 (Ty.encs btl) false, AV.sl 7 (Expr.encs bl) false]][0]? = some [I ak, I an, I av, I atk, I atv, AV.sl 3 (Ty.encs atl) false, AV.sl 7 (Expr.encs al) false]) (ob1 (ha) (q ((1 : Int) = (↑(1 : Nat) : Int)) (q ([[I ak, I an, I av, I atk, I atv, AV.sl 3 (Ty.encs atl) false, AV.sl 7 (Expr.encs al) false], [I bk, I bn, I bv, I btk, I btv, AV.sl 3 (Ty.encs btl) false, AV.sl 7 (Expr.encs bl) false]][1]? = some [I bk, I bn, I bv, I btk, I btv, AV.sl 3 (Ty.encs btl) false, AV.sl 7 (Expr.encs bl) false]) (ob1 (hb) (q ((rk != 1) = true) ob0))))))))

end Go.Ae

/- ref25.Of: ECase. -/
namespace Go.Ae
open Go.Proofs

theorem of_case_loop (es : List ByteArray) (ds : List Def) (mk mn mv mtk mtv : Int) (mtl : List Ty) (ml : List Expr) (sc : List Ty) (uk uv : Int) (ul : List Ty) (hu : (Ty.mk uk uv ul).ok) (r : List Expr) (hr : r.length ≤ 1000) :
    ∀ (r' : List Expr) (i : Nat) (b : Bool), r.drop i = r' → (∀ x ∈ r', OfOk ⟨es, ds, .mk mk mn mv (.mk mtk mtv mtl) ml⟩ x sc) →
    Lp Try.prog 288 0 (loopN Try.f15 0) ⟨lookT [(1, .sl 3 (Ty.encs sc) false), (3, .lp 0 0), (6, .lp 1 0), (14, B b), (17, .lp 2 0), (263, .sl 7 (Expr.encs r) false), (264, I (r.length : Int)), (265, I (i : Int))],
      [.cells (Prog.enc ⟨es, ds, .mk mk mn mv (.mk mtk mtv mtl) ml⟩) [], .cells [I 0, I 0, .nil] [], .cells [I uk, I uv, .sl 3 (Ty.encs ul) false] []]⟩
      (.exit 2) ⟨lookT [(6, .lp 0 0), (14, B (casesR ⟨es, ds, .mk mk mn mv (.mk mtk mtv mtl) ml⟩ sc (.mk uk uv ul) r' b)), (17, .lp 1 0)], [.cells [I 0, I 0, .nil] [], .cells [I uk, I uv, .sl 3 (Ty.encs ul) false] []]⟩
  | [], i, b, hd, _ => by
    have hi := drop_end hd
    simp only [casesR, List.foldl_nil]
    exact Lp.last KT [.reg [] [(0, .bit false)]] [.keep [(6, []), (14, []), (17, [])]] (by kernel_rfl) (q (decide ((↑i : Int) < (↑(List.length r) : Int)) = false) ob0) (by intro h; cases h)
  | .mk k1 m1 v1 (.mk tk tv tl) xs :: r', i, b, hd, hs => by
    have hi := drop_lt hd
    have hx : (Expr.encs r)[i]? = some (Expr.mk k1 m1 v1 (.mk tk tv tl) xs).enc := by rw [Expr.encs_get, drop_get hd]; rfl
    have hc := hs (.mk k1 m1 v1 (.mk tk tv tl) xs) (by simp)
    have ih := fun b => of_case_loop es ds mk mn mv mtk mtv mtl ml sc uk uv ul hu r hr r' (i + 1) b (drop_next hd) (fun x hx => hs x (by simp [hx]))
    have he : ∀ b, casesR ⟨es, ds, .mk mk mn mv (.mk mtk mtv mtl) ml⟩ sc (.mk uk uv ul) (.mk k1 m1 v1 (.mk tk tv tl) xs :: r') b =
      casesR ⟨es, ds, .mk mk mn mv (.mk mtk mtv mtl) ml⟩ sc (.mk uk uv ul) r' (b && (tRef ⟨es, ds, .mk mk mn mv (.mk mtk mtv mtl) ml⟩ (.mk k1 m1 v1 (.mk tk tv tl) xs) sc).2 && decide (.mk uk uv ul = (tRef ⟨es, ds, .mk mk mn mv (.mk mtk mtv mtl) ml⟩ (.mk k1 m1 v1 (.mk tk tv tl) xs) sc).1)) := fun b => rfl
    rw [he]
    unfold OfOk at hc
    clear hs he hd
    generalize casesR ⟨es, ds, .mk mk mn mv (.mk mtk mtv mtl) ml⟩ sc (.mk uk uv ul) r' = F at ih ⊢
    generalize tRef ⟨es, ds, .mk mk mn mv (.mk mtk mtv mtl) ml⟩ (.mk k1 m1 v1 (.mk tk tv tl) xs) sc = T at hc ⊢
    obtain ⟨⟨rk, rv, rl⟩, rb⟩ := T
    have hq := eqTy_1 (.mk uk uv ul) (.mk rk rv rl) hu
    simp only [Int.natCast_add] at ih
    cases b with
    | false =>
      replace ih := ih false
      simp only [Bool.false_and]
      cases rb with
      | false => exact Lp.next KT [.reg [] [(0, .bit true)], .reg [] [(0, .row i (Expr.enc (Expr.mk k1 m1 v1 (Ty.mk tk tv tl) xs)))], .reg [] [(3, .call (AV.tup [AV.agg [I rk, I rv, AV.sl 3 (Ty.encs rl) false], B false]) [])], .reg [] [], .reg [] [(0, .int ((↑i : Int) + 1))]] [.keep [(1, []), (3, []), (6, []), (14, []), (17, []), (263, []), (264, []), (265, [])]] (by kernel_rfl) (q (decide ((↑i : Int) < (↑(List.length r) : Int)) = true) (q ((↑i : Int) = (↑i : Int)) (q ((Expr.encs r)[i]? = some (Expr.enc (Expr.mk k1 m1 v1 (Ty.mk tk tv tl) xs))) (ob1 (hc) (qw ((↑i : Int) + 1) ob0))))) (ih)
      | true => exact Lp.next KT [.reg [] [(0, .bit true)], .reg [] [(0, .row i (Expr.enc (Expr.mk k1 m1 v1 (Ty.mk tk tv tl) xs)))], .reg [] [(3, .call (AV.tup [AV.agg [I rk, I rv, AV.sl 3 (Ty.encs rl) false], B true]) [])], .reg [] [], .reg [] [(0, .int ((↑i : Int) + 1))]] [.keep [(1, []), (3, []), (6, []), (14, []), (17, []), (263, []), (264, []), (265, [])]] (by kernel_rfl) (q (decide ((↑i : Int) < (↑(List.length r) : Int)) = true) (q ((↑i : Int) = (↑i : Int)) (q ((Expr.encs r)[i]? = some (Expr.enc (Expr.mk k1 m1 v1 (Ty.mk tk tv tl) xs))) (ob1 (hc) (qw ((↑i : Int) + 1) ob0))))) (ih)
    | true =>
      cases rb with
      | false =>
        replace ih := ih false
        simp only [Bool.and_false, Bool.false_and]
        exact Lp.next KT [.reg [] [(0, .bit true)], .reg [] [(0, .row i (Expr.enc (Expr.mk k1 m1 v1 (Ty.mk tk tv tl) xs)))], .reg [] [(3, .call (AV.tup [AV.agg [I rk, I rv, AV.sl 3 (Ty.encs rl) false], B false]) [])], .reg [] [], .reg [] [(0, .int ((↑i : Int) + 1))]] [.keep [(1, []), (3, []), (6, []), (14, []), (17, []), (263, []), (264, []), (265, [])]] (by kernel_rfl) (q (decide ((↑i : Int) < (↑(List.length r) : Int)) = true) (q ((↑i : Int) = (↑i : Int)) (q ((Expr.encs r)[i]? = some (Expr.enc (Expr.mk k1 m1 v1 (Ty.mk tk tv tl) xs))) (ob1 (hc) (qw ((↑i : Int) + 1) ob0))))) (ih)
      | true =>
        by_cases hx : Ty.mk uk uv ul = Ty.mk rk rv rl
        · replace ih := ih true
          simp only [decide_eq_true hx] at hq ⊢
          exact Lp.next KT [.reg [] [(0, .bit true)], .reg [] [(0, .row i (Expr.enc (Expr.mk k1 m1 v1 (Ty.mk tk tv tl) xs)))], .reg [] [(3, .call (AV.tup [AV.agg [I rk, I rv, AV.sl 3 (Ty.encs rl) false], B true]) [])], .reg [] [(7, .call (B true) [])], .reg [] [(0, .int ((↑i : Int) + 1))]] [.keep [(1, []), (3, []), (6, []), (14, []), (17, []), (263, []), (264, []), (265, [])]] (by kernel_rfl) (q (decide ((↑i : Int) < (↑(List.length r) : Int)) = true) (q ((↑i : Int) = (↑i : Int)) (q ((Expr.encs r)[i]? = some (Expr.enc (Expr.mk k1 m1 v1 (Ty.mk tk tv tl) xs))) (ob1 (hc) (ob1 (hq) (qw ((↑i : Int) + 1) ob0)))))) (ih)
        · replace ih := ih false
          simp only [decide_eq_false hx, Bool.and_false] at hq ⊢
          exact Lp.next KT [.reg [] [(0, .bit true)], .reg [] [(0, .row i (Expr.enc (Expr.mk k1 m1 v1 (Ty.mk tk tv tl) xs)))], .reg [] [(3, .call (AV.tup [AV.agg [I rk, I rv, AV.sl 3 (Ty.encs rl) false], B true]) [])], .reg [] [(7, .call (B false) [])], .reg [] [(0, .int ((↑i : Int) + 1))]] [.keep [(1, []), (3, []), (6, []), (14, []), (17, []), (263, []), (264, []), (265, [])]] (by kernel_rfl) (q (decide ((↑i : Int) < (↑(List.length r) : Int)) = true) (q ((↑i : Int) = (↑i : Int)) (q ((Expr.encs r)[i]? = some (Expr.enc (Expr.mk k1 m1 v1 (Ty.mk tk tv tl) xs))) (ob1 (hc) (ob1 (hq) (qw ((↑i : Int) + 1) ob0)))))) (ih)

theorem of_case (es : List ByteArray) (ds : List Def) (mk mn mv mtk mtv : Int) (mtl : List Ty) (ml : List Expr) (sc : List Ty) (n v tk tv : Int) (tl : List Ty)
    (ak an av atk atv : Int) (atl : List Ty) (al : List Expr) (bk bn bv btk btv : Int) (btl : List Ty) (bl : List Expr) (r : List Expr) (hr : r.length ≤ 1000)
    (ha : OfOk ⟨es, ds, .mk mk mn mv (.mk mtk mtv mtl) ml⟩ (.mk ak an av (.mk atk atv atl) al) sc)
    (hb : OfOk ⟨es, ds, .mk mk mn mv (.mk mtk mtv mtl) ml⟩ (.mk bk bn bv (.mk btk btv btl) bl) sc)
    (hc : ∀ x ∈ r, OfOk ⟨es, ds, .mk mk mn mv (.mk mtk mtv mtl) ml⟩ x sc)
    (h : plainC (.mk 6 n v (.mk tk tv tl) (.mk ak an av (.mk atk atv atl) al :: .mk bk bn bv (.mk btk btv btl) bl :: r)) = true)
    (hV : (tRef ⟨es, ds, .mk mk mn mv (.mk mtk mtv mtl) ml⟩ (.mk ak an av (.mk atk atv atl) al) sc).2 = true → (tRef ⟨es, ds, .mk mk mn mv (.mk mtk mtv mtl) ml⟩ (.mk ak an av (.mk atk atv atl) al) sc).1.V)
    (hok : (tRef ⟨es, ds, .mk mk mn mv (.mk mtk mtv mtl) ml⟩ (.mk bk bn bv (.mk btk btv btl) bl) sc).1.ok) :
    OfOk ⟨es, ds, .mk mk mn mv (.mk mtk mtv mtl) ml⟩ (.mk 6 n v (.mk tk tv tl) (.mk ak an av (.mk atk atv atl) al :: .mk bk bn bv (.mk btk btv btl) bl :: r)) sc := by
  unfold OfOk at ha hb ⊢
  have hp := plain_ 6 n v tk tv tl (.mk ak an av (.mk atk atv atl) al :: .mk bk bn bv (.mk btk btv btl) bl :: r)
  rw [h] at hp
  rw [tRef_case _ _ _ _ _ _ _ _ h]
  have hl := fun (uk uv : Int) (ul : List Ty) (hu : (Ty.mk uk uv ul).ok) (b : Bool) => of_case_loop es ds mk mn mv mtk mtv mtl ml sc uk uv ul hu r hr r 0 b rfl hc
  clear hc
  generalize tRef ⟨es, ds, .mk mk mn mv (.mk mtk mtv mtl) ml⟩ (.mk ak an av (.mk atk atv atl) al) sc = T at ha hV ⊢
  obtain ⟨⟨rk, rv, rl⟩, rb⟩ := T
  cases rb with
  | false =>
    clear hb hl hok hV
    simp only [Bool.false_eq_true, if_false]
    exact Fn.go KT Try.func15 [.reg [] [], .reg [] [(1, .call (B true) [])], .reg [] [], .reg [] [], .reg [] [], .reg [] [], .reg [] [], .reg [] [], .reg [] [], .reg [] [(4, .row 0 [I ak, I an, I av, I atk, I atv, AV.sl 3 (Ty.encs atl) false, AV.sl 7 (Expr.encs al) false]), (6, .call (AV.tup [AV.agg [I rk, I rv, AV.sl 3 (Ty.encs rl) false], B false]) [])], .reg [] [], .reg [] []] [.tidO 2 [none, none, some 3]] [] (AV.tup [AV.agg [I 0, I 0, AV.sl 3 [] false], B false]) ([]) (by kernel_rfl) (ob1 (hp) (q ((0 : Int) = (↑(0 : Nat) : Int)) (q (([I ak, I an, I av, I atk, I atv, AV.sl 3 (Ty.encs atl) false, AV.sl 7 (Expr.encs al) false] :: [I bk, I bn, I bv, I btk, I btv, AV.sl 3 (Ty.encs btl) false, AV.sl 7 (Expr.encs bl) false] :: Expr.encs r)[0]? = some [I ak, I an, I av, I atk, I atv, AV.sl 3 (Ty.encs atl) false, AV.sl 7 (Expr.encs al) false]) (ob1 (ha) ob0))))
  | true =>
    have hV := hV rfl
    simp only [if_true]
    by_cases hk : rk = 0
    · subst hk
      obtain ⟨w1, w2, -⟩ := V_kd0 hV rfl
      clear hV
      by_cases hv : rv = (r.length : Int) + 1
      · rw [if_pos (show ((Ty.mk 0 rv rl, true).1.kd = 0 ∧ (Ty.mk 0 rv rl, true).1.vl = ((Expr.mk bk bn bv (.mk btk btv btl) bl :: r).length : Int)) from ⟨rfl, by show rv = _; simp; omega⟩)]
        generalize tRef ⟨es, ds, .mk mk mn mv (.mk mtk mtv mtl) ml⟩ (.mk bk bn bv (.mk btk btv btl) bl) sc = U at hb hok ⊢
        obtain ⟨⟨uk, uv, ul⟩, ub⟩ := U
        have hl := hl uk uv ul hok ub
        dsimp only
        generalize casesR ⟨es, ds, .mk mk mn mv (.mk mtk mtv mtl) ml⟩ sc (.mk uk uv ul) r ub = F at hl ⊢
        clear hok
        cases ub with
        | true =>
          cases F with
          | true => exact Fn.go KT Try.func15 [.reg [] [], .reg [] [(1, .call (B true) [])], .reg [] [], .reg [] [], .reg [] [], .reg [] [], .reg [] [], .reg [] [], .reg [] [], .reg [] [(4, .row 0 [I ak, I an, I av, I atk, I atv, AV.sl 3 (Ty.encs atl) false, AV.sl 7 (Expr.encs al) false]), (6, .call (AV.tup [AV.agg [I 0, I rv, AV.sl 3 (Ty.encs rl) false], B true]) [])], .reg [] [], .reg [] [], .reg [] [], .reg [] [], .reg [] [(6, .int ((↑(List.length r) : Int) + 1 + 1)), (9, .int (rv + 1)), (10, .bit false)], .reg [] [(4, .row 1 [I bk, I bn, I bv, I btk, I btv, AV.sl 3 (Ty.encs btl) false, AV.sl 7 (Expr.encs bl) false]), (6, .call (AV.tup [AV.agg [I uk, I uv, AV.sl 3 (Ty.encs ul) false], B true]) [])], .reg [] [(2, .rows (Expr.encs r)), (3, .int (↑(List.length r) : Int))], .loop [.keep [(1, []), (3, []), (6, []), (14, []), (17, []), (263, []), (264, []), (265, [])]] (Exit.exit 2) { tm := lookT [(6, AV.lp 0 0), (14, B true), (17, AV.lp 1 0)], st := [.cells [I 0, I 0, AV.nil] [], .cells [I uk, I uv, AV.sl 3 (Ty.encs ul) false] []] }, .reg [] []] [.tidO 0 [none, none, some 3]] [] (AV.tup [AV.agg [I uk, I uv, AV.sl 3 (Ty.encs ul) false], B true]) ([]) (by kernel_rfl) (ob1 (hp) (q ((0 : Int) = (↑(0 : Nat) : Int)) (q (([I ak, I an, I av, I atk, I atv, AV.sl 3 (Ty.encs atl) false, AV.sl 7 (Expr.encs al) false] :: [I bk, I bn, I bv, I btk, I btv, AV.sl 3 (Ty.encs btl) false, AV.sl 7 (Expr.encs bl) false] :: Expr.encs r)[0]? = some [I ak, I an, I av, I atk, I atv, AV.sl 3 (Ty.encs atl) false, AV.sl 7 (Expr.encs al) false]) (ob1 (ha) (q ((↑(List.length ([I ak, I an, I av, I atk, I atv, AV.sl 3 (Ty.encs atl) false, AV.sl 7 (Expr.encs al) false] :: [I bk, I bn, I bv, I btk, I btv, AV.sl 3 (Ty.encs btl) false, AV.sl 7 (Expr.encs bl) false] :: Expr.encs r)) : Int) = (↑(List.length r) : Int) + 1 + 1) (qw (rv + 1) (q (((↑(List.length r) : Int) + 1 + 1 != rv + 1) = false) (q ((1 : Int) = (↑(1 : Nat) : Int)) (q (([I ak, I an, I av, I atk, I atv, AV.sl 3 (Ty.encs atl) false, AV.sl 7 (Expr.encs al) false] :: [I bk, I bn, I bv, I btk, I btv, AV.sl 3 (Ty.encs btl) false, AV.sl 7 (Expr.encs bl) false] :: Expr.encs r)[1]? = some [I bk, I bn, I bv, I btk, I btv, AV.sl 3 (Ty.encs btl) false, AV.sl 7 (Expr.encs bl) false]) (ob1 (hb) (q ((0 : Int) ≤ Option.getD (some (2 : Int)) (0 : Int)) (q (Option.getD (some (2 : Int)) (0 : Int) ≤ Option.getD none (↑(List.length ([I ak, I an, I av, I atk, I atv, AV.sl (3 : Nat) (Ty.encs atl) false, AV.sl (7 : Nat) (Expr.encs al) false] :: [I bk, I bn, I bv, I btk, I btv, AV.sl (3 : Nat) (Ty.encs btl) false, AV.sl (7 : Nat) (Expr.encs bl) false] :: Expr.encs r)) : Int)) (q (Option.getD none (↑(List.length ([I ak, I an, I av, I atk, I atv, AV.sl (3 : Nat) (Ty.encs atl) false, AV.sl (7 : Nat) (Expr.encs al) false] :: [I bk, I bn, I bv, I btk, I btv, AV.sl (3 : Nat) (Ty.encs btl) false, AV.sl (7 : Nat) (Expr.encs bl) false] :: Expr.encs r)) : Int) ≤ (↑(List.length ([I ak, I an, I av, I atk, I atv, AV.sl (3 : Nat) (Ty.encs atl) false, AV.sl (7 : Nat) (Expr.encs al) false] :: [I bk, I bn, I bv, I btk, I btv, AV.sl (3 : Nat) (Ty.encs btl) false, AV.sl (7 : Nat) (Expr.encs bl) false] :: Expr.encs r)) : Int)) (q (List.drop (Int.toNat (Option.getD (some (2 : Int)) (0 : Int))) (List.take (Int.toNat (Option.getD none (↑(List.length ([I ak, I an, I av, I atk, I atv, AV.sl (3 : Nat) (Ty.encs atl) false, AV.sl (7 : Nat) (Expr.encs al) false] :: [I bk, I bn, I bv, I btk, I btv, AV.sl (3 : Nat) (Ty.encs btl) false, AV.sl (7 : Nat) (Expr.encs bl) false] :: Expr.encs r)) : Int))) ([I ak, I an, I av, I atk, I atv, AV.sl (3 : Nat) (Ty.encs atl) false, AV.sl (7 : Nat) (Expr.encs al) false] :: [I bk, I bn, I bv, I btk, I btv, AV.sl (3 : Nat) (Ty.encs btl) false, AV.sl (7 : Nat) (Expr.encs bl) false] :: Expr.encs r)) = Expr.encs r) (q ((↑(List.length (Expr.encs r)) : Int) = (↑(List.length r) : Int)) (ob1 (hl) ob0))))))))))))))))
          | false => exact Fn.go KT Try.func15 [.reg [] [], .reg [] [(1, .call (B true) [])], .reg [] [], .reg [] [], .reg [] [], .reg [] [], .reg [] [], .reg [] [], .reg [] [], .reg [] [(4, .row 0 [I ak, I an, I av, I atk, I atv, AV.sl 3 (Ty.encs atl) false, AV.sl 7 (Expr.encs al) false]), (6, .call (AV.tup [AV.agg [I 0, I rv, AV.sl 3 (Ty.encs rl) false], B true]) [])], .reg [] [], .reg [] [], .reg [] [], .reg [] [], .reg [] [(6, .int ((↑(List.length r) : Int) + 1 + 1)), (9, .int (rv + 1)), (10, .bit false)], .reg [] [(4, .row 1 [I bk, I bn, I bv, I btk, I btv, AV.sl 3 (Ty.encs btl) false, AV.sl 7 (Expr.encs bl) false]), (6, .call (AV.tup [AV.agg [I uk, I uv, AV.sl 3 (Ty.encs ul) false], B true]) [])], .reg [] [(2, .rows (Expr.encs r)), (3, .int (↑(List.length r) : Int))], .loop [.keep [(1, []), (3, []), (6, []), (14, []), (17, []), (263, []), (264, []), (265, [])]] (Exit.exit 2) { tm := lookT [(6, AV.lp 0 0), (14, B false), (17, AV.lp 1 0)], st := [.cells [I 0, I 0, AV.nil] [], .cells [I uk, I uv, AV.sl 3 (Ty.encs ul) false] []] }, .reg [] []] [.tidO 0 [none, none, some 3]] [] (AV.tup [AV.agg [I uk, I uv, AV.sl 3 (Ty.encs ul) false], B false]) ([]) (by kernel_rfl) (ob1 (hp) (q ((0 : Int) = (↑(0 : Nat) : Int)) (q (([I ak, I an, I av, I atk, I atv, AV.sl 3 (Ty.encs atl) false, AV.sl 7 (Expr.encs al) false] :: [I bk, I bn, I bv, I btk, I btv, AV.sl 3 (Ty.encs btl) false, AV.sl 7 (Expr.encs bl) false] :: Expr.encs r)[0]? = some [I ak, I an, I av, I atk, I atv, AV.sl 3 (Ty.encs atl) false, AV.sl 7 (Expr.encs al) false]) (ob1 (ha) (q ((↑(List.length ([I ak, I an, I av, I atk, I atv, AV.sl 3 (Ty.encs atl) false, AV.sl 7 (Expr.encs al) false] :: [I bk, I bn, I bv, I btk, I btv, AV.sl 3 (Ty.encs btl) false, AV.sl 7 (Expr.encs bl) false] :: Expr.encs r)) : Int) = (↑(List.length r) : Int) + 1 + 1) (qw (rv + 1) (q (((↑(List.length r) : Int) + 1 + 1 != rv + 1) = false) (q ((1 : Int) = (↑(1 : Nat) : Int)) (q (([I ak, I an, I av, I atk, I atv, AV.sl 3 (Ty.encs atl) false, AV.sl 7 (Expr.encs al) false] :: [I bk, I bn, I bv, I btk, I btv, AV.sl 3 (Ty.encs btl) false, AV.sl 7 (Expr.encs bl) false] :: Expr.encs r)[1]? = some [I bk, I bn, I bv, I btk, I btv, AV.sl 3 (Ty.encs btl) false, AV.sl 7 (Expr.encs bl) false]) (ob1 (hb) (q ((0 : Int) ≤ Option.getD (some (2 : Int)) (0 : Int)) (q (Option.getD (some (2 : Int)) (0 : Int) ≤ Option.getD none (↑(List.length ([I ak, I an, I av, I atk, I atv, AV.sl (3 : Nat) (Ty.encs atl) false, AV.sl (7 : Nat) (Expr.encs al) false] :: [I bk, I bn, I bv, I btk, I btv, AV.sl (3 : Nat) (Ty.encs btl) false, AV.sl (7 : Nat) (Expr.encs bl) false] :: Expr.encs r)) : Int)) (q (Option.getD none (↑(List.length ([I ak, I an, I av, I atk, I atv, AV.sl (3 : Nat) (Ty.encs atl) false, AV.sl (7 : Nat) (Expr.encs al) false] :: [I bk, I bn, I bv, I btk, I btv, AV.sl (3 : Nat) (Ty.encs btl) false, AV.sl (7 : Nat) (Expr.encs bl) false] :: Expr.encs r)) : Int) ≤ (↑(List.length ([I ak, I an, I av, I atk, I atv, AV.sl (3 : Nat) (Ty.encs atl) false, AV.sl (7 : Nat) (Expr.encs al) false] :: [I bk, I bn, I bv, I btk, I btv, AV.sl (3 : Nat) (Ty.encs btl) false, AV.sl (7 : Nat) (Expr.encs bl) false] :: Expr.encs r)) : Int)) (q (List.drop (Int.toNat (Option.getD (some (2 : Int)) (0 : Int))) (List.take (Int.toNat (Option.getD none (↑(List.length ([I ak, I an, I av, I atk, I atv, AV.sl (3 : Nat) (Ty.encs atl) false, AV.sl (7 : Nat) (Expr.encs al) false] :: [I bk, I bn, I bv, I btk, I btv, AV.sl (3 : Nat) (Ty.encs btl) false, AV.sl (7 : Nat) (Expr.encs bl) false] :: Expr.encs r)) : Int))) ([I ak, I an, I av, I atk, I atv, AV.sl (3 : Nat) (Ty.encs atl) false, AV.sl (7 : Nat) (Expr.encs al) false] :: [I bk, I bn, I bv, I btk, I btv, AV.sl (3 : Nat) (Ty.encs btl) false, AV.sl (7 : Nat) (Expr.encs bl) false] :: Expr.encs r)) = Expr.encs r) (q ((↑(List.length (Expr.encs r)) : Int) = (↑(List.length r) : Int)) (ob1 (hl) ob0))))))))))))))))
        | false =>
          cases F with
          | true => exact Fn.go KT Try.func15 [.reg [] [], .reg [] [(1, .call (B true) [])], .reg [] [], .reg [] [], .reg [] [], .reg [] [], .reg [] [], .reg [] [], .reg [] [], .reg [] [(4, .row 0 [I ak, I an, I av, I atk, I atv, AV.sl 3 (Ty.encs atl) false, AV.sl 7 (Expr.encs al) false]), (6, .call (AV.tup [AV.agg [I 0, I rv, AV.sl 3 (Ty.encs rl) false], B true]) [])], .reg [] [], .reg [] [], .reg [] [], .reg [] [], .reg [] [(6, .int ((↑(List.length r) : Int) + 1 + 1)), (9, .int (rv + 1)), (10, .bit false)], .reg [] [(4, .row 1 [I bk, I bn, I bv, I btk, I btv, AV.sl 3 (Ty.encs btl) false, AV.sl 7 (Expr.encs bl) false]), (6, .call (AV.tup [AV.agg [I uk, I uv, AV.sl 3 (Ty.encs ul) false], B false]) [])], .reg [] [(2, .rows (Expr.encs r)), (3, .int (↑(List.length r) : Int))], .loop [.keep [(1, []), (3, []), (6, []), (14, []), (17, []), (263, []), (264, []), (265, [])]] (Exit.exit 2) { tm := lookT [(6, AV.lp 0 0), (14, B true), (17, AV.lp 1 0)], st := [.cells [I 0, I 0, AV.nil] [], .cells [I uk, I uv, AV.sl 3 (Ty.encs ul) false] []] }, .reg [] []] [.tidO 0 [none, none, some 3]] [] (AV.tup [AV.agg [I uk, I uv, AV.sl 3 (Ty.encs ul) false], B true]) ([]) (by kernel_rfl) (ob1 (hp) (q ((0 : Int) = (↑(0 : Nat) : Int)) (q (([I ak, I an, I av, I atk, I atv, AV.sl 3 (Ty.encs atl) false, AV.sl 7 (Expr.encs al) false] :: [I bk, I bn, I bv, I btk, I btv, AV.sl 3 (Ty.encs btl) false, AV.sl 7 (Expr.encs bl) false] :: Expr.encs r)[0]? = some [I ak, I an, I av, I atk, I atv, AV.sl 3 (Ty.encs atl) false, AV.sl 7 (Expr.encs al) false]) (ob1 (ha) (q ((↑(List.length ([I ak, I an, I av, I atk, I atv, AV.sl 3 (Ty.encs atl) false, AV.sl 7 (Expr.encs al) false] :: [I bk, I bn, I bv, I btk, I btv, AV.sl 3 (Ty.encs btl) false, AV.sl 7 (Expr.encs bl) false] :: Expr.encs r)) : Int) = (↑(List.length r) : Int) + 1 + 1) (qw (rv + 1) (q (((↑(List.length r) : Int) + 1 + 1 != rv + 1) = false) (q ((1 : Int) = (↑(1 : Nat) : Int)) (q (([I ak, I an, I av, I atk, I atv, AV.sl 3 (Ty.encs atl) false, AV.sl 7 (Expr.encs al) false] :: [I bk, I bn, I bv, I btk, I btv, AV.sl 3 (Ty.encs btl) false, AV.sl 7 (Expr.encs bl) false] :: Expr.encs r)[1]? = some [I bk, I bn, I bv, I btk, I btv, AV.sl 3 (Ty.encs btl) false, AV.sl 7 (Expr.encs bl) false]) (ob1 (hb) (q ((0 : Int) ≤ Option.getD (some (2 : Int)) (0 : Int)) (q (Option.getD (some (2 : Int)) (0 : Int) ≤ Option.getD none (↑(List.length ([I ak, I an, I av, I atk, I atv, AV.sl (3 : Nat) (Ty.encs atl) false, AV.sl (7 : Nat) (Expr.encs al) false] :: [I bk, I bn, I bv, I btk, I btv, AV.sl (3 : Nat) (Ty.encs btl) false, AV.sl (7 : Nat) (Expr.encs bl) false] :: Expr.encs r)) : Int)) (q (Option.getD none (↑(List.length ([I ak, I an, I av, I atk, I atv, AV.sl (3 : Nat) (Ty.encs atl) false, AV.sl (7 : Nat) (Expr.encs al) false] :: [I bk, I bn, I bv, I btk, I btv, AV.sl (3 : Nat) (Ty.encs btl) false, AV.sl (7 : Nat) (Expr.encs bl) false] :: Expr.encs r)) : Int) ≤ (↑(List.length ([I ak, I an, I av, I atk, I atv, AV.sl (3 : Nat) (Ty.encs atl) false, AV.sl (7 : Nat) (Expr.encs al) false] :: [I bk, I bn, I bv, I btk, I btv, AV.sl (3 : Nat) (Ty.encs btl) false, AV.sl (7 : Nat) (Expr.encs bl) false] :: Expr.encs r)) : Int)) (q (List.drop (Int.toNat (Option.getD (some (2 : Int)) (0 : Int))) (List.take (Int.toNat (Option.getD none (↑(List.length ([I ak, I an, I av, I atk, I atv, AV.sl (3 : Nat) (Ty.encs atl) false, AV.sl (7 : Nat) (Expr.encs al) false] :: [I bk, I bn, I bv, I btk, I btv, AV.sl (3 : Nat) (Ty.encs btl) false, AV.sl (7 : Nat) (Expr.encs bl) false] :: Expr.encs r)) : Int))) ([I ak, I an, I av, I atk, I atv, AV.sl (3 : Nat) (Ty.encs atl) false, AV.sl (7 : Nat) (Expr.encs al) false] :: [I bk, I bn, I bv, I btk, I btv, AV.sl (3 : Nat) (Ty.encs btl) false, AV.sl (7 : Nat) (Expr.encs bl) false] :: Expr.encs r)) = Expr.encs r) (q ((↑(List.length (Expr.encs r)) : Int) = (↑(List.length r) : Int)) (ob1 (hl) ob0))))))))))))))))
          | false => exact Fn.go KT Try.func15 [.reg [] [], .reg [] [(1, .call (B true) [])], .reg [] [], .reg [] [], .reg [] [], .reg [] [], .reg [] [], .reg [] [], .reg [] [], .reg [] [(4, .row 0 [I ak, I an, I av, I atk, I atv, AV.sl 3 (Ty.encs atl) false, AV.sl 7 (Expr.encs al) false]), (6, .call (AV.tup [AV.agg [I 0, I rv, AV.sl 3 (Ty.encs rl) false], B true]) [])], .reg [] [], .reg [] [], .reg [] [], .reg [] [], .reg [] [(6, .int ((↑(List.length r) : Int) + 1 + 1)), (9, .int (rv + 1)), (10, .bit false)], .reg [] [(4, .row 1 [I bk, I bn, I bv, I btk, I btv, AV.sl 3 (Ty.encs btl) false, AV.sl 7 (Expr.encs bl) false]), (6, .call (AV.tup [AV.agg [I uk, I uv, AV.sl 3 (Ty.encs ul) false], B false]) [])], .reg [] [(2, .rows (Expr.encs r)), (3, .int (↑(List.length r) : Int))], .loop [.keep [(1, []), (3, []), (6, []), (14, []), (17, []), (263, []), (264, []), (265, [])]] (Exit.exit 2) { tm := lookT [(6, AV.lp 0 0), (14, B false), (17, AV.lp 1 0)], st := [.cells [I 0, I 0, AV.nil] [], .cells [I uk, I uv, AV.sl 3 (Ty.encs ul) false] []] }, .reg [] []] [.tidO 0 [none, none, some 3]] [] (AV.tup [AV.agg [I uk, I uv, AV.sl 3 (Ty.encs ul) false], B false]) ([]) (by kernel_rfl) (ob1 (hp) (q ((0 : Int) = (↑(0 : Nat) : Int)) (q (([I ak, I an, I av, I atk, I atv, AV.sl 3 (Ty.encs atl) false, AV.sl 7 (Expr.encs al) false] :: [I bk, I bn, I bv, I btk, I btv, AV.sl 3 (Ty.encs btl) false, AV.sl 7 (Expr.encs bl) false] :: Expr.encs r)[0]? = some [I ak, I an, I av, I atk, I atv, AV.sl 3 (Ty.encs atl) false, AV.sl 7 (Expr.encs al) false]) (ob1 (ha) (q ((↑(List.length ([I ak, I an, I av, I atk, I atv, AV.sl 3 (Ty.encs atl) false, AV.sl 7 (Expr.encs al) false] :: [I bk, I bn, I bv, I btk, I btv, AV.sl 3 (Ty.encs btl) false, AV.sl 7 (Expr.encs bl) false] :: Expr.encs r)) : Int) = (↑(List.length r) : Int) + 1 + 1) (qw (rv + 1) (q (((↑(List.length r) : Int) + 1 + 1 != rv + 1) = false) (q ((1 : Int) = (↑(1 : Nat) : Int)) (q (([I ak, I an, I av, I atk, I atv, AV.sl 3 (Ty.encs atl) false, AV.sl 7 (Expr.encs al) false] :: [I bk, I bn, I bv, I btk, I btv, AV.sl 3 (Ty.encs btl) false, AV.sl 7 (Expr.encs bl) false] :: Expr.encs r)[1]? = some [I bk, I bn, I bv, I btk, I btv, AV.sl 3 (Ty.encs btl) false, AV.sl 7 (Expr.encs bl) false]) (ob1 (hb) (q ((0 : Int) ≤ Option.getD (some (2 : Int)) (0 : Int)) (q (Option.getD (some (2 : Int)) (0 : Int) ≤ Option.getD none (↑(List.length ([I ak, I an, I av, I atk, I atv, AV.sl (3 : Nat) (Ty.encs atl) false, AV.sl (7 : Nat) (Expr.encs al) false] :: [I bk, I bn, I bv, I btk, I btv, AV.sl (3 : Nat) (Ty.encs btl) false, AV.sl (7 : Nat) (Expr.encs bl) false] :: Expr.encs r)) : Int)) (q (Option.getD none (↑(List.length ([I ak, I an, I av, I atk, I atv, AV.sl (3 : Nat) (Ty.encs atl) false, AV.sl (7 : Nat) (Expr.encs al) false] :: [I bk, I bn, I bv, I btk, I btv, AV.sl (3 : Nat) (Ty.encs btl) false, AV.sl (7 : Nat) (Expr.encs bl) false] :: Expr.encs r)) : Int) ≤ (↑(List.length ([I ak, I an, I av, I atk, I atv, AV.sl (3 : Nat) (Ty.encs atl) false, AV.sl (7 : Nat) (Expr.encs al) false] :: [I bk, I bn, I bv, I btk, I btv, AV.sl (3 : Nat) (Ty.encs btl) false, AV.sl (7 : Nat) (Expr.encs bl) false] :: Expr.encs r)) : Int)) (q (List.drop (Int.toNat (Option.getD (some (2 : Int)) (0 : Int))) (List.take (Int.toNat (Option.getD none (↑(List.length ([I ak, I an, I av, I atk, I atv, AV.sl (3 : Nat) (Ty.encs atl) false, AV.sl (7 : Nat) (Expr.encs al) false] :: [I bk, I bn, I bv, I btk, I btv, AV.sl (3 : Nat) (Ty.encs btl) false, AV.sl (7 : Nat) (Expr.encs bl) false] :: Expr.encs r)) : Int))) ([I ak, I an, I av, I atk, I atv, AV.sl (3 : Nat) (Ty.encs atl) false, AV.sl (7 : Nat) (Expr.encs al) false] :: [I bk, I bn, I bv, I btk, I btv, AV.sl (3 : Nat) (Ty.encs btl) false, AV.sl (7 : Nat) (Expr.encs bl) false] :: Expr.encs r)) = Expr.encs r) (q ((↑(List.length (Expr.encs r)) : Int) = (↑(List.length r) : Int)) (ob1 (hl) ob0))))))))))))))))
      · rw [if_neg (show ¬ ((Ty.mk 0 rv rl, true).1.kd = 0 ∧ (Ty.mk 0 rv rl, true).1.vl = ((Expr.mk bk bn bv (.mk btk btv btl) bl :: r).length : Int)) from fun h => hv (by have h2 : rv = _ := h.2; simp at h2; omega))]
        clear hb hl hok
        exact Fn.go KT Try.func15 [.reg [] [], .reg [] [(1, .call (B true) [])], .reg [] [], .reg [] [], .reg [] [], .reg [] [], .reg [] [], .reg [] [], .reg [] [], .reg [] [(4, .row 0 [I ak, I an, I av, I atk, I atv, AV.sl 3 (Ty.encs atl) false, AV.sl 7 (Expr.encs al) false]), (6, .call (AV.tup [AV.agg [I 0, I rv, AV.sl 3 (Ty.encs rl) false], B true]) [])], .reg [] [], .reg [] [], .reg [] [], .reg [] [], .reg [] [(6, .int ((↑(List.length r) : Int) + 1 + 1)), (9, .int (rv + 1)), (10, .bit true)], .reg [] []] [.tidO 2 [none, none, some 3]] [] (AV.tup [AV.agg [I 0, I 0, AV.sl 3 [] false], B false]) ([]) (by kernel_rfl) (ob1 (hp) (q ((0 : Int) = (↑(0 : Nat) : Int)) (q (([I ak, I an, I av, I atk, I atv, AV.sl 3 (Ty.encs atl) false, AV.sl 7 (Expr.encs al) false] :: [I bk, I bn, I bv, I btk, I btv, AV.sl 3 (Ty.encs btl) false, AV.sl 7 (Expr.encs bl) false] :: Expr.encs r)[0]? = some [I ak, I an, I av, I atk, I atv, AV.sl 3 (Ty.encs atl) false, AV.sl 7 (Expr.encs al) false]) (ob1 (ha) (q ((↑(List.length ([I ak, I an, I av, I atk, I atv, AV.sl 3 (Ty.encs atl) false, AV.sl 7 (Expr.encs al) false] :: [I bk, I bn, I bv, I btk, I btv, AV.sl 3 (Ty.encs btl) false, AV.sl 7 (Expr.encs bl) false] :: Expr.encs r)) : Int) = (↑(List.length r) : Int) + 1 + 1) (qw (rv + 1) (q (((↑(List.length r) : Int) + 1 + 1 != rv + 1) = true) ob0)))))))
    · rw [if_neg (show ¬ ((Ty.mk rk rv rl, true).1.kd = 0 ∧ (Ty.mk rk rv rl, true).1.vl = ((Expr.mk bk bn bv (.mk btk btv btl) bl :: r).length : Int)) from fun h => hk h.1)]
      clear hb hl hok hV
      exact Fn.go KT Try.func15 [.reg [] [], .reg [] [(1, .call (B true) [])], .reg [] [], .reg [] [], .reg [] [], .reg [] [], .reg [] [], .reg [] [], .reg [] [], .reg [] [(4, .row 0 [I ak, I an, I av, I atk, I atv, AV.sl 3 (Ty.encs atl) false, AV.sl 7 (Expr.encs al) false]), (6, .call (AV.tup [AV.agg [I rk, I rv, AV.sl 3 (Ty.encs rl) false], B true]) [])], .reg [] [], .reg [] [], .reg [] [], .reg [] [], .reg [] [(2, .bit true)], .reg [] []] [.tidO 2 [none, none, some 3]] [] (AV.tup [AV.agg [I 0, I 0, AV.sl 3 [] false], B false]) ([]) (by kernel_rfl) (ob1 (hp) (q ((0 : Int) = (↑(0 : Nat) : Int)) (q (([I ak, I an, I av, I atk, I atv, AV.sl 3 (Ty.encs atl) false, AV.sl 7 (Expr.encs al) false] :: [I bk, I bn, I bv, I btk, I btv, AV.sl 3 (Ty.encs btl) false, AV.sl 7 (Expr.encs bl) false] :: Expr.encs r)[0]? = some [I ak, I an, I av, I atk, I atv, AV.sl 3 (Ty.encs atl) false, AV.sl 7 (Expr.encs al) false]) (ob1 (ha) (q ((rk != 0) = true) ob0)))))

end Go.Ae

/- The abstract executor, part 19: functions. -/
import Derived.Test.YtpcnfjddleceiaaGreatAe18
import Derived.Laws.Sem
import Derived.KernelRfl
namespace Go.Ae

section
variable {P : Program} {N : Nat} {M : Mem} {μ : List Bd} {s : ASt} {w : World} {a : Act}

def resA (P : Program) (s : ASt) (r : ResultVar) : Option AV :=
  match r with
  | .tmp t => some (s.tm t)
  | .cell x t => match s.tm x with
    | .ip cs off => ldA P t cs off
    | .lp l off => match getO s.st l with
      | .cells cs _ => ldA P t cs off
      | _ => none
    | _ => none

def resL (P : Program) (s : ASt) : List ResultVar → Option (List AV)
  | [] => some []
  | r :: rs => match resA P s r with
    | some x => match resL P s rs with
      | some xs => some (x :: xs)
      | none => none
    | none => none

def resV : List AV → AV
  | [x] => x
  | xs => .tup xs

theorem run_resA (hR : Rel N M μ s a w) {r : ResultVar} {x : AV} (h : resA P s r = some x) :
    ∃ v, ((match r with
      | .tmp t => pure (a.tmps.getD t undef)
      | .cell z t => do loadVar t (← asAddr (a.tmps.getD z undef)) : Sem Value)).run P w = .ok v w ∧ RepV M μ x v := by
  cases r with
  | tmp t =>
    simp only [resA, Option.some.injEq] at h
    subst h
    exact ⟨_, rfl, hR.tm t⟩
  | cell z t =>
    have hz := hR.tm z
    have key : ∀ (ad : Addr) (v : Value), a.tmps.getD z undef = .pointer (some ad) → (Instr.loadAt t (.pointer (some ad))).run P w = .ok v w →
        ((do loadVar t (← asAddr (a.tmps.getD z undef)) : Sem Value)).run P w = .ok v w := fun ad v e h => by
      rw [e]
      simpa [Instr.loadAt, Instr.sureAddr, asAddr] using h
    simp only [resA] at h
    split at h
    · rename_i cs off e
      rw [e] at hz
      generalize hv : a.tmps.getD z undef = v at *
      cases hz with
      | ip f hm hr =>
        obtain ⟨v, h1, h2⟩ := run_loadAt (P := P) w h (fun j a e => ⟨f j, (hR.st.mem _ _ _ (hm j a e)).1, hr j a e⟩)
        exact ⟨v, by rw [← hv] at key; simpa only [hv] using key _ v hv h1, h2.data⟩
    · rename_i l off e
      rw [e] at hz
      split at h
      · rename_i cs ro hl
        obtain ⟨b, c, ty, hv, h2, h3, _⟩ := obj_cells hR.st hl hz
        obtain ⟨v, h4, h5⟩ := run_loadAt (P := P) (b := b) (o := 0) w h (fun j a e => by
          obtain ⟨v, e1, _, e2⟩ := h3.2 j a e
          exact ⟨v, by rw [cell_of_heap h2, Nat.zero_add]; exact e1, e2⟩)
        rw [Nat.zero_add] at h4
        exact ⟨v, key _ v hv h4, h5⟩
      · cases h
    · cases h

theorem run_resL (hR : Rel N M μ s a w) : ∀ {rs : List ResultVar} {xs : List AV}, resL P s rs = some xs →
    ∃ vs : List Value, (rs.mapM (fun r => (match r with
      | .tmp t => pure (a.tmps.getD t undef)
      | .cell z t => do loadVar t (← asAddr (a.tmps.getD z undef)) : Sem Value))).run P w = .ok vs w ∧ vs.length = xs.length ∧
      ∀ (j : Nat) (x : AV) (v : Value), xs[j]? = some x → vs[j]? = some v → RepV M μ x v
  | [], xs, h => by simp only [resL, Option.some.injEq] at h; subst h; exact ⟨[], by simp, rfl, by simp⟩
  | r :: rs, xs, h => by
    simp only [resL] at h
    split at h
    · rename_i x hx
      split at h
      · rename_i ys hys
        cases h
        obtain ⟨v, h1, h2⟩ := run_resA hR hx
        obtain ⟨vs, k1, k2, k3⟩ := run_resL hR hys
        refine ⟨v :: vs, ?_, by simp [k2], fun j x' v' e1 e2 => ?_⟩
        · rw [List.mapM_cons]
          simp only [Sem.run_bind, h1, Result.andThen_ok, k1, Sem.run_pure]
        · cases j with
          | zero => simp at e1 e2; subst e1; subst e2; exact h2
          | succ j => exact k3 j x' v' (by simpa using e1) (by simpa using e2)
      · cases h
    · cases h

theorem run_results (hR : Rel N M μ s a w) {fn : Func} {xs : List AV} (h : resL P s fn.results.toList = some xs) :
    ∃ v, (results fn a.tmps).run P w = .ok v w ∧ RepV M μ (resV xs) v := by
  obtain ⟨vs, h1, h2, h3⟩ := run_resL hR h
  have hm : (fn.results.mapM (fun r => (match r with
      | .tmp t => pure (a.tmps.getD t undef)
      | .cell z t => do loadVar t (← asAddr (a.tmps.getD z undef)) : Sem Value))).run P w = .ok vs.toArray w := by
    rw [Array.mapM_eq_mapM_toList]
    rw [← bind_pure_comp]
    simp only [Sem.run_bind, h1, Result.andThen_ok, Sem.run_pure]
  refine ⟨if h : vs.toArray.size = 1 then vs.toArray[0] else .tuple vs.toArray, ?_, ?_⟩
  · unfold results
    simp only [Sem.run_bind]
    erw [hm]
    rfl
  · match vs, xs, h2, h3 with
    | [v], [x], _, h3 => exact h3 0 x v rfl rfl
    | [], [], h2, h3 => exact .tup (us := []) rfl (by simp)
    | v :: v2 :: vs, x :: x2 :: xs, h2, h3 =>
      simp only [List.size_toArray, List.length_cons, resV]
      rw [dif_neg (by omega)]
      exact .tup h2 h3

/-! ### a function -/
def argT (args : List AV) (t : Nat) : AV :=
  match args[t]? with
  | some x => x
  | none => .sc undef

def okE2 : Exit → Bool
  | .normal => true
  | .ret => true
  | _ => false

def evFin (P : Program) (m : Nat) (fn : Func) (fin : List Wk) (ks : List (Option Nat)) (r : CodeR) : Option (AV × List AObj × List Prop) :=
  bif okE2 r.e then match wkA m fin r.s with
    | some s2 => match resL P s2 fn.results.toList with
      | some xs =>
        let ids := reach (getO s2.st) 1000 (List.range m) ((List.range m).flatMap (fun l => idsO (getO s2.st l)) ++ idsV 6 (resV xs))
        bif nodupB ids && eqL (ids.take m) (List.range m) && Nat.ble m s2.st.length then
          some (tidyV ks (renV (renOf ids m (getO s2.st)) 6 (resV xs)), newSt ids m (getO s2.st), r.ob)
        else none
      | none => none
    | none => none
  else none

def evFun (P : Program) (K : Kinds) (fn : Func) (args : List AV) (σ : List AObj) (orc : List Or) (fin : List Wk) (ks : List (Option Nat)) : Option (AV × List AObj × List Prop) :=
  match fn.body with
  | some c => bif fn.name == "runtime.NumGoroutine" then none else
    match evCode P K (args.length + (fn.ntmps - args.length)) σ.length c orc ⟨argT args, σ⟩ with
    | some r => evFin P σ.length fn fin ks r
    | none => none
  | none => none

theorem Fn.ofT {f : FuncId} {fn : Func} {c : Code} {args : List AV} {σ σ' : List AObj} {r : AV} {ob : List Prop} {cr : CodeR} (hf : P.funcs[f]? = some fn) (hb : fn.body = some c) (hn : (fn.name == "runtime.NumGoroutine") = false)
    (fin : List Wk) (ks : List (Option Nat)) (hT : T P (args.length + (fn.ntmps - args.length)) σ.length c ⟨argT args, σ⟩ cr.e cr.s)
    (h : evFin P σ.length fn fin ks cr = some (r, σ', ob)) : SoundCall P f args σ r σ' := by
        unfold evFin at h
        cases hoke : okE2 cr.e with
        | false => rw [hoke] at h; cases h
        | true =>
          rw [hoke] at h
          simp only [cond_true] at h
          split at h
          · rename_i s2 hs2
            split at h
            · rename_i xs hxs
              generalize hids : reach (getO s2.st) 1000 (List.range σ.length) ((List.range σ.length).flatMap (fun l => idsO (getO s2.st l)) ++ idsV 6 (resV xs)) = ids at h
              cases hc : (nodupB ids && eqL (ids.take σ.length) (List.range σ.length) && Nat.ble σ.length s2.st.length) with
              | false => rw [hc] at h; cases h
              | true =>
                rw [hc] at h
                simp only [cond_true, Option.some.injEq, Prod.mk.injEq] at h
                obtain ⟨rfl, rfl, -⟩ := h
                simp only [Bool.and_eq_true] at hc
                obtain ⟨⟨hnd, he⟩, hml⟩ := hc
                have hh := eqL_spec he
                refine ⟨⟨fn, hf, by rw [hb]; rfl, hn⟩, ?_, fun M μ w vs hst hl hrep => ?_⟩
                · have : (ids.take σ.length).length = σ.length := by rw [hh]; simp
                  simp only [newSt, List.length_map, List.length_zipIdx]
                  rw [List.length_take] at this
                  omega
                · have hR : Rel (args.length + (fn.ntmps - args.length)) M μ ⟨argT args, σ⟩ { tmps := vs.toArray ++ Array.replicate (fn.ntmps - vs.toArray.size) undef, defers := [] } w := by
                    refine ⟨by simp [hl], rfl, fun t => ?_, hst⟩
                    simp only [argT]
                    split
                    · rename_i x hx
                      have ht : t < args.length := (List.getElem?_eq_some_iff.1 hx).1
                      have ht2 : t < vs.length := by omega
                      have : (vs.toArray ++ Array.replicate (fn.ntmps - vs.toArray.size) undef).getD t undef = vs[t] := by
                        rw [Array.getD_eq_getD_getElem?, Array.getElem?_append_left (by simpa using ht2)]
                        simp [ht2]
                      rw [this]
                      exact hrep t x _ hx (List.getElem?_eq_getElem ht2)
                    · rename_i hx
                      have ht : args.length ≤ t := List.getElem?_eq_none_iff.1 hx
                      have : (vs.toArray ++ Array.replicate (fn.ntmps - vs.toArray.size) undef).getD t undef = undef := by
                        rw [Array.getD_eq_getD_getElem?, Array.getElem?_append_right (by simp; omega), Array.getElem?_replicate]
                        split <;> rfl
                      rw [this]
                      exact .sc
                  refine calls_of_wp hf hb ?_
                  refine hT M μ _ w hR _ fun a' w' M1 μ1 r1 p1 e1 => ?_
                  obtain ⟨M2, μ2, r2, p2, e2⟩ := wkA_weak (N := args.length + (fn.ntmps - args.length)) hs2 M1 μ1 a' w' r1
                  obtain ⟨v, hv, hrv⟩ := run_results r2 hxs
                  obtain ⟨q1, q2, q3⟩ := r2.st.sub ids σ.length hnd
                  have fin : a'.defers = [] ∧ ∃ v, (results fn a'.tmps).run P w' = .ok v w' ∧ (fun e w' => ∃ v M' μ', e = Ending.returned v ∧ StoreOk M' μ' (newSt ids σ.length (getO s2.st)) w' ∧
                      Stp M μ σ w M' μ' (newSt ids σ.length (getO s2.st)) w' ∧ EvoTo σ.length μ μ' ∧ RepV M' μ' (tidyV ks (renV (renOf ids σ.length (getO s2.st)) 6 (resV xs))) v) (.returned v) w' := by
                    refine ⟨r1.defers, v, hv, v, M2, _, rfl, q1, ?_, ?_, ((hrv.ren q2 6).tidy ks)⟩
                    · refine (p1.trans p2).trans ⟨rfl, rfl, rfl, Nat.le_refl _, fun _ _ _ => rfl, .refl M2, fun b o v h k => by simp [h] at k, fun b ho => .inr ?_⟩
                      obtain ⟨l, _, bd, k1, k2, k3, k4⟩ := q3 b ho
                      exact ⟨l, _, bd, k1, k2, k3, k4⟩
                    · refine (e1.trans e2).trans fun l bd hl e => ?_
                      have hid : ids[l]? = some l := by
                        have : (ids.take σ.length)[l]? = some l := by rw [hh]; simp [hl]
                        rwa [List.getElem?_take, if_pos hl] at this
                      refine ⟨bd, ?_, .refl bd⟩
                      rw [newMu_get, hid]
                      have g1 := mu_gen r2.st e
                      simp only [Option.map_some, Option.some.injEq, List.getD_eq_getElem?_getD, e, Option.getD_some]
                      unfold mvBd nwOf
                      split
                      · rfl
                      · rw [show Nat.blt l σ.length = true from Nat.ble_eq_true_of_le hl]
                        simp only [cond_true, ← g1]
                  cases hx : cr.e with
                  | normal => exact fin
                  | ret => exact fin
                  | _ => rw [hx] at hoke; cases hoke
            · cases h
          · cases h

theorem Fn.sound {K : Kinds} {f : FuncId} {fn : Func} {args : List AV} {σ σ' : List AObj} {r : AV} {ob : List Prop} (hf : P.funcs[f]? = some fn) (orc : List Or) (fin : List Wk) (ks : List (Option Nat))
    (h : evFun P K fn args σ orc fin ks = some (r, σ', ob)) (hob : AllP ob) : SoundCall P f args σ r σ' := by
  unfold evFun at h
  split at h
  · rename_i c hb
    cases hn : (fn.name == "runtime.NumGoroutine") with
    | true => rw [hn] at h; cases h
    | false =>
      rw [hn] at h
      simp only [cond_false] at h
      split at h
      · rename_i cr hcr
        have hobc : AllP cr.ob := by
          unfold evFin at h
          cases hoke : okE2 cr.e with
          | false => rw [hoke] at h; cases h
          | true =>
            rw [hoke] at h
            simp only [cond_true] at h
            split at h
            · split at h
              · simp only [cond_eq_ite, Option.ite_none_right_eq_some, Option.some.injEq, Prod.mk.injEq] at h
                rw [h.2.2.2]; exact hob
              · cases h
            · cases h
        exact Fn.ofT hf hb hn fin ks (evCode_sound hcr hobc) h
      · cases h
  · cases h

end
end Go.Ae

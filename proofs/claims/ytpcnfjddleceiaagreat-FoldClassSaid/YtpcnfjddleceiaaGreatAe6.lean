/- The abstract executor, part 6: loads, stores, places, cuts, numbers. -/
import Derived.Test.YtpcnfjddleceiaaGreatAe5
namespace Go.Ae

theorem getO_some {st : List AObj} {l : Nat} {o : AObj} (h : getO st l = o) (hh : o.here = true) : st[l]? = some o := by
  unfold getO at h
  rw [List.getD_eq_getElem?_getD] at h
  cases e : st[l]? with
  | none => rw [e] at h; simp at h; subst h; cases hh
  | some x => rw [e] at h; simp at h; rw [h]

section
variable {P : Program} {M : Mem} {μ : List Bd} {st : List AObj} {w : World} {ρ : Operand → AV} {ρc : Operand → Value} {o : Oper} {en : Ent} {slot : Nat}

theorem obj_cells (hst : StoreOk M μ st w) {l off : Nat} {cs : List AV} {ro : List Nat} {v : Value} (h : getO st l = .cells cs ro) (hr : RepV M μ (.lp l off) v) :
    ∃ b c t, v = .pointer (some ⟨b, off, none⟩) ∧ w.heap[b]? = some (.cells c t (0, 0)) ∧ RL M μ cs c ∧ st[l]? = some (.cells cs ro) ∧ μ[l]? = some (Bd.at b) ∧ (∀ x, x ∉ ro → M b x = none) := by
  have e1 := getO_some h rfl
  cases hr with
  | lp e2 =>
    obtain ⟨b, c, t, e3, h2, h3, h4, h5⟩ := hst.rep l _ _ e1 e2
    have e4 := congrArg Bd.b e3
    simp only [Bd.at, Option.some.injEq] at e4
    subst e4
    exact ⟨_, c, t, rfl, h2, ⟨h3, h4⟩, e1, e2, h5⟩

theorem obj_arr (hst : StoreOk M μ st w) {l g sz : Nat} {rows : List (List AV)} (h : getO st l = .arr g sz rows) :
    ∃ bd, st[l]? = some (.arr g sz rows) ∧ μ[l]? = some bd ∧ RepO M μ w (.arr g sz rows) bd := by
  have e1 := getO_some h rfl
  have hl : l < μ.length := by rw [hst.len]; exact (List.getElem?_eq_some_iff.1 e1).1
  exact ⟨μ[l], e1, List.getElem?_eq_getElem hl, hst.rep l _ _ e1 (List.getElem?_eq_getElem hl)⟩

theorem exec_v {x : Sem Value} {v : Value} {w w' : World} (h : x.run P w = .ok v w') : (do pure (Next.value (← x)) : Sem Next).run P w = .ok (.value v) w' := by simp [h]
theorem exec_u {x : Sem Unit} {w w' : World} (h : x.run P w = .ok () w') : (do x; pure Next.skip : Sem Next).run P w = .ok .skip w' := by simp [h]

/-! ### load -/
def loadA (P : Program) (look : Nat → AObj) (en : Ent) (t : TypeId) (p : AV) : Option Res :=
  match p with
  | .ip cs off => (ldA P t cs off).map fun r => ⟨r, [], [], []⟩
  | .lp l off => match look l with
    | .cells cs _ => (ldA P t cs off).map fun r => ⟨r, [], [(l, false)], []⟩
    | _ => none
  | .le l g i off => match look l with
    | .arr c _ rows => match en with
      | .row _ cs => bif Nat.beq g c then (ldA P t cs off).map fun r => ⟨r, [], [(l, false)], [rows[i]? = some cs]⟩ else none
      | _ => none
    | _ => none
  | _ => none

theorem ok_load (hst : StoreOk M μ st w) (hρ : ∀ x, RepV M μ (ρ x) (ρc x)) {t : TypeId} {x : Operand} (ho : o.op = .load t x) {res : Res}
    (h : loadA P (getO st) en t (ρ x) = some res) (hob : AllP res.ob) : OpOk M μ st w res ((execOp ρc o).run P w) := by
  have hx := hρ x
  have key : ∀ v, (Instr.loadAt t (ρc x)).run P w = .ok v w → (execOp ρc o).run P w = .ok (.value v) w := fun v hv => by
    simp only [execOp, ho]; exact exec_v hv
  unfold loadA at h
  split at h
  · rename_i cs off e
    obtain ⟨r, hl, rfl⟩ := Option.map_eq_some_iff.1 h
    rw [e] at hx
    generalize ρc x = v at *
    cases hx with
    | ip f hm hr =>
      obtain ⟨v, h1, h2⟩ := run_loadAt (P := P) w hl (fun j a e => ⟨f j, (hst.mem _ _ _ (hm j a e)).1, hr j a e⟩)
      exact OpOk.val hst (key v h1) h2.data
  · rename_i l off e
    split at h
    · rename_i cs ro hl
      obtain ⟨r, hld, rfl⟩ := Option.map_eq_some_iff.1 h
      rw [e] at hx
      obtain ⟨b, c, ty, hv, h2, h3, _⟩ := obj_cells hst hl hx
      obtain ⟨v, h4, h5⟩ := run_loadAt (P := P) (b := b) (o := 0) w hld (fun j a e => by
        obtain ⟨v, e1, _, e2⟩ := h3.2 j a e
        exact ⟨v, by rw [cell_of_heap h2, Nat.zero_add]; exact e1, e2⟩)
      rw [Nat.zero_add, ← hv] at h4
      exact OpOk.val hst (key v h4) h5
    · cases h
  · rename_i l g i off e
    split at h
    · rename_i c sz rows hl
      split at h
      · rename_i k cs
        cases hg : Nat.beq g c with
        | false => rw [hg] at h; cases h
        | true =>
          rw [hg] at h
          simp only [cond_true] at h
          obtain ⟨r, hld, rfl⟩ := Option.map_eq_some_iff.1 h
          have := Nat.eq_of_beq_eq_true hg
          subst this
          simp only [AllP, and_true] at hob
          rw [e] at hx
          obtain ⟨bd, e1, e2, q1, q2, q3, q4, q5⟩ := obj_arr hst hl
          generalize ρc x = v at *
          cases hx with
          | le k1 k2 k3 k4 k5 =>
            rw [e2] at k1
            cases k1
            obtain ⟨b, hb, rfl⟩ := k4 q2
            rw [hb] at q5
            obtain ⟨c, ty, m1, m2, m3, m4, m5, m6⟩ := q5
            obtain ⟨v, h4, h5⟩ := run_loadAt (P := P) (M := M) (μ := []) (b := b) (o := i * bd.sz) w hld (fun j a e => by
              obtain ⟨v, z1, _, z2⟩ := m5 i cs j a hob e
              exact ⟨v, by rw [cell_of_heap m1, q3]; exact z1, z2⟩)
            exact OpOk.val hst (key v h4) h5.data
      · cases h
    · cases h
  · cases h

/-! ### store -/
def storeA (P : Program) (look : Nat → AObj) (en : Ent) (t : TypeId) (p x : AV) : Option Res :=
  match szT P t, cellsOf x with
  | some n, some vs => match p with
    | .lp l off => match look l with
      | .cells cs ro => bif Nat.beq vs.length n && Nat.ble (off + n) cs.length && (List.range n).all (fun j => !memB (off + j) ro) then
          some ⟨.sc undef, [(l, .cells (putL cs off vs) ro)], [(l, true)], []⟩ else none
      | _ => none
    | .le l g i off => match look l with
      | .arr c sz rows => match en with
        | .row _ cs => bif Nat.beq g c && Nat.beq vs.length n && Nat.ble (off + n) cs.length && vs.all (dataB 6) then
            some ⟨.sc undef, [(l, .arr c sz (rows.set i (putL cs off vs)))], [(l, true)], [rows[i]? = some cs]⟩ else none
        | _ => none
      | _ => none
    | _ => none
  | _, _ => none

theorem cell_put {w w' : World} {b : Nat} {c : Array Value} {t : TypeId} (h : Put w w' b c t) {b' x : Nat} (hb : b' ≠ b) : w'.cell? ⟨b', x, none⟩ = w.cell? ⟨b', x, none⟩ := by
  simp only [World.cell?, h.other b' hb]

theorem ok_store (hst : StoreOk M μ st w) (hρ : ∀ x, RepV M μ (ρ x) (ρc x)) {t : TypeId} {p x : Operand} (ho : o.op = .store t p x) {res : Res}
    (h : storeA P (getO st) en t (ρ p) (ρ x) = some res) (hob : AllP res.ob) : OpOk M μ st w res ((execOp ρc o).run P w) := by
  have hp := hρ p
  have hx := hρ x
  have key : ∀ w', (Instr.storeAt t (ρc p) (ρc x)).run P w = .ok () w' → (execOp ρc o).run P w = .ok .skip w' := fun w' hv => by
    simp only [execOp, ho]; exact exec_u hv
  unfold storeA at h
  split at h
  · rename_i n vs hn hvs
    have hvr := cellsOf_rep hvs hx
    obtain ⟨i, hi, rfl⟩ := Option.map_eq_some_iff.1 hn
    split at h
    · rename_i l off ep
      split at h
      · rename_i cs ro hl
        cases hc : (Nat.beq vs.length i.size && Nat.ble (off + i.size) cs.length && (List.range i.size).all (fun j => !memB (off + j) ro)) with
        | false => rw [hc] at h; cases h
        | true =>
          rw [hc] at h
          cases h
          simp only [Bool.and_eq_true] at hc
          have h1 : vs.length = i.size := Nat.eq_of_beq_eq_true hc.1.1
          have h2 : off + i.size ≤ cs.length := Nat.le_of_ble_eq_true hc.1.2
          have h3 : ∀ j, j < i.size → off + j ∉ ro := fun j hj hm => by
            have := List.all_eq_true.1 hc.2 j (by simpa using hj)
            rw [memB_iff.2 hm] at this
            cases this
          rw [ep] at hp
          obtain ⟨b, c, ty, hv, q2, q3, q4, q5, q6⟩ := obj_cells hst hl hp
          obtain ⟨w', g1, g2⟩ := run_storeAt (P := P) w hi (by rw [hvr.1, h1]) q2 (by rw [hvr.1, q3.1, h1]; exact h2) hvr.one
          rw [← hv] at g1
          have hlt : l < st.length := (List.getElem?_eq_some_iff.1 q4).1
          have hset : μ.set l (Bd.at b) = μ := by
            apply List.ext_getElem?
            intro j
            by_cases hj : j = l
            · subst hj; rw [List.getElem?_set_self (by rw [hst.len]; exact hlt), q5]
            · rw [List.getElem?_set_ne (Ne.symm hj)]
          have hup : StoreOk M (μ.set l (Bd.at b)) (st.set l (.cells (putL cs off vs) ro)) w' := by
            refine hst.update hlt (.refl M) (fun bd e => by rw [q5] at e; cases e; exact .refl _) (fun b' _ ⟨j, y, q, hj, e1, hy, e2, e3⟩ => ?_) (fun j y q b' e1 hy e2 e3 => hst.lt e1 hy e2 e3) ?_ (fun e => by cases e) (fun b' e _ j y q hj e1 hy e2 e3 => ?_) (fun b' y u e => ?_)
            · have hne : b' ≠ b := fun e => hst.apart l j _ y _ q b (Ne.symm hj) q4 e1 rfl hy q5 e2 rfl (e ▸ e3)
              exact ⟨g2.other b' hne, fun _ h => h⟩
            · rw [hset]
              have hput := q3.put hvr (off := off) (by rw [h1]; exact h2)
              exact ⟨b, _, ty, rfl, g2.here, hput.1, hput.2, q6⟩
            · cases e
              exact hst.apart l j _ y _ q b (Ne.symm hj) q4 e1 rfl hy q5 e2 rfl e3
            · obtain ⟨k1, k2⟩ := hst.mem b' y u e
              refine ⟨?_, k2⟩
              by_cases hb : b' = b
              · subst hb
                rw [cell_of_heap q2] at k1
                rw [cell_of_heap g2.here, putA_get _ _ _ _ (by rw [Array.length_toList, hvr.1, q3.1, h1]; exact h2)]
                rw [if_neg, k1]
                intro hy
                rw [Array.length_toList, hvr.1, h1] at hy
                have : y ∉ ro := by
                  have := h3 (y - off) (by omega)
                  rwa [show off + (y - off) = y by omega] at this
                rw [q6 y this] at e
                cases e
              · rw [cell_put g2 hb]; exact k1
          rw [hset] at hup
          refine ⟨undef, w', M, μ, .inr ⟨key w' g1, rfl⟩, hup, ⟨g2.os, g2.tape, g2.output, by rw [g2.size]; exact Nat.le_refl _, fun b' hb' hown => ?_, .refl M, fun b' y u e k => by simp [e] at k, fun b' hown => .inr ?_⟩, .refl μ, .sc⟩
          · exact g2.other b' fun e => hown ⟨l, _, _, q4, rfl, q5, by rw [e]; rfl⟩
          · obtain ⟨j, y, q, e1, hy, e2, e3⟩ := hown
            by_cases hj : j = l
            · subst hj
              exact ⟨j, _, q, q4, rfl, e2, e3⟩
            · simp only [applyWr, List.foldl_cons, List.foldl_nil] at e1
              rw [List.getElem?_set_ne (Ne.symm hj)] at e1
              exact ⟨j, y, q, e1, hy, e2, e3⟩
      · cases h
    · rename_i l g i' off ep
      split at h
      · rename_i gc sz rows hl
        split at h
        · rename_i kk cs
          cases hc : (Nat.beq g gc && Nat.beq vs.length i.size && Nat.ble (off + i.size) cs.length && vs.all (dataB 6)) with
          | false => rw [hc] at h; cases h
          | true =>
            rw [hc] at h
            cases h
            simp only [Bool.and_eq_true] at hc
            have h0 := Nat.eq_of_beq_eq_true hc.1.1.1
            subst h0
            have h1 : vs.length = i.size := Nat.eq_of_beq_eq_true hc.1.1.2
            have h2 : off + i.size ≤ cs.length := Nat.le_of_ble_eq_true hc.1.2
            have hd := List.all_eq_true.1 hc.2
            simp only [AllP, and_true] at hob
            obtain ⟨bd, q1, q2, r1, r2, r3, r4, r5⟩ := obj_arr hst hl
            rw [ep] at hp
            generalize hpv : ρc p = pv at *
            cases hp with
            | le k1 k2 k3 k4 k5 =>
              rw [q2] at k1
              cases k1
              obtain ⟨b, hb, rfl⟩ := k4 r2
              rw [hb] at r5
              obtain ⟨c, ty, m1, m2, m3, m4, m5, m6⟩ := r5
              have hlen := m4 i' cs hob
              have hi' : i' < rows.length := (List.getElem?_eq_some_iff.1 hob).1
              have hle : i' * sz + sz ≤ c.size := by
                rw [m2, ← Nat.succ_mul]
                exact Nat.mul_le_mul_right sz (by omega)
              obtain ⟨w', g1, g2⟩ := run_storeAt (P := P) (off := i' * bd.sz + off) w hi (by rw [hvr.1, h1]) m1 (by rw [hvr.1, h1, r3]; omega) hvr.one
              have hlt : l < st.length := (List.getElem?_eq_some_iff.1 q1).1
              have hset : μ.set l bd = μ := by
                apply List.ext_getElem?
                intro j
                by_cases hj : j = l
                · subst hj; rw [List.getElem?_set_self (by rw [hst.len]; exact hlt), q2]
                · rw [List.getElem?_set_ne (Ne.symm hj)]
              have hrep : RepO M μ w' (.arr g sz (rows.set i' (putL cs off vs))) bd := by
                refine ⟨r1, r2, r3, by simpa using r4, ?_⟩
                rw [hb]
                refine ⟨_, ty, g2.here, by rw [putA_size]; exact m2, by simpa using m3, fun j row e => ?_, fun j row jj a e1 e2 => ?_, m6⟩
                · by_cases hj : j = i'
                  · subst hj
                    rw [List.getElem?_set_self hi'] at e
                    cases e
                    rw [putL_length (by omega)]; exact hlen
                  · rw [List.getElem?_set_ne (Ne.symm hj)] at e
                    exact m4 j row e
                · have hputl : i' * bd.sz + off + (ρc x).cells.toList.length ≤ c.size := by rw [Array.length_toList, hvr.1, h1, r3]; omega
                  rw [putA_get _ _ _ _ hputl]
                  rw [Array.length_toList, hvr.1, h1, r3]
                  by_cases hj : j = i'
                  · subst hj
                    rw [List.getElem?_set_self hi'] at e1
                    cases e1
                    rw [putL_get (by omega)] at e2
                    have hjj : jj < sz := by
                      by_cases hz : off ≤ jj ∧ jj < off + vs.length
                      · omega
                      · rw [if_neg hz] at e2
                        have := (List.getElem?_eq_some_iff.1 e2).1
                        omega
                    by_cases hz : off ≤ jj ∧ jj < off + vs.length
                    · rw [if_pos hz] at e2
                      rw [if_pos (by omega), show j * sz + jj - (j * sz + off) = jj - off by omega, Array.getElem?_toList]
                      obtain ⟨v, z1, z2, z3⟩ := hvr.2 _ a e2
                      exact ⟨v, z1, z2, z3.ofData 6 (hd a (List.mem_of_getElem? e2))⟩
                    · rw [if_neg hz] at e2
                      rw [if_neg (by omega)]
                      exact m5 j cs jj a hob e2
                  · rw [List.getElem?_set_ne (Ne.symm hj)] at e1
                    have hjj : jj < sz := by
                      rw [← m4 j row e1]
                      exact (List.getElem?_eq_some_iff.1 e2).1
                    rw [if_neg]
                    · exact m5 j row jj a e1 e2
                    · intro hz
                      rcases Nat.lt_or_gt_of_ne hj with hlt2 | hlt2
                      · have : j * sz + sz ≤ i' * sz := by rw [← Nat.succ_mul]; exact Nat.mul_le_mul_right sz hlt2
                        omega
                      · have : i' * sz + sz ≤ j * sz := by rw [← Nat.succ_mul]; exact Nat.mul_le_mul_right sz hlt2
                        omega
              have hup : StoreOk M (μ.set l bd) (st.set l (.arr g sz (rows.set i' (putL cs off vs)))) w' := by
                refine hst.update hlt (.refl M) (fun q e => by rw [q2] at e; cases e; exact .refl _) (fun b' _ ⟨j, y, q, hj, e1, hy, e2, e3⟩ => ?_) (fun j y q b' e1 hy e2 e3 => hst.lt e1 hy e2 e3) ?_ (fun e => by cases e) (fun b' e _ j y q hj e1 hy e2 e3 => ?_) (fun b' y u e => ?_)
                · have hne : b' ≠ b := fun e => hst.apart l j _ y _ q b (Ne.symm hj) q1 e1 rfl hy q2 e2 hb (e ▸ e3)
                  exact ⟨g2.other b' hne, fun _ h => h⟩
                · rw [hset]; exact hrep
                · rw [hb] at e
                  cases e
                  exact hst.apart l j _ y _ q b (Ne.symm hj) q1 e1 rfl hy q2 e2 hb e3
                · obtain ⟨z1, z2⟩ := hst.mem b' y u e
                  refine ⟨?_, z2⟩
                  by_cases hbb : b' = b
                  · subst hbb; rw [m6 y] at e; cases e
                  · rw [cell_put g2 hbb]; exact z1
              rw [hset] at hup
              refine ⟨undef, w', M, μ, .inr ⟨key w' g1, rfl⟩, hup, ⟨g2.os, g2.tape, g2.output, by rw [g2.size]; exact Nat.le_refl _, fun b' hb' hown => ?_, .refl M, fun b' y u e k => by simp [e] at k, fun b' hown => .inr ?_⟩, .refl μ, .sc⟩
              · exact g2.other b' fun e => hown ⟨l, _, _, q1, rfl, q2, by rw [e]; exact hb⟩
              · obtain ⟨j, y, q, e1, hy, e2, e3⟩ := hown
                by_cases hj : j = l
                · subst hj
                  exact ⟨j, _, q, q1, rfl, e2, e3⟩
                · simp only [applyWr, List.foldl_cons, List.foldl_nil] at e1
                  rw [List.getElem?_set_ne (Ne.symm hj)] at e1
                  exact ⟨j, y, q, e1, hy, e2, e3⟩
        · cases h
      · cases h
    · cases h
  · cases h

end
end Go.Ae

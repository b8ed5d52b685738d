/- The abstract executor, part 9: cuts, append, make. -/
import Derived.Test.YtpcnfjddleceiaaGreatAe8
namespace Go.Ae
section
variable {P : Program} {M : Mem} {μ : List Bd} {st : List AObj} {w : World} {ρ : Operand → AV} {ρc : Operand → Value} {o : Oper} {en : Ent} {slot : Nat}

/-! ### cuts -/
/-- A bound of a cut: not there; a number. -/
def bndA (ρ : Operand → AV) : Option Operand → Option (Option Int)
  | none => some none
  | some x => match ρ x with
    | .sc (.int _ n) => some (some n)
    | _ => none

theorem bndA_spec (hρ : ∀ x, RepV M μ (ρ x) (ρc x)) {x : Option Operand} {b : Option Int} (h : bndA ρ x = some b) :
    (x.map ρc = none ∧ b = none) ∨ ∃ k n, x.map ρc = some (.int k n) ∧ b = some n := by
  cases x with
  | none => simp only [bndA, Option.some.injEq] at h; exact .inl ⟨rfl, h.symm⟩
  | some x =>
    simp only [bndA] at h
    split at h
    · rename_i k n e
      cases h
      have := hρ x
      rw [e] at this
      exact .inr ⟨k, n, by simp [this.scv], rfl⟩
    · cases h

theorem run_bound {k : IntKind} {i : Int} {y : Nat} {code : BoundsCode} (h0 : 0 ≤ i) (h1 : i ≤ y) (w : World) : (Instr.sliceBound (.int k i) y code).run P w = .ok i.toNat w := by
  simp [Instr.sliceBound, asIntOf, h0, h1]

theorem run_bounds {isS : Bool} {len cap : Nat} {lo hi mx : Option Value} {l h m : Option Int}
    (hl : (lo = none ∧ l = none) ∨ ∃ k n, lo = some (.int k n) ∧ l = some n) (hh : (hi = none ∧ h = none) ∨ ∃ k n, hi = some (.int k n) ∧ h = some n)
    (hm : (mx = none ∧ m = none) ∨ ∃ k n, mx = some (.int k n) ∧ m = some n) (hmh : m = none ∨ (∃ n, h = some n ∧ m = some n))
    (h1 : 0 ≤ l.getD 0) (h2 : l.getD 0 ≤ h.getD len) (h3 : h.getD len ≤ cap) (w : World) :
    (Instr.sliceBounds isS len cap lo hi mx).run P w = .ok ((l.getD 0).toNat, (h.getD len).toNat, if m = none then cap else (h.getD len).toNat) w := by
  rcases hm with ⟨rfl, rfl⟩ | ⟨km, nm, rfl, rfl⟩
  · rcases hh with ⟨rfl, rfl⟩ | ⟨kh, nh, rfl, rfl⟩
    · rcases hl with ⟨rfl, rfl⟩ | ⟨kl, nl, rfl, rfl⟩
      · simp [Instr.sliceBounds]
      · simp only [Option.getD_some, Option.getD_none] at *
        simp [Instr.sliceBounds, run_bound (P := P) h1 h2 w]
    · rcases hl with ⟨rfl, rfl⟩ | ⟨kl, nl, rfl, rfl⟩
      · simp only [Option.getD_some, Option.getD_none] at *
        simp [Instr.sliceBounds, run_bound (P := P) (i := nh) (by omega) h3 w]
      · simp only [Option.getD_some] at *
        simp [Instr.sliceBounds, run_bound (P := P) (i := nh) (by omega) h3 w, run_bound (P := P) (y := nh.toNat) h1 (by omega) w]
  · rcases hmh with hmh | ⟨n, e1, e2⟩
    · cases hmh
    · cases e2
      subst e1
      rcases hh with ⟨_, e⟩ | ⟨kh, nh, rfl, e⟩
      · cases e
      · cases e
        rcases hl with ⟨rfl, rfl⟩ | ⟨kl, nl, rfl, rfl⟩
        · simp only [Option.getD_some, Option.getD_none] at *
          simp [Instr.sliceBounds, run_bound (P := P) (i := nm) (by omega) h3 w, run_bound (P := P) (i := nm) (y := nm.toNat) (by omega) (by omega) w]
        · simp only [Option.getD_some] at *
          simp [Instr.sliceBounds, run_bound (P := P) (i := nm) (by omega) h3 w, run_bound (P := P) (i := nm) (y := nm.toNat) (by omega) (by omega) w, run_bound (P := P) (y := nm.toNat) h1 (by omega) w]

def cutObs (l h : Int) (n : Nat) : List Prop := [0 ≤ l, l ≤ h, h ≤ (n : Int)]

def sliceA (P : Program) (look : Nat → AObj) (t : TypeId) (x : AV) (lo hi mx : Option (Option Int)) : Option Res :=
  match lo, hi, mx with
  | some l, some h, some m => match P.underlying t with
    | some .string => match x with
      | .sc (.string s) => match m with
        | none => some ⟨.sc (.string (s.extract (l.getD 0).toNat (h.getD s.size).toNat)), [], [], cutObs (l.getD 0) (h.getD s.size) s.size⟩
        | some _ => none
      | _ => none
    | some (.slice e) => match szT P e with
      | some n => match x with
        | .sl sz xs _ => bif Nat.beq n sz then (match m with
          | none => some ⟨.sl sz ((xs.take (h.getD xs.length).toNat).drop (l.getD 0).toNat) false, [], [], cutObs (l.getD 0) (h.getD xs.length) xs.length⟩
          | some mv => match h with
            | some hv => some ⟨.sl sz ((xs.take hv.toNat).drop (l.getD 0).toNat) true, [], [], cutObs (l.getD 0) hv xs.length ++ [mv = hv]⟩
            | none => none) else none
        | .la lb g => match look lb with
          | .arr c sz rows => match l, m, h with
            | none, none, some hv => bif Nat.beq g c && Nat.beq n sz then
                some ⟨.la lb (g + 1), [(lb, .arr (g + 1) sz (rows.take hv.toNat))], [(lb, true)], cutObs 0 hv rows.length⟩ else none
            | _, _, _ => none
          | _ => none
        | _ => none
      | none => none
    | _ => none
  | _, _, _ => none

theorem run_slice_sl {t e : TypeId} {i : TypeInfo} (hu : P.underlying t = some (.slice e)) (hinf : P.info? e = some i) {A : Option Addr} {len cap : Nat} {lo hi mx : Option Value} {L H Mx : Nat}
    (hb : (Instr.sliceBounds true len cap lo hi mx).run P w = .ok (L, H, Mx) w) :
    (Instr.sliceAt t (.slice A len cap) lo hi mx).run P w = .ok (.slice (if Mx = L then A else A.map (·.add (L * i.size))) (H - L) (Mx - L)) w := by
  simp only [Instr.sliceAt, Sem.run_bind, run_underlying hu, Result.andThen_ok, Instr.slice, hb, run_sizeOf w hinf, Sem.run_pure]

theorem ok_slice (hst : StoreOk M μ st w) (hρ : ∀ x, RepV M μ (ρ x) (ρc x)) {t : TypeId} {x : Operand} {lo hi mx : Option Operand} (ho : o.op = .slice t x lo hi mx) {res : Res}
    (h : sliceA P (getO st) t (ρ x) (bndA ρ lo) (bndA ρ hi) (bndA ρ mx) = some res) (hob : AllP res.ob) : OpOk M μ st w res ((execOp ρc o).run P w) := by
  have hx := hρ x
  have key : ∀ v, (Instr.sliceAt t (ρc x) (lo.map ρc) (hi.map ρc) (mx.map ρc)).run P w = .ok v w → (execOp ρc o).run P w = .ok (.value v) w := fun v hv => by
    simp only [execOp, ho]; exact exec_v hv
  unfold sliceA at h
  split at h
  · rename_i l hh m el eh em
    have bl := bndA_spec hρ el
    have bh := bndA_spec hρ eh
    have bm := bndA_spec hρ em
    split at h
    · rename_i hu
      split at h
      · rename_i s ex
        split at h
        · cases h
          simp only [AllP, cutObs, and_true] at hob
          obtain ⟨o1, o2, o3⟩ := hob
          rw [ex] at hx
          have hmx : mx.map ρc = none := by rcases bm with ⟨h, _⟩ | ⟨_, _, _, e⟩ <;> first | exact h | cases e
          have hb := run_bounds (P := P) (isS := false) (len := s.size) (cap := s.size) bl bh (.inl ⟨rfl, rfl⟩) (.inl rfl) o1 o2 o3 w
          refine OpOk.val hst (key _ ?_) .sc
          rw [hx.scv, hmx]
          simp only [Instr.sliceAt, Sem.run_bind, run_underlying hu, Result.andThen_ok, Instr.slice, Option.isSome_none, Bool.false_eq_true, if_false]
          simp [hb]
        · cases h
      · cases h
    · rename_i e hu
      split at h
      · rename_i n hn
        obtain ⟨ti, hti, rfl⟩ := Option.map_eq_some_iff.1 hn
        split at h
        · rename_i sz xs full ex
          cases hz : Nat.beq ti.size sz with
          | false => rw [hz] at h; cases h
          | true =>
            rw [hz] at h
            have hsz := Nat.eq_of_beq_eq_true hz
            simp only [cond_true] at h
            rw [ex] at hx
            -- what the cut slice stands for
            have cut : ∀ (L H Mx : Nat) (f : Bool), L ≤ H → H ≤ xs.length → (∀ A c, ρc x = .slice A xs.length c → H ≤ Mx) → (f = true → Mx = H) →
                ∀ A c, ρc x = .slice A xs.length c → RepV M μ (.sl sz ((xs.take H).drop L) f) (.slice (if Mx = L then A else A.map (·.add (L * ti.size))) (H - L) (Mx - L)) := by
              intro L H Mx f hLH hHx hHM hf A c hv
              have hlen : ((xs.take H).drop L).length = H - L := by simp; omega
              by_cases hne : (xs.take H).drop L = []
              · have h0 : H - L = 0 := by rw [← hlen, hne]; rfl
                rw [hne, h0]
                cases f with
                | false => exact .sl0
                | true =>
                  have := hf rfl
                  subst this
                  rw [h0]
                  exact .sl0f
              · have hpos : 0 < H - L := by rw [← hlen]; exact List.length_pos_iff.2 hne
                have hHM' := hHM A c hv
                rw [if_neg (by omega)]
                rw [hv] at hx
                cases hx with
                | sl0 => simp at hHx; omega
                | sl0f => simp at hHx; omega
                | @sl _ _ _ _ b o' _ fv hne' hc hf' hz' hm hr =>
                  rw [← hlen]
                  simp only [Option.map_some, addr_add, hsz]
                  have hget : ∀ (i : Nat) (row : List AV), ((xs.take H).drop L)[i]? = some row → xs[L + i]? = some row := fun i row e => by
                    rw [List.getElem?_drop, List.getElem?_take] at e
                    split at e
                    · exact e
                    · cases e
                  have hof : ∀ i j, o' + L * sz + i * sz + j = o' + (L + i) * sz + j := fun i j => by rw [Nat.add_mul]; omega
                  exact .sl (fun i j => fv (L + i) j) hne (by omega) (fun e => by rw [hlen, hf e]) (fun i row e => hz' _ row (hget i row e))
                    (fun i row j a e1 e2 => by rw [hof]; exact hm _ row j a (hget i row e1) e2) (fun i row j a e1 e2 => hr _ row j a (hget i row e1) e2)
            obtain ⟨A, c, hv, hc, _⟩ := hx.slc
            split at h
            · cases h
              simp only [AllP, cutObs, and_true] at hob
              obtain ⟨o1, o2, o3⟩ := hob
              have hmx : mx.map ρc = none := by rcases bm with ⟨h, _⟩ | ⟨_, _, _, e⟩ <;> first | exact h | cases e
              have hb := run_bounds (P := P) (isS := true) (len := xs.length) (cap := c) bl bh (.inl ⟨rfl, rfl⟩) (.inl rfl) o1 o2 (by omega) w
              simp only [if_true] at hb
              rw [← hmx] at hb
              have hrun := run_slice_sl hu hti (A := A) hb
              rw [← hv] at hrun
              exact OpOk.val hst (key _ hrun) (cut _ _ _ false (by omega) (by omega) (fun A' c' e => by rw [hv] at e; cases e; omega) (by simp) A c hv)
            · rename_i mv
              split at h
              · rename_i hv2
                cases h
                simp only [cutObs, List.cons_append, List.nil_append, AllP, and_true] at hob
                obtain ⟨o1, o2, o3, rfl⟩ := hob
                have hb := run_bounds (P := P) (isS := true) (len := xs.length) (cap := c) bl bh bm (.inr ⟨_, rfl, rfl⟩) o1 (by simpa using o2) (by simp only [Option.getD_some]; omega) w
                simp only [reduceCtorEq, if_false, Option.getD_some] at hb
                have hrun := run_slice_sl hu hti (A := A) hb
                rw [← hv] at hrun
                exact OpOk.val hst (key _ hrun) (cut _ _ _ true (by omega) (by omega) (fun A' c' e => Nat.le_refl _) (fun _ => rfl) A c hv)
              · cases h
        · rename_i lb g ex
          split at h
          · rename_i cg sz rows hlk
            split at h
            · rename_i hv2
              cases hz : (Nat.beq g cg && Nat.beq ti.size sz) with
              | false => rw [hz] at h; cases h
              | true =>
                rw [hz] at h
                cases h
                simp only [Bool.and_eq_true] at hz
                have hsz := Nat.eq_of_beq_eq_true hz.2
                simp only [AllP, cutObs, and_true] at hob
                obtain ⟨o1, o2, o3⟩ := hob
                rw [ex] at hx
                obtain ⟨bd, e1, e2, e3, e4, e5, e6, h7⟩ := hx.laCur hst hlk hz.1
                have hmx : mx.map ρc = none := by rcases bm with ⟨h, _⟩ | ⟨_, _, _, e⟩ <;> first | exact h | cases e
                have hlo : lo.map ρc = none := by rcases bl with ⟨h, _⟩ | ⟨_, _, _, e⟩ <;> first | exact h | cases e
                have hlt : lb < st.length := (List.getElem?_eq_some_iff.1 e1).1
                -- the object with the shorter content
                have upd : ∀ (bd' : Bd), bd'.b = bd.b → bd'.g = g + 1 → RepO M (μ.set lb bd') w (.arr (g + 1) sz (rows.take hv2.toNat)) bd' →
                    StoreOk M (μ.set lb bd') (st.set lb (.arr (g + 1) sz (rows.take hv2.toNat))) w ∧ Stp M μ st w M (μ.set lb bd') (st.set lb (.arr (g + 1) sz (rows.take hv2.toNat))) w ∧ EvoAll μ (μ.set lb bd') := by
                  intro bd' k1 k2 k3
                  have hev : ∀ p, μ[lb]? = some p → p.evo bd' := fun p e => by
                    rw [e2] at e; cases e
                    exact .inr (.inr ⟨by omega, by omega⟩)
                  refine ⟨hst.update hlt (.refl M) hev (fun b _ _ => ⟨rfl, fun _ h => h⟩) (fun i x p b z1 hx z2 z3 => hst.lt z1 hx z2 z3) k3 (fun e => by cases e) (fun b z _ i x p hi z1 hx z2 z3 => ?_) hst.mem, ?_, EvoAll.set hev⟩
                  · rw [k1] at z
                    exact hst.apart lb i _ x bd p b (Ne.symm hi) e1 z1 rfl hx e2 z2 z z3
                  · refine ⟨rfl, rfl, rfl, Nat.le_refl _, fun _ _ _ => rfl, .refl M, fun b o v e k => by simp [e] at k, fun b ⟨i, x, p, z1, hx, z2, z3⟩ => .inr ?_⟩
                    by_cases hi : i = lb
                    · subst hi
                      rw [List.getElem?_set_self (by rw [hst.len]; exact hlt)] at z2
                      cases z2
                      exact ⟨i, _, bd, e1, rfl, e2, by rw [← k1]; exact z3⟩
                    · rw [List.getElem?_set_ne (Ne.symm hi)] at z1 z2
                      exact ⟨i, x, p, z1, hx, z2, z3⟩
                rcases h7 with ⟨k0, rfl, k2, A, hv⟩ | ⟨b, cc, ty, k0, hv, k2, k3, k4, k5, k6⟩
                · have h0 : hv2.toNat = 0 := by simp at o3; omega
                  obtain ⟨u1, u2, u3⟩ := upd ⟨none, g + 1, 0, 0, sz⟩ k0.symm rfl ⟨by omega, rfl, rfl, by simp, by simp⟩
                  have hb := run_bounds (P := P) (isS := true) (len := 0) (cap := 0) bl bh (.inl ⟨rfl, rfl⟩) (.inl rfl) (by simp) (by simpa using o2) (by simpa using o3) w
                  rw [← hmx] at hb
                  have hrun := run_slice_sl hu hti (A := A) hb
                  rw [← hv] at hrun
                  refine ⟨_, w, M, _, .inl (key _ hrun), u1, u2, u3, .la (List.getElem?_set_self (by rw [hst.len]; exact hlt)) (by omega) (Nat.le_refl _) (fun _ => ?_) rfl⟩
                  simp only [Option.getD_some, h0, LaOk]
                  exact ⟨A, by simp⟩
                · have hle : hv2.toNat ≤ rows.length := by omega
                  obtain ⟨u1, u2, u3⟩ := upd ⟨some b, g + 1, bd.n, hv2.toNat, sz⟩ k0.symm rfl ⟨by omega, rfl, rfl, by simp; omega, cc, ty, k2, k3, by simp; omega,
                    fun i row e => k5.1 i row (by rw [List.getElem?_take] at e; split at e <;> first | exact e | cases e),
                    fun i row j a z1 z2 => k5.2 i row j a (by rw [List.getElem?_take] at z1; split at z1 <;> first | exact z1 | cases z1) z2, k6⟩
                  have hb := run_bounds (P := P) (isS := true) (len := rows.length) (cap := bd.n) bl bh (.inl ⟨rfl, rfl⟩) (.inl rfl) (by simp) (by simpa using o2) (by simp only [Option.getD_some]; omega) w
                  rw [← hmx] at hb
                  have hrun := run_slice_sl hu hti (A := some ⟨b, 0, none⟩) hb
                  rw [← hv] at hrun
                  refine ⟨_, w, M, _, .inl (key _ hrun), u1, u2, u3, .la (List.getElem?_set_self (by rw [hst.len]; exact hlt)) (by omega) (Nat.le_refl _) (fun _ => ?_) rfl⟩
                  simp [LaOk, addr_add]
            · cases h
          · cases h
        · cases h
      · cases h
    · cases h
  · cases h

end
end Go.Ae

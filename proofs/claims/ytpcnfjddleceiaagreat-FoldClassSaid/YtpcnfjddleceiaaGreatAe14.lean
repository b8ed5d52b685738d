/- The abstract executor, part 14: what is left behind a call. -/
import Derived.Test.YtpcnfjddleceiaaGreatAe13
namespace Go.Ae

theorem applyWr_miss : ∀ (wr : List (Nat × AObj)) (st : List AObj) (l : Nat), (∀ p ∈ wr, p.1 ≠ l) → (applyWr st wr)[l]? = st[l]?
  | [], _, _, _ => rfl
  | p :: wr, st, l, h => by
    show (applyWr (st.set p.1 p.2) wr)[l]? = _
    rw [applyWr_miss wr _ l (fun q hq => h q (by simp [hq])), List.getElem?_set_ne (h p (by simp))]

theorem applyWr_length : ∀ (wr : List (Nat × AObj)) (st : List AObj), (applyWr st wr).length = st.length
  | [], _ => rfl
  | p :: wr, st => by
    show (applyWr (st.set p.1 p.2) wr).length = _
    rw [applyWr_length wr]; simp

theorem applyWr_at : ∀ (wr : List (Nat × AObj)) (st : List AObj) (i l : Nat) (o : AObj), (∀ (i j : Nat) (p q : Nat × AObj), wr[i]? = some p → wr[j]? = some q → p.1 = q.1 → i = j) →
    wr[i]? = some (l, o) → l < st.length → (applyWr st wr)[l]? = some o
  | [], _, _, _, _, _, h, _ => by simp at h
  | p :: wr, st, 0, l, o, hi, h, hl => by
    simp only [List.getElem?_cons_zero, Option.some.injEq] at h
    subst h
    show (applyWr (st.set l o) wr)[l]? = _
    rw [applyWr_miss wr _ l (fun q hq e => ?_), List.getElem?_set_self hl]
    obtain ⟨j, hj⟩ := List.getElem?_of_mem hq
    have := hi 0 (j + 1) (l, o) q rfl (by simpa using hj) e.symm
    omega
  | p :: wr, st, i + 1, l, o, hi, h, hl => by
    show (applyWr (st.set p.1 p.2) wr)[l]? = _
    exact applyWr_at wr _ i l o (fun i j p q h1 h2 e => by have := hi (i + 1) (j + 1) p q (by simpa using h1) (by simpa using h2) e; omega) (by simpa using h) (by simpa using hl)

/-- Where the callee's object j lies with the caller. -/
def locOf (ids : List Nat) (endS j : Nat) : Nat :=
  match ids[j]? with
  | some l => l
  | none => endS + (j - ids.length)

def nwOut (old new : AObj) : Nat := bif Nat.beq old.gen 0 then new.gen else old.gen + new.gen - 1

def nwJ (ids : List Nat) (look : Nat → AObj) (σ : List AObj) (j : Nat) : Nat :=
  match ids[j]? with
  | some l => nwOut (look l) (getO σ j)
  | none => 1

def outRen (ids : List Nat) (look : Nat → AObj) (endS : Nat) (σ : List AObj) : Ren := fun j =>
  bif Nat.blt j σ.length then some (locOf ids endS j, (getO σ j).gen, nwJ ids look σ j) else none

def wrOut (ids : List Nat) (look : Nat → AObj) (endS : Nat) (σ : List AObj) : List (Nat × AObj) :=
  (List.range σ.length).map fun j => (locOf ids endS j, renO (outRen ids look endS σ) (nwJ ids look σ j) (getO σ j))

/-- The callee's object behind the caller's place l. -/
def invOf (ids : List Nat) (n l : Nat) : Option Nat := if l < n then posOf l ids 0 else some (l - n + ids.length)

theorem posOf_of {ids : List Nat} (hn : nodupB ids = true) {j l : Nat} (h : ids[j]? = some l) : posOf l ids 0 = some j := by
  have key : ∀ (xs : List Nat) (k : Nat), l ∈ xs → ∃ i, posOf l xs k = some i := by
    intro xs
    induction xs with
    | nil => intro k h; simp at h
    | cons x xs ih =>
      intro k h
      simp only [posOf]
      cases hb : Nat.beq x l with
      | true => exact ⟨k, rfl⟩
      | false =>
        have hne : x ≠ l := fun e => by subst e; simp at hb
        exact ih (k + 1) ((List.mem_cons.1 h).resolve_left (Ne.symm hne))
  obtain ⟨i, hi⟩ := key ids 0 (List.mem_of_getElem? h)
  have := (posOf_spec l ids 0 i hi).2
  rw [Nat.sub_zero] at this
  rw [hi, nodupB_spec hn i j l this h]

section
variable {P : Program} {M M' : Mem} {μ μ' : List Bd} {st σ' : List AObj} {w w' : World} {ids : List Nat}

theorem loc_inv (hn : nodupB ids = true) (hlt : ∀ l ∈ ids, l < st.length) {j : Nat} : invOf ids st.length (locOf ids st.length j) = some j := by
  unfold invOf locOf
  cases e : ids[j]? with
  | some l => rw [if_pos (hlt l (List.mem_of_getElem? e))]; exact posOf_of hn e
  | none =>
    have : ids.length ≤ j := List.getElem?_eq_none_iff.1 e
    rw [if_neg (by simp)]
    simp; omega

theorem inv_loc {l j : Nat} (h : invOf ids st.length l = some j) : locOf ids st.length j = l ∧ (st.length ≤ l → j = l - st.length + ids.length) := by
  unfold invOf at h
  split at h
  · rename_i hl
    have := (posOf_spec l ids 0 j h).2
    rw [Nat.sub_zero] at this
    exact ⟨by simp [locOf, this], fun h => by omega⟩
  · rename_i hl
    cases h
    have : ids[l - st.length + ids.length]? = none := List.getElem?_eq_none (by omega)
    exact ⟨by simp only [locOf, this]; omega, fun _ => rfl⟩

theorem call_back (hst : StoreOk M μ st w) (hn : nodupB ids = true) (hlt : ∀ l ∈ ids, l < st.length) (hk : ids.length ≤ σ'.length)
    (h1 : StoreOk M' μ' σ' w') (h2 : Stp M (newMu ids 0 (getO st) μ) (newSt ids 0 (getO st)) w M' μ' σ' w') (h3 : EvoTo ids.length (newMu ids 0 (getO st) μ) μ') :
    ∃ μ2, StoreOk M' μ2 (applyWr (st ++ List.replicate (σ'.length - ids.length) .gone) (wrOut ids (getO st) st.length σ')) w' ∧
      Stp M μ st w M' μ2 (applyWr (st ++ List.replicate (σ'.length - ids.length) .gone) (wrOut ids (getO st) st.length σ')) w' ∧ EvoAll μ μ2 ∧ RenOk (outRen ids (getO st) st.length σ') μ' μ2 := by
  obtain ⟨s1, s2, s3⟩ := hst.sub ids 0 hn
  have hlen2 : (applyWr (st ++ List.replicate (σ'.length - ids.length) AObj.gone) (wrOut ids (getO st) st.length σ')).length = st.length + (σ'.length - ids.length) := by
    rw [applyWr_length]; simp
  have hloclt : ∀ j, j < σ'.length → locOf ids st.length j < st.length + (σ'.length - ids.length) := fun j hj => by
    unfold locOf
    cases e : ids[j]? with
    | some l => have := hlt l (List.mem_of_getElem? e); show l < _; omega
    | none => have : ids.length ≤ j := List.getElem?_eq_none_iff.1 e; show st.length + (j - ids.length) < _; omega
  have hinvlt : ∀ l j, l < st.length + (σ'.length - ids.length) → invOf ids st.length l = some j → j < σ'.length := fun l j hl h => by
    by_cases hl2 : l < st.length
    · unfold invOf at h
      rw [if_pos hl2] at h
      have := (posOf_spec l ids 0 j h).2
      rw [Nat.sub_zero] at this
      have := (List.getElem?_eq_some_iff.1 this).1
      omega
    · have := (inv_loc (st := st) h).2 (by omega)
      omega
  have hwrget : ∀ j, j < σ'.length → (wrOut ids (getO st) st.length σ')[j]? = some (locOf ids st.length j, renO (outRen ids (getO st) st.length σ') (nwJ ids (getO st) σ' j) (getO σ' j)) := fun j hj => by
    simp [wrOut, hj]
  have hwrinj : ∀ (i j : Nat) (p q : Nat × AObj), (wrOut ids (getO st) st.length σ')[i]? = some p → (wrOut ids (getO st) st.length σ')[j]? = some q → p.1 = q.1 → i = j := fun i j p q e1 e2 e => by
    have hi : i < σ'.length := by have := (List.getElem?_eq_some_iff.1 e1).1; simpa [wrOut] using this
    have hj : j < σ'.length := by have := (List.getElem?_eq_some_iff.1 e2).1; simpa [wrOut] using this
    rw [hwrget i hi] at e1
    rw [hwrget j hj] at e2
    cases e1; cases e2
    have k1 := loc_inv (st := st) hn hlt (j := i)
    have k2 := loc_inv (st := st) hn hlt (j := j)
    simp only at e
    rw [e, k2] at k1
    cases k1; rfl
  -- the caller's objects
  have hst2 : ∀ l, l < st.length + (σ'.length - ids.length) → (applyWr (st ++ List.replicate (σ'.length - ids.length) AObj.gone) (wrOut ids (getO st) st.length σ'))[l]? =
      match invOf ids st.length l with
      | some j => some (renO (outRen ids (getO st) st.length σ') (nwJ ids (getO st) σ' j) (getO σ' j))
      | none => st[l]? := fun l hl => by
    cases e : invOf ids st.length l with
    | some j =>
      have hj := hinvlt l j hl e
      have hlj := (inv_loc (st := st) e).1
      have := hwrget j hj
      rw [hlj] at this
      exact applyWr_at _ _ j l _ hwrinj this (by simp; omega)
    | none =>
      have hl2 : l < st.length := by
        by_cases h : l < st.length
        · exact h
        · unfold invOf at e; rw [if_neg h] at e; cases e
      show _ = st[l]?
      rw [applyWr_miss, List.getElem?_append_left hl2]
      intro p hp e2
      obtain ⟨j, hj⟩ := List.getElem?_of_mem hp
      have hjlt : j < σ'.length := by have := (List.getElem?_eq_some_iff.1 hj).1; simpa [wrOut] using this
      rw [hwrget j hjlt] at hj
      cases hj
      simp only at e2
      have := loc_inv (st := st) hn hlt (j := j)
      rw [e2, e] at this
      cases this
  let bdJ : Nat → Bd := fun j => mvBd (μ'.getD j Bd.zero) (nwJ ids (getO st) σ' j)
  let μ2 : List Bd := (List.range (st.length + (σ'.length - ids.length))).map fun l =>
    match invOf ids st.length l with
    | some j => bdJ j
    | none => μ.getD l Bd.zero
  have hμ2 : ∀ l, l < st.length + (σ'.length - ids.length) → μ2[l]? = some (match invOf ids st.length l with | some j => bdJ j | none => μ.getD l Bd.zero) := fun l hl => by simp [μ2, hl]
  have hμ2lt : ∀ l bd, μ2[l]? = some bd → l < st.length + (σ'.length - ids.length) := fun l bd e => by
    have := (List.getElem?_eq_some_iff.1 e).1
    simpa [μ2] using this
  have hgμ' : ∀ j, j < σ'.length → ∃ bd, μ'[j]? = some bd ∧ μ'.getD j Bd.zero = bd := fun j hj => by
    have : j < μ'.length := by rw [h1.len]; exact hj
    exact ⟨μ'[j], List.getElem?_eq_getElem this, by simp [List.getD_eq_getElem?_getD, List.getElem?_eq_getElem this]⟩
  have hgμ : ∀ l, l < st.length → ∃ bd, μ[l]? = some bd ∧ μ.getD l Bd.zero = bd := fun l hl => by
    have : l < μ.length := by rw [hst.len]; exact hl
    exact ⟨μ[l], List.getElem?_eq_getElem this, by simp [List.getD_eq_getElem?_getD, List.getElem?_eq_getElem this]⟩
  have hnwpos : ∀ j, 0 < (getO σ' j).gen → 0 < nwJ ids (getO st) σ' j := fun j hp => by
    unfold nwJ
    cases e : ids[j]? with
    | none => exact Nat.one_pos
    | some l =>
      simp only [nwOut]
      cases hb : Nat.beq (getO st l).gen 0 with
      | true => exact hp
      | false =>
        have : (getO st l).gen ≠ 0 := fun e => by rw [e] at hb; simp at hb
        simp only [cond_false]; omega
  have hmoved : ∀ (j : Nat) (bd : Bd), μ'[j]? = some bd → bd.moved (mvBd bd (nwJ ids (getO st) σ' j)) (getO σ' j).gen (nwJ ids (getO st) σ' j) := fun j bd e => by
    have g1 := mu_gen h1 e
    unfold mvBd
    split
    · rename_i hz; exact ⟨rfl, rfl, rfl, rfl, fun _ => hz, fun hp => by omega⟩
    · rename_i hz; exact ⟨rfl, rfl, rfl, rfl, fun h => absurd h hz, fun hp => ⟨g1, rfl, hnwpos j (by omega)⟩⟩
  have hρ : RenOk (outRen ids (getO st) st.length σ') μ' μ2 := fun j l c nw bd e1 e2 => by
    simp only [outRen] at e1
    cases hb : Nat.blt j σ'.length with
    | false => rw [hb] at e1; cases e1
    | true =>
      rw [hb] at e1
      cases e1
      have hj : j < σ'.length := Nat.le_of_ble_eq_true hb
      refine ⟨bdJ j, ?_, ?_⟩
      · rw [hμ2 _ (hloclt j hj), loc_inv hn hlt]
      · have : bdJ j = mvBd bd (nwJ ids (getO st) σ' j) := by simp only [bdJ, List.getD_eq_getElem?_getD, e2, Option.getD_some]
        rw [this]
        exact hmoved j bd e2
  have hown : ∀ b, Own (newMu ids 0 (getO st) μ) (newSt ids 0 (getO st)) b → ∃ l, l ∈ ids ∧ ∃ bd, st[l]? = some (getO st l) ∧ (getO st l).here = true ∧ μ[l]? = some bd ∧ bd.b = some b := s3
  have hevo : ∀ (l : Nat) (bd : Bd), μ[l]? = some bd → ∃ bd', μ2[l]? = some bd' ∧ bd.evo bd' := fun l bd e => by
    have hl : l < st.length := by rw [← hst.len]; exact (List.getElem?_eq_some_iff.1 e).1
    rw [hμ2 l (by omega)]
    cases ei : invOf ids st.length l with
    | none => exact ⟨_, rfl, by simp only [List.getD_eq_getElem?_getD, e, Option.getD_some]; exact .refl bd⟩
    | some j =>
      refine ⟨_, rfl, ?_⟩
      show bd.evo (bdJ j)
      have hpos : ids[j]? = some l := by
        unfold invOf at ei
        rw [if_pos hl] at ei
        have := (posOf_spec l ids 0 j ei).2
        rwa [Nat.sub_zero] at this
      have hjk : j < ids.length := (List.getElem?_eq_some_iff.1 hpos).1
      have hin : (newMu ids 0 (getO st) μ)[j]? = some (mvBd bd (nwOf 0 j (getO st l))) := by
        rw [newMu_get, hpos]
        simp [List.getD_eq_getElem?_getD, e]
      obtain ⟨bd', e1, e2⟩ := h3 j _ hjk hin
      have hbdJ : bdJ j = mvBd bd' (nwJ ids (getO st) σ' j) := by simp only [bdJ, List.getD_eq_getElem?_getD, e1, Option.getD_some]
      rw [hbdJ]
      have hnw : nwOf 0 j (getO st l) = 1 := rfl
      rw [hnw] at e2
      have g0 := mu_gen hst e
      have g1 := mu_gen h1 e1
      have hnwj : nwJ ids (getO st) σ' j = nwOut (getO st l) (getO σ' j) := by simp [nwJ, hpos]
      rw [hnwj]
      rcases e2 with e2 | e2 | e2
      · -- it had no place
        refine .inl ?_
        unfold mvBd at e2
        split at e2
        · exact e2
        · simp [Bd.zero] at e2
      · subst e2
        refine .inr (.inl ?_)
        unfold mvBd at g1 ⊢
        by_cases hz : bd.g = 0
        · simp [hz]
        · simp only [hz, if_false] at g1 ⊢
          simp only [Nat.succ_ne_zero, if_false, nwOut, ← g0, ← g1]
          have : Nat.beq bd.g 0 = false := by
            cases hb : Nat.beq bd.g 0 with
            | false => rfl
            | true => exact absurd (Nat.eq_of_beq_eq_true hb) hz
          rw [this]
          simp
      · have hz : bd.g ≠ 0 := fun hz => by simp [mvBd, hz] at e2
        refine .inr (.inr ⟨by omega, ?_⟩)
        have h1g : 1 < bd'.g := by
          have : (mvBd bd 1).g = 1 := by simp [mvBd, hz]
          omega
        unfold mvBd
        rw [if_neg (by omega)]
        simp only [nwOut, ← g0, ← g1]
        have : Nat.beq bd.g 0 = false := by
          cases hb : Nat.beq bd.g 0 with
          | false => rfl
          | true => exact absurd (Nat.eq_of_beq_eq_true hb) hz
        rw [this]
        simp only [cond_false]; omega
  -- blocks of the two sorts
  have hother : ∀ l bd b, l < st.length → invOf ids st.length l = none → (getO st l).here = true → μ[l]? = some bd → bd.b = some b → ¬ Own (newMu ids 0 (getO st) μ) (newSt ids 0 (getO st)) b := fun l bd b hl ei hx e1 e2 ho => by
    obtain ⟨l2, hm, bd2, k1, k2, k3, k4⟩ := hown b ho
    have hne : l ≠ l2 := fun e => by
      subst e
      obtain ⟨j, hj⟩ := List.getElem?_of_mem hm
      unfold invOf at ei
      rw [if_pos hl, posOf_of hn hj] at ei
      cases ei
    exact hst.apart l l2 _ _ bd bd2 b hne (getO_get hst e1) k1 hx k2 e1 k3 e2 k4
  have hnew : ∀ b, Own μ' σ' b → w.heap.size ≤ b ∨ Own (newMu ids 0 (getO st) μ) (newSt ids 0 (getO st)) b := h2.own
  have hcase : ∀ l o bd, (applyWr (st ++ List.replicate (σ'.length - ids.length) AObj.gone) (wrOut ids (getO st) st.length σ'))[l]? = some o → μ2[l]? = some bd →
      (∃ j bd', j < σ'.length ∧ invOf ids st.length l = some j ∧ o = renO (outRen ids (getO st) st.length σ') (nwJ ids (getO st) σ' j) (getO σ' j) ∧ μ'[j]? = some bd' ∧ σ'[j]? = some (getO σ' j) ∧ bd = mvBd bd' (nwJ ids (getO st) σ' j)) ∨
      (l < st.length ∧ invOf ids st.length l = none ∧ st[l]? = some o ∧ o = getO st l ∧ μ[l]? = some bd) := fun l o bd e1 e2 => by
    have hl := hμ2lt l bd e2
    rw [hst2 l hl] at e1
    rw [hμ2 l hl] at e2
    cases ei : invOf ids st.length l with
    | some j =>
      rw [ei] at e1 e2
      cases e1; cases e2
      have hj := hinvlt l j hl ei
      obtain ⟨bd', k1, k2⟩ := hgμ' j hj
      exact .inl ⟨j, bd', hj, rfl, rfl, k1, getO_get h1 k1, by simp only [bdJ, k2]⟩
    | none =>
      rw [ei] at e1 e2
      simp only [Option.some.injEq] at e2
      have hl2 : l < st.length := (List.getElem?_eq_some_iff.1 e1).1
      obtain ⟨bd', k1, k2⟩ := hgμ l hl2
      have hg := getO_get hst k1
      have e1' : st[l]? = some o := e1
      have hgo : o = getO st l := by rw [hg] at e1'; exact (Option.some.inj e1').symm
      exact .inr ⟨hl2, rfl, e1', hgo, by rw [← e2, k2]; exact k1⟩
  refine ⟨μ2, ⟨by rw [hlen2]; simp [μ2], fun l o bd e1 e2 => ?_, fun l o bd e1 e2 hx => ?_, fun i j x y p q b hij e1 e2 hx hy e3 e4 hp => ?_, h1.mem⟩, ⟨h2.os, h2.tape, h2.output, h2.size, fun b hb ho => ?_, h2.mono, fun b x v e k => ?_, fun b ho => ?_⟩, hevo, hρ⟩
  · rcases hcase l o bd e1 e2 with ⟨j, bd', hj, _, rfl, k1, k2, rfl⟩ | ⟨hl, ei, k1, rfl, k2⟩
    · exact (h1.rep j _ bd' k2 k1).ren hρ (hmoved j bd' k1)
    · by_cases hx : (getO st l).here = true
      · refine (hst.rep l _ bd k1 k2).mono h2.mono hevo fun b e => ?_
        have hno := hother l bd b hl ei hx k2 e
        have hb := hst.lt k1 hx k2 e
        refine ⟨h2.keep b hb hno, fun x hx => ?_⟩
        cases hm : M' b x with
        | none => rfl
        | some v =>
          rcases h2.new b x v hm hx with h | h
          · omega
          · exact absurd h hno
      · cases hg : getO st l <;> first | trivial | (rw [hg] at hx; exact absurd rfl hx)
  · rcases hcase l o bd e1 e2 with ⟨j, bd', hj, _, rfl, k1, k2, rfl⟩ | ⟨hl, ei, k1, rfl, k2⟩
    · rw [renO_here] at hx
      have := h1.dead j _ bd' k2 k1 hx
      subst this
      simp [mvBd, Bd.zero]
    · exact hst.dead l _ bd k1 k2 hx
  · rcases hcase i x p e1 e3 with ⟨j1, p', hj1, ei1, rfl, k1, k2, rfl⟩ | ⟨hl1, ei1, k1, rfl, k2⟩
    · rw [renO_here] at hx
      rw [mvBd_b] at hp
      rcases hcase j y q e2 e4 with ⟨j2, q', hj2, ei2, rfl, k3, k4, rfl⟩ | ⟨hl2, ei2, k3, rfl, k4⟩
      · rw [renO_here] at hy
        rw [mvBd_b]
        have hne : j1 ≠ j2 := fun e => by
          subst e
          exact hij ((inv_loc (st := st) ei1).1.symm.trans (inv_loc (st := st) ei2).1)
        exact h1.apart j1 j2 _ _ p' q' b hne k2 k4 hx hy k1 k3 hp
      · intro hq
        rcases hnew b ⟨j1, _, p', k2, hx, k1, hp⟩ with h | h
        · have := hst.lt k3 hy k4 hq; omega
        · exact hother j q b hl2 ei2 hy k4 hq h
    · rcases hcase j y q e2 e4 with ⟨j2, q', hj2, ei2, rfl, k3, k4, rfl⟩ | ⟨hl2, ei2, k3, rfl, k4⟩
      · rw [renO_here] at hy
        rw [mvBd_b]
        intro hq
        rcases hnew b ⟨j2, _, q', k4, hy, k3, hq⟩ with h | h
        · have := hst.lt k1 hx k2 hp; omega
        · exact hother i p b hl1 ei1 hx k2 hp h
      · exact hst.apart i j _ _ p q b hij k1 k3 hx hy k2 k4 hp
  · refine h2.keep b hb fun h => ho ?_
    obtain ⟨l, _, bd, k1, k2, k3, k4⟩ := hown b h
    exact ⟨l, _, bd, k1, k2, k3, k4⟩
  · rcases h2.new b x v e k with h | h
    · exact .inl h
    · obtain ⟨l, _, bd, k1, k2, k3, k4⟩ := hown b h
      exact .inr ⟨l, _, bd, k1, k2, k3, k4⟩
  · obtain ⟨l, o, bd, e1, hx, e2, e3⟩ := ho
    rcases hcase l o bd e1 e2 with ⟨j, bd', hj, _, rfl, k1, k2, rfl⟩ | ⟨hl, ei, k1, rfl, k2⟩
    · rw [renO_here] at hx
      rw [mvBd_b] at e3
      rcases hnew b ⟨j, _, bd', k2, hx, k1, e3⟩ with h | h
      · exact .inl h
      · obtain ⟨l, _, bd, k1, k2, k3, k4⟩ := hown b h
        exact .inr ⟨l, _, bd, k1, k2, k3, k4⟩
    · exact .inr ⟨l, _, bd, k1, hx, k2, e3⟩

end
end Go.Ae

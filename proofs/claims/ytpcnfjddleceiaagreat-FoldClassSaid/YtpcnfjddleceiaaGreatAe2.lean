/- The abstract executor, part 2: the steps that forget: what is kept, what is frozen, what is taken for a row. -/
import Derived.Test.YtpcnfjddleceiaaGreatAe1
namespace Go.Ae

def memB (l : Nat) : List Nat → Bool
  | [] => false
  | x :: xs => bif Nat.beq x l then true else memB l xs

def nodupB : List Nat → Bool
  | [] => true
  | x :: xs => bif memB x xs then false else nodupB xs

def posOf (l : Nat) : List Nat → Nat → Option Nat
  | [], _ => none
  | x :: xs, i => bif Nat.beq x l then some i else posOf l xs (i + 1)

def eqL : List Nat → List Nat → Bool
  | [], [] => true
  | x :: xs, y :: ys => bif Nat.beq x y then eqL xs ys else false
  | _, _ => false

theorem memB_iff {l : Nat} : ∀ {xs : List Nat}, memB l xs = true ↔ l ∈ xs
  | [] => by simp [memB]
  | x :: xs => by
    simp only [memB, List.mem_cons]
    cases h : Nat.beq x l with
    | true => simp [Nat.eq_of_beq_eq_true h]
    | false =>
      have : x ≠ l := fun e => by subst e; simp at h
      simp only [cond_false, memB_iff]
      exact ⟨.inr, fun h => h.resolve_left (Ne.symm this)⟩

theorem nodupB_spec : ∀ {xs : List Nat}, nodupB xs = true → ∀ (i j l : Nat), xs[i]? = some l → xs[j]? = some l → i = j
  | [], _, i, j, l, h, _ => by simp at h
  | x :: xs, hn, i, j, l, h1, h2 => by
    simp only [nodupB] at hn
    cases hm : memB x xs with
    | true => simp [hm] at hn
    | false =>
      simp only [hm, cond_false] at hn
      have hx : x ∉ xs := fun h => by simp [memB_iff.2 h] at hm
      cases i with
      | zero =>
        simp at h1; subst h1
        cases j with
        | zero => rfl
        | succ j => exact absurd (List.mem_of_getElem? (by simpa using h2)) hx
      | succ i =>
        cases j with
        | zero => simp at h2; subst h2; exact absurd (List.mem_of_getElem? (by simpa using h1)) hx
        | succ j => rw [nodupB_spec hn i j l (by simpa using h1) (by simpa using h2)]

theorem posOf_spec (l : Nat) : ∀ (xs : List Nat) (k i : Nat), posOf l xs k = some i → k ≤ i ∧ xs[i - k]? = some l
  | [], k, i, h => by simp [posOf] at h
  | x :: xs, k, i, h => by
    simp only [posOf] at h
    cases hb : Nat.beq x l with
    | true =>
      simp only [hb, cond_true, Option.some.injEq] at h
      subst h
      simp [Nat.eq_of_beq_eq_true hb]
    | false =>
      simp only [hb, cond_false] at h
      obtain ⟨h1, h2⟩ := posOf_spec l xs (k + 1) i h
      refine ⟨by omega, ?_⟩
      rw [show i - k = (i - (k + 1)) + 1 by omega]
      simpa using h2

theorem eqL_spec : ∀ {xs ys : List Nat}, eqL xs ys = true → xs = ys
  | [], [], _ => rfl
  | x :: xs, y :: ys, h => by
    simp only [eqL] at h
    cases hb : Nat.beq x y with
    | true => simp only [hb, cond_true] at h; rw [Nat.eq_of_beq_eq_true hb, eqL_spec h]
    | false => simp [hb] at h
  | [], _ :: _, h => by simp [eqL] at h
  | _ :: _, [], h => by simp [eqL] at h

/-! ### which objects are named -/
def idsV : Nat → AV → List Nat
  | 0, _ => []
  | n + 1, a => match a with
    | .lp l _ => [l]
    | .le l _ _ _ => [l]
    | .la l _ => [l]
    | .mp l => [l]
    | .fn _ caps => caps.flatMap (idsV n)
    | .ifc _ x => idsV n x
    | .agg cs => cs.flatMap (idsV n)
    | .tup cs => cs.flatMap (idsV n)
    | _ => []

def idsO : AObj → List Nat
  | .cells cs _ => cs.flatMap (idsV 6)
  | _ => []

def getO (st : List AObj) (l : Nat) : AObj := st.getD l .gone

def reach (look : Nat → AObj) : Nat → List Nat → List Nat → List Nat
  | 0, acc, _ => acc
  | _ + 1, acc, [] => acc
  | n + 1, acc, l :: todo => bif memB l acc then reach look n acc todo else reach look n (acc ++ [l]) (idsO (look l) ++ todo)

/-- The new generation of an object: those that came in (the first m) keep theirs. -/
def nwOf (m i : Nat) (o : AObj) : Nat := bif Nat.blt i m then o.gen else 1

def renOf (ids : List Nat) (m : Nat) (look : Nat → AObj) : Ren := fun l =>
  match posOf l ids 0 with
  | some i => some (i, (look l).gen, nwOf m i (look l))
  | none => none

def newSt (ids : List Nat) (m : Nat) (look : Nat → AObj) : List AObj :=
  ids.zipIdx.map fun p => renO (renOf ids m look) (nwOf m p.2 (look p.1)) (look p.1)

def mvBd (bd : Bd) (nw : Nat) : Bd := if bd.g = 0 then bd else { bd with g := nw }

theorem mvBd_b (bd : Bd) (nw : Nat) : (mvBd bd nw).b = bd.b := by unfold mvBd; split <;> rfl

def newMu (ids : List Nat) (m : Nat) (look : Nat → AObj) (μ : List Bd) : List Bd := ids.zipIdx.map fun p => mvBd (μ.getD p.1 Bd.zero) (nwOf m p.2 (look p.1))

theorem newMu_get (ids : List Nat) (m : Nat) (look : Nat → AObj) (μ : List Bd) (i : Nat) : (newMu ids m look μ)[i]? = (ids[i]?).map fun l => mvBd (μ.getD l Bd.zero) (nwOf m i (look l)) := by
  simp only [newMu, List.getElem?_map, List.getElem?_zipIdx, Option.map_map, Nat.zero_add]
  rfl

theorem newSt_get (ids : List Nat) (m : Nat) (look : Nat → AObj) (i : Nat) : (newSt ids m look)[i]? = (ids[i]?).map fun l => renO (renOf ids m look) (nwOf m i (look l)) (look l) := by
  simp only [newSt, List.getElem?_map, List.getElem?_zipIdx, Option.map_map, Nat.zero_add]
  rfl

theorem getO_get {M : Mem} {μ : List Bd} {σ : List AObj} {w : World} (hst : StoreOk M μ σ w) {l : Nat} {bd : Bd} (e : μ[l]? = some bd) : σ[l]? = some (getO σ l) := by
  have : l < σ.length := by rw [← hst.len]; exact (List.getElem?_eq_some_iff.1 e).1
  simp [getO, List.getD_eq_getElem?_getD, List.getElem?_eq_getElem this]

theorem mu_here {M : Mem} {μ : List Bd} {σ : List AObj} {w : World} (hst : StoreOk M μ σ w) {l : Nat} (hx : (getO σ l).here = true) : ∃ bd, μ[l]? = some bd ∧ μ.getD l Bd.zero = bd := by
  by_cases hl : l < σ.length
  · have : l < μ.length := by rw [hst.len]; exact hl
    exact ⟨μ[l], List.getElem?_eq_getElem this, by simp [List.getD_eq_getElem?_getD, List.getElem?_eq_getElem this]⟩
  · simp [getO, List.getD_eq_getElem?_getD, List.getElem?_eq_none (Nat.le_of_not_lt hl), AObj.here] at hx

theorem mu_gen {M : Mem} {μ : List Bd} {σ : List AObj} {w : World} (hst : StoreOk M μ σ w) {l : Nat} {bd : Bd} (e : μ[l]? = some bd) : bd.g = (getO σ l).gen :=
  ((hst.rep l _ bd (getO_get hst e) e).gen (hst.dead l _ bd (getO_get hst e) e)).1

/-- Some of the objects, under new numbers. -/
theorem StoreOk.sub {M : Mem} {μ : List Bd} {σ : List AObj} {w : World} (hst : StoreOk M μ σ w) (ids : List Nat) (m : Nat) (hn : nodupB ids = true) :
    StoreOk M (newMu ids m (getO σ) μ) (newSt ids m (getO σ)) w ∧ RenOk (renOf ids m (getO σ)) μ (newMu ids m (getO σ) μ) ∧
      (∀ b, Own (newMu ids m (getO σ) μ) (newSt ids m (getO σ)) b → ∃ l, l ∈ ids ∧ ∃ bd, σ[l]? = some (getO σ l) ∧ (getO σ l).here = true ∧ μ[l]? = some bd ∧ bd.b = some b) := by
  have hmv : ∀ (l i : Nat) (bd : Bd), μ[l]? = some bd → bd.moved (mvBd bd (nwOf m i (getO σ l))) (getO σ l).gen (nwOf m i (getO σ l)) := fun l i bd e => by
    have g1 := mu_gen hst e
    unfold mvBd
    split
    · rename_i hz; exact ⟨rfl, rfl, rfl, rfl, fun _ => hz, fun hp => by omega⟩
    · rename_i hz
      refine ⟨rfl, rfl, rfl, rfl, fun h => absurd h hz, fun hp => ⟨g1, rfl, ?_⟩⟩
      unfold nwOf
      cases Nat.blt i m <;> simp
      omega
  have hρ : RenOk (renOf ids m (getO σ)) μ (newMu ids m (getO σ) μ) := fun l l' c nw bd e1 e2 => by
    simp only [renOf] at e1
    split at e1
    · rename_i i hp
      obtain ⟨_, hp⟩ := posOf_spec l ids 0 i hp
      simp only [Option.some.injEq, Prod.mk.injEq] at e1
      obtain ⟨rfl, rfl, rfl⟩ := e1
      refine ⟨mvBd bd (nwOf m i (getO σ l)), ?_, hmv l i bd e2⟩
      rw [newMu_get]
      rw [Nat.sub_zero] at hp
      rw [hp]
      simp [List.getD_eq_getElem?_getD, e2]
    · cases e1
  have hback : ∀ (i : Nat) (o : AObj) (bd : Bd), (newSt ids m (getO σ))[i]? = some o → (newMu ids m (getO σ) μ)[i]? = some bd → ∃ l, ids[i]? = some l ∧
      o = renO (renOf ids m (getO σ)) (nwOf m i (getO σ l)) (getO σ l) ∧ bd = mvBd (μ.getD l Bd.zero) (nwOf m i (getO σ l)) := fun i o bd e1 e2 => by
    rw [newSt_get] at e1
    rw [newMu_get] at e2
    obtain ⟨l, h1, h2⟩ := Option.map_eq_some_iff.1 e1
    rw [h1] at e2
    simp only [Option.map_some, Option.some.injEq] at e2
    exact ⟨l, h1, h2.symm, e2.symm⟩
  refine ⟨⟨by simp [newMu, newSt], fun i o bd e1 e2 => ?_, fun i o bd e1 e2 hx => ?_, fun i j x y p q b hij e1 e2 hx hy e3 e4 hp => ?_, hst.mem⟩, hρ, fun b ⟨i, o, bd, e1, hx, e2, e3⟩ => ?_⟩
  · obtain ⟨l, h1, rfl, rfl⟩ := hback i o bd e1 e2
    by_cases hx : (getO σ l).here = true
    · obtain ⟨bd, k1, k2⟩ := mu_here hst hx
      rw [k2]
      exact (hst.rep l _ bd (getO_get hst k1) k1).ren hρ (hmv l i bd k1)
    · cases hg : getO σ l <;> first | trivial | (rw [hg] at hx; exact absurd rfl hx)
  · obtain ⟨l, h1, rfl, rfl⟩ := hback i o bd e1 e2
    rw [renO_here] at hx
    by_cases hl : l < μ.length
    · have k1 : μ[l]? = some μ[l] := List.getElem?_eq_getElem hl
      have := hst.dead l _ _ (getO_get hst k1) k1 hx
      simp [List.getD_eq_getElem?_getD, k1, this, mvBd, Bd.zero]
    · simp [List.getD_eq_getElem?_getD, List.getElem?_eq_none (Nat.le_of_not_lt hl), mvBd, Bd.zero]
  · obtain ⟨l1, h1, rfl, rfl⟩ := hback i x p e1 e3
    obtain ⟨l2, h2, rfl, rfl⟩ := hback j y q e2 e4
    rw [renO_here] at hx hy
    rw [mvBd_b] at hp ⊢
    obtain ⟨p0, k1, k2⟩ := mu_here hst hx
    obtain ⟨q0, k3, k4⟩ := mu_here hst hy
    rw [k2] at hp
    rw [k4]
    have hne : l1 ≠ l2 := fun e => hij (by subst e; exact nodupB_spec hn i j l1 h1 h2)
    exact hst.apart l1 l2 _ _ p0 q0 b hne (getO_get hst k1) (getO_get hst k3) hx hy k1 k3 hp
  · obtain ⟨l, h1, rfl, rfl⟩ := hback i o bd e1 e2
    rw [renO_here] at hx
    rw [mvBd_b] at e3
    obtain ⟨p0, k1, k2⟩ := mu_here hst hx
    rw [k2] at e3
    exact ⟨l, List.mem_of_getElem? h1, p0, getO_get hst k1, hx, k1, e3⟩

/-- Only the temporaries 'ts' and what they name is kept, objects numbered anew behind the first m. -/
def keepIds (m : Nat) (ts : List (Nat × List (Option Nat))) (s : ASt) : List Nat :=
  reach (getO s.st) 1000 (List.range m) ((List.range m).flatMap (fun l => idsO (getO s.st l)) ++ ts.flatMap fun t => idsV 6 (s.tm t.1))

def keepW (m : Nat) (ts : List (Nat × List (Option Nat))) (s : ASt) : Option ASt :=
  let ids := keepIds m ts s
  bif nodupB ids && eqL (ids.take m) (List.range m) && Nat.ble m s.st.length then
    some { tm := lookT (ts.map fun t => (t.1, tidyV t.2 (renV (renOf ids m (getO s.st)) 6 (s.tm t.1)))), st := newSt ids m (getO s.st) }
  else none

theorem lookT_rep {M : Mem} {μ : List Bd} {a : Act} : ∀ (kvs : List (Nat × AV)), (∀ k v, (k, v) ∈ kvs → RepV M μ v (a.tmps.getD k undef)) →
    ∀ t, RepV M μ (lookT kvs t) (a.tmps.getD t undef)
  | [], _, _ => .any
  | (k, v) :: r, h, t => by
    simp only [lookT]
    cases hb : Nat.beq t k with
    | true => rw [Nat.eq_of_beq_eq_true hb]; exact h k v (by simp)
    | false => exact lookT_rep r (fun k v hm => h k v (by simp [hm])) t

theorem keepW_weak {N m : Nat} {ts : List (Nat × List (Option Nat))} {s s2 : ASt} (h : keepW m ts s = some s2) : Weak N m s s2 := by
  intro M μ a w hr
  simp only [keepW] at h
  generalize keepIds m ts s = ids at h
  cases hc : (nodupB ids && eqL (ids.take m) (List.range m) && Nat.ble m s.st.length) with
  | false => simp [hc] at h
  | true =>
    simp only [hc, cond_true, Option.some.injEq] at h
    subst h
    simp only [Bool.and_eq_true] at hc
    obtain ⟨⟨hn, he⟩, hml⟩ := hc
    have hh := eqL_spec he
    obtain ⟨hsize, hdef, htm, hst⟩ := hr
    obtain ⟨h1, h2, h3⟩ := hst.sub ids m hn
    refine ⟨M, newMu ids m (getO s.st) μ, ⟨hsize, hdef, ?_, h1⟩, ⟨rfl, rfl, rfl, Nat.le_refl _, fun _ _ _ => rfl, .refl M, fun b o v h k => by simp [h] at k, fun b ho => .inr ?_⟩, fun l bd hl e => ?_⟩
    · refine lookT_rep _ fun k v hm => ?_
      obtain ⟨t, _, ht⟩ := List.mem_map.1 hm
      simp only [Prod.mk.injEq] at ht
      obtain ⟨rfl, rfl⟩ := ht
      exact ((htm t.1).ren h2 6).tidy _
    · obtain ⟨l, _, bd, k1, k2, k3, k4⟩ := h3 b ho
      exact ⟨l, _, bd, k1, k2, k3, k4⟩
    · have hid : ids[l]? = some l := by
        have : (ids.take m)[l]? = some l := by rw [hh]; simp [hl]
        rwa [List.getElem?_take, if_pos hl] at this
      refine ⟨bd, ?_, .refl bd⟩
      rw [newMu_get, hid]
      have g1 := mu_gen hst e
      simp only [Option.map_some, Option.some.injEq, List.getD_eq_getElem?_getD, e, Option.getD_some]
      unfold mvBd nwOf
      split
      · rfl
      · rw [show Nat.blt l m = true from Nat.ble_eq_true_of_le hl]
        simp only [cond_true, ← g1]

/-! ### freezing -/
/-- What names the object l is turned into what it holds. -/
def frzV (l : Nat) (o : AObj) : Nat → AV → AV
  | 0, _ => .any
  | n + 1, a => match a with
    | .lp l' off => bif Nat.beq l' l then (match o with
      | .cells cs _ => .ip cs off
      | _ => .any) else .lp l' off
    | .la l' g => bif Nat.beq l' l then (match o with
      | .arr c sz rows => bif Nat.beq g c then .sl sz rows false else .any
      | _ => .any) else .la l' g
    | .le l' g i off => bif Nat.beq l' l then .any else .le l' g i off
    | .mp l' => bif Nat.beq l' l then .any else .mp l'
    | .fn f caps => .fn f (caps.map (frzV l o n))
    | .ifc t x => .ifc t (frzV l o n x)
    | .agg cs => .agg (cs.map (frzV l o n))
    | .tup cs => .tup (cs.map (frzV l o n))
    | .any => .any
    | .sc v => .sc v
    | .nil => .nil
    | .sl s xs f => .sl s xs f
    | .ip cs o => .ip cs o

def frzO (l : Nat) (o : AObj) : AObj → AObj
  | .cells cs ro => .cells (cs.map (frzV l o 6)) ro
  | x => x

theorem frzO_here (l : Nat) (o x : AObj) : (frzO l o x).here = x.here := by cases x <;> rfl

def frzB : AObj → Bool
  | .cells cs _ => cs.all (dataB 6)
  | .arr .. => true
  | _ => false

def frzW (m l : Nat) (s : ASt) : Option ASt :=
  bif Nat.ble m l && Nat.blt l s.st.length && frzB (getO s.st l) then
    some { tm := fun t => frzV l (getO s.st l) 6 (s.tm t), st := (s.st.set l .gone).map (frzO l (getO s.st l)) }
  else none

theorem RepV.frz {M M2 : Mem} {μ μ2 : List Bd} {l : Nat} {o : AObj} (hM : M.le M2) (hμ : ∀ i bd, i ≠ l → μ[i]? = some bd → μ2[i]? = some bd)
    (hlp : ∀ off v, RepV M μ (.lp l off) v → ∀ cs ro, o = .cells cs ro → RepV M2 [] (.ip cs off) v)
    (hla : ∀ g v, RepV M μ (.la l g) v → ∀ sz rows, o = .arr g sz rows → RepV M2 [] (.sl sz rows false) v)
    {a : AV} {v : Value} (h : RepV M μ a v) : ∀ n, RepV M2 μ2 (frzV l o n a) v := by
  induction h with
  | any => intro n; cases n <;> exact .any
  | sc => intro n; cases n <;> first | exact .sc | exact .any
  | nil => intro n; cases n <;> first | exact .nil | exact .any
  | sl0 => intro n; cases n <;> first | exact .sl0 | exact .any
  | sl0f => intro n; cases n <;> first | exact .sl0f | exact .any
  | sl f hne hc hf hz hm hr _ =>
    intro n
    cases n with
    | zero => exact .any
    | succ n => exact .sl f hne hc hf hz (fun i row j a h1 h2 => hM _ _ _ (hm i row j a h1 h2)) (fun i row j a h1 h2 => (hr i row j a h1 h2).mono hM (EvoAll.refl _))
  | ip f hm hr _ =>
    intro n
    cases n with
    | zero => exact .any
    | succ n => exact .ip f (fun j a h => hM _ _ _ (hm j a h)) (fun j a h => (hr j a h).mono hM (EvoAll.refl _))
  | @lp μ l' off b h =>
    intro n
    cases n with
    | zero => exact .any
    | succ n =>
      simp only [frzV]
      cases hb : Nat.beq l' l with
      | true =>
        have := Nat.eq_of_beq_eq_true hb
        subst this
        simp only [cond_true]
        split
        · exact (hlp off _ (.lp h) _ _ rfl).data
        · exact .any
      | false => exact .lp (hμ _ _ (fun e => by simp [e] at hb) h)
  | @mp μ l' b h =>
    intro n
    cases n with
    | zero => exact .any
    | succ n =>
      simp only [frzV]
      cases hb : Nat.beq l' l with
      | true => exact .any
      | false => exact .mp (hμ _ _ (fun e => by simp [e] at hb) h)
  | @le μ l' g i off v bd h hg hl hv h1c =>
    intro n
    cases n with
    | zero => exact .any
    | succ n =>
      simp only [frzV]
      cases hb : Nat.beq l' l with
      | true => exact .any
      | false => exact .le (hμ _ _ (fun e => by simp [e] at hb) h) hg hl hv h1c
  | @la μ l' g v bd h hg hl hv h1c =>
    intro n
    cases n with
    | zero => exact .any
    | succ n =>
      simp only [frzV]
      cases hb : Nat.beq l' l with
      | true =>
        have := Nat.eq_of_beq_eq_true hb
        subst this
        simp only [cond_true]
        split
        · rename_i c sz rows
          cases hc : Nat.beq g c with
          | false => exact .any
          | true =>
            have := Nat.eq_of_beq_eq_true hc
            subst this
            exact (hla _ _ (.la h hg hl hv h1c) _ _ rfl).data
        · exact .any
      | false => exact .la (hμ _ _ (fun e => by simp [e] at hb) h) hg hl hv h1c
  | fn hl hr ih =>
    intro n
    cases n with
    | zero => exact .any
    | succ n =>
      refine .fn (by simpa using hl) fun j a u h1 h2 => ?_
      rw [List.getElem?_map] at h1
      obtain ⟨a0, e0, rfl⟩ := Option.map_eq_some_iff.1 h1
      exact ih j a0 u e0 h2 hμ hlp hla n
  | ifc h ih =>
    intro n
    cases n with
    | zero => exact .any
    | succ n => exact .ifc (ih hμ hlp hla n)
  | agg hl hr ih =>
    intro n
    cases n with
    | zero => exact .any
    | succ n =>
      refine .agg (by simpa using hl) (fun j a u e1 e2 => ?_)
      rw [List.getElem?_map] at e1
      obtain ⟨a0, e0, rfl⟩ := Option.map_eq_some_iff.1 e1
      exact ih j a0 u e0 e2 hμ hlp hla n
  | tup hl hr ih =>
    intro n
    cases n with
    | zero => exact .any
    | succ n =>
      refine .tup (by simpa using hl) fun j a u e1 e2 => ?_
      rw [List.getElem?_map] at e1
      obtain ⟨a0, e0, rfl⟩ := Option.map_eq_some_iff.1 e1
      exact ih j a0 u e0 e2 hμ hlp hla n

theorem cell_of_heap {w : World} {b x : Nat} {c : Array Value} {t : TypeId} {fr : Nat × Nat} (h : w.heap[b]? = some (.cells c t fr)) : w.cell? ⟨b, x, none⟩ = c[x]? := by
  simp [World.cell?, h]

/-- An object's block, taken for cells that never change. -/
theorem filter_some {o : Option Value} {v : Value} : o.filter (·.oneCell') = some v ↔ o = some v ∧ v.oneCell' = true := by
  cases o with
  | none => simp
  | some u =>
    simp only [Option.filter_some, Option.some.injEq]
    cases h : u.oneCell' with
    | false => simp only [Bool.false_eq_true, ↓reduceIte, reduceCtorEq, false_iff, not_and]; rintro rfl; simp [h]
    | true => simp only [↓reduceIte, Option.some.injEq]; exact ⟨fun e => by subst e; exact ⟨rfl, h⟩, fun e => e.1⟩

theorem frz_mem {M : Mem} {μ : List Bd} {w : World} {l : Nat} {o : AObj} {bd : Bd} (hm : ∀ b x v, M b x = some v → w.cell? ⟨b, x, none⟩ = some v ∧ v.oneCell' = true)
    (hμ : μ[l]? = some bd) (hr : RepO M μ w o bd) (hb : frzB o = true) : ∃ M2 : Mem, M.le M2 ∧
      (∀ b x v, M2 b x = some v → M b x = none → bd.b = some b) ∧ (∀ b x v, M2 b x = some v → w.cell? ⟨b, x, none⟩ = some v ∧ v.oneCell' = true) ∧
      (∀ off v, RepV M μ (.lp l off) v → ∀ cs ro, o = .cells cs ro → RepV M2 [] (.ip cs off) v) ∧
      (∀ g v, RepV M μ (.la l g) v → ∀ sz rows, o = .arr g sz rows → RepV M2 [] (.sl sz rows false) v) := by
  have step : ∀ (b : Nat) (c : Array Value) (t : TypeId), bd.b = some b → w.heap[b]? = some (.cells c t (0, 0)) →
      M.le (fun b' x => if b' = b then (c[x]?).filter (·.oneCell') else M b' x) ∧ (∀ b' x v, (if b' = b then (c[x]?).filter (·.oneCell') else M b' x) = some v → M b' x = none → bd.b = some b') ∧
      (∀ b' x v, (if b' = b then (c[x]?).filter (·.oneCell') else M b' x) = some v → w.cell? ⟨b', x, none⟩ = some v ∧ v.oneCell' = true) := fun b c t e1 e2 => by
    refine ⟨fun b' x v hv => ?_, fun b' x v hv hn => ?_, fun b' x v hv => ?_⟩
    · have hv' := hm b' x v hv
      show (if b' = b then (c[x]?).filter (·.oneCell') else M b' x) = some v
      split
      · rename_i e; subst e; rw [cell_of_heap e2] at hv'; exact filter_some.2 hv'
      · exact hv
    · split at hv
      · rename_i e; rw [e]; exact e1
      · rw [hn] at hv; cases hv
    · split at hv
      · rename_i e; subst e; rw [cell_of_heap e2]; exact filter_some.1 hv
      · exact hm b' x v hv
  cases o with
  | gone => simp [frzB] at hb
  | map es => simp [frzB] at hb
  | cells cs ro =>
    obtain ⟨b, c, t, rfl, h2, h3, h4, h5⟩ := hr
    obtain ⟨s1, s2, s3⟩ := step b c t rfl h2
    refine ⟨_, s1, s2, s3, fun off v hv cs' ro' e => ?_, (fun g v _ sz rows e => by cases e)⟩
    cases e
    cases hv with
    | lp e =>
      rw [hμ] at e
      cases e
      have hd : ∀ (j : Nat) (a : AV), cs[j]? = some a → ∃ v, c[j]? = some v ∧ v.oneCell' = true ∧ RepV M [] a v := fun j a e => by
        obtain ⟨v, e1, e0, e2⟩ := h4 j a e
        simp only [frzB, List.all_eq_true] at hb
        exact ⟨v, e1, e0, e2.ofData 6 (hb a (List.mem_of_getElem? e))⟩
      have := RepV.ip (M := fun b' x => if b' = b then (c[x]?).filter (·.oneCell') else M b' x) (μ := []) (cs := cs) (off := off) (b := b) (o := 0) (fun j => (c[j]?).getD undef)
        (fun j a e => by obtain ⟨v, e1, e0, _⟩ := hd j a e; simp only [if_true, Nat.zero_add, e1, Option.getD_some]; exact filter_some.2 ⟨rfl, e0⟩) (fun j a e => by obtain ⟨v, e1, _, e2⟩ := hd j a e; simp only [e1, Option.getD_some]; exact e2.mono s1 (EvoAll.refl _))
      simpa using this
  | arr g sz rows =>
    obtain ⟨h1, h2, h3, h4, h5⟩ := hr
    cases hbb : bd.b with
    | none =>
      rw [hbb] at h5
      obtain ⟨rfl, h6⟩ := h5
      refine ⟨M, .refl M, fun b x v e k => by simp [e] at k, hm, (fun off v _ cs' ro' e => by cases e), fun g' v hv sz' rows' e => ?_⟩
      cases e
      cases hv with
      | la e hg hl hv _ =>
        rw [hμ] at e
        cases e
        have := hv h2
        unfold LaOk at this
        rw [hbb] at this
        obtain ⟨A, rfl⟩ := this
        exact .sl0
    | some b =>
      rw [hbb] at h5
      obtain ⟨c, t, k1, k2, k3, k4, k5, k6⟩ := h5
      obtain ⟨s1, s2, s3⟩ := step b c t hbb k1
      refine ⟨_, s1, (fun b' x v k1 k2 => by rw [← hbb]; exact s2 b' x v k1 k2), s3, (fun off v _ cs' ro' e => by cases e), fun g' v hv sz' rows' e => ?_⟩
      cases e
      cases hv with
      | la e hg hl hv _ =>
        rw [hμ] at e
        cases e
        have := hv h2
        unfold LaOk at this
        rw [hbb] at this
        subst this
        rw [h4]
        by_cases hne : rows = []
        · subst hne; exact .sl0
        · refine .sl (b := b) (o := 0) (fun i j => (c[i * sz + j]?).getD undef) hne k3 (by simp) k4 (fun i row j a e1 e2 => ?_) (fun i row j a e1 e2 => ?_)
          · obtain ⟨v, e3, e0, _⟩ := k5 i row j a e1 e2
            simp only [if_true, Nat.zero_add, e3, Option.getD_some]
            exact filter_some.2 ⟨rfl, e0⟩
          · obtain ⟨v, e3, _, e4⟩ := k5 i row j a e1 e2
            simp only [e3, Option.getD_some]
            exact e4.mono s1 (EvoAll.refl _)

theorem frzO_gen (l : Nat) (o x : AObj) : (frzO l o x).gen = x.gen := by cases x <;> rfl

theorem frzW_weak {N m l : Nat} {s s2 : ASt} (h : frzW m l s = some s2) : Weak N m s s2 := by
  intro M μ a w hr
  simp only [frzW] at h
  cases hc : (Nat.ble m l && Nat.blt l s.st.length && frzB (getO s.st l)) with
  | false => simp [hc] at h
  | true =>
    simp only [hc, cond_true, Option.some.injEq] at h
    subst h
    simp only [Bool.and_eq_true] at hc
    obtain ⟨⟨hml, hl⟩, hb⟩ := hc
    have hml : m ≤ l := Nat.le_of_ble_eq_true hml
    have hl : l < s.st.length := Nat.le_of_ble_eq_true hl
    obtain ⟨hsize, hdef, htm, hst⟩ := hr
    have hlμ : l < μ.length := by rw [hst.len]; exact hl
    have e1 : s.st[l]? = some (getO s.st l) := by simp [getO, List.getD_eq_getElem?_getD, List.getElem?_eq_getElem hl]
    have e2 : μ[l]? = some μ[l] := List.getElem?_eq_getElem hlμ
    generalize hbd : μ[l] = bd at e2
    generalize ho : getO s.st l = o at *
    have hro := hst.rep l o bd e1 e2
    have hhere : o.here = true := by cases o <;> first | rfl | simp [frzB] at hb
    obtain ⟨M2, f1, f2, f3, f4, f5⟩ := frz_mem hst.mem e2 hro hb
    have hμ2 : ∀ (i : Nat) (p : Bd), i ≠ l → μ[i]? = some p → (μ.set l Bd.zero)[i]? = some p := fun i p hi e => by rw [List.getElem?_set_ne (Ne.symm hi)]; exact e
    have key : ∀ {a v}, RepV M μ a v → ∀ n, RepV M2 (μ.set l Bd.zero) (frzV l o n a) v := fun hv => hv.frz f1 hμ2 f4 f5
    have hback : ∀ (i : Nat) (x : AObj) (p : Bd), ((s.st.set l .gone).map (frzO l o))[i]? = some x → (μ.set l Bd.zero)[i]? = some p →
        (i = l ∧ x = .gone ∧ p = Bd.zero) ∨ (i ≠ l ∧ ∃ y, s.st[i]? = some y ∧ x = frzO l o y ∧ μ[i]? = some p) := fun i x p g1 g2 => by
      rw [List.getElem?_map] at g1
      obtain ⟨y, g3, rfl⟩ := Option.map_eq_some_iff.1 g1
      by_cases hi : i = l
      · subst hi
        rw [List.getElem?_set_self hl] at g3
        rw [List.getElem?_set_self hlμ] at g2
        cases g3; cases g2
        exact .inl ⟨rfl, rfl, rfl⟩
      · rw [List.getElem?_set_ne (Ne.symm hi)] at g3 g2
        exact .inr ⟨hi, y, g3, rfl, g2⟩
    refine ⟨M2, μ.set l Bd.zero, ⟨hsize, hdef, fun t => key (htm t) 6, ?_⟩, ?_, ?_⟩
    · refine ⟨by simp [hst.len], fun i x p g1 g2 => ?_, fun i x p g1 g2 hx => ?_, fun i j x y p q b hij g1 g2 hx hy g3 g4 hp => ?_, f3⟩
      · rcases hback i x p g1 g2 with ⟨_, rfl, rfl⟩ | ⟨hi, y, g3, rfl, g4⟩
        · trivial
        · have hry := hst.rep i y p g3 g4
          have hnew : ∀ b, p.b = some b → y.here = true → ∀ z, M b z = none → M2 b z = none := fun b e hy z hz => by
            cases hm2 : M2 b z with
            | none => rfl
            | some v => exact absurd (f2 b z v hm2 hz) (hst.apart i l y o p bd b hi g3 e1 hy hhere g4 e2 e)
          cases y with
          | gone => trivial
          | cells cs ro =>
            obtain ⟨b, c, t, rfl, h2, h3, h4, h5⟩ := hry
            refine ⟨b, c, t, rfl, h2, by simpa using h3, fun j a e => ?_, fun z hz => hnew b rfl rfl z (h5 z hz)⟩
            rw [List.getElem?_map] at e
            obtain ⟨a0, e0, rfl⟩ := Option.map_eq_some_iff.1 e
            obtain ⟨v, k1, k0, k2⟩ := h4 j a0 e0
            exact ⟨v, k1, k0, key k2 6⟩
          | arr g sz rows =>
            obtain ⟨h1, h2, h3, h4, h5⟩ := hry
            refine ⟨h1, h2, h3, h4, ?_⟩
            split
            · rename_i e; rw [e] at h5; exact h5
            · rename_i b e
              rw [e] at h5
              obtain ⟨c, t, k1, k2, k3, k4, k5, k6⟩ := h5
              refine ⟨c, t, k1, k2, k3, k4, fun i' row j a z1 z2 => ?_, fun z => hnew b e rfl z (k6 z)⟩
              obtain ⟨v, z3, z0, z4⟩ := k5 i' row j a z1 z2
              exact ⟨v, z3, z0, z4.mono f1 (EvoAll.refl _)⟩
          | map es =>
            obtain ⟨b, ms, k, rfl, h2, h3, h4, h5⟩ := hry
            refine ⟨b, ms, k, rfl, h2, h3, fun j ky a e => ?_, fun z => hnew b rfl rfl z (h5 z)⟩
            obtain ⟨x, z1, z2, z3⟩ := h4 j ky a e
            exact ⟨x, z1, z2, z3.mono f1 (EvoAll.refl _)⟩
      · rcases hback i x p g1 g2 with ⟨_, rfl, rfl⟩ | ⟨hi, y, g3, rfl, g4⟩
        · rfl
        · rw [frzO_here] at hx; exact hst.dead i y p g3 g4 hx
      · rcases hback i x p g1 g3 with ⟨_, rfl, rfl⟩ | ⟨hi, x0, g5, rfl, g6⟩
        · cases hx
        · rcases hback j y q g2 g4 with ⟨_, rfl, rfl⟩ | ⟨hj, y0, g7, rfl, g8⟩
          · cases hy
          · rw [frzO_here] at hx hy
            exact hst.apart i j x0 y0 p q b hij g5 g7 hx hy g6 g8 hp
    · refine ⟨rfl, rfl, rfl, Nat.le_refl _, fun _ _ _ => rfl, f1, fun b z v e k => .inr ⟨l, o, bd, e1, hhere, e2, f2 b z v e k⟩, fun b ho => .inr ?_⟩
      obtain ⟨i, x, p, g1, hx, g2, g3⟩ := ho
      rcases hback i x p g1 g2 with ⟨_, rfl, rfl⟩ | ⟨hi, y, g4, rfl, g5⟩
      · cases hx
      · rw [frzO_here] at hx; exact ⟨i, y, p, g4, hx, g5, g3⟩
    · intro i p hi e
      exact ⟨p, hμ2 i p (by omega) e, .refl p⟩

/-! ### a slice without elements and without room, taken for a row of the call's own -/
def emptyB : AV → Bool
  | .nil => true
  | .sl _ xs f => match xs with
    | [] => f
    | _ => false
  | _ => false

theorem emptyB_spec {M : Mem} {μ : List Bd} {a : AV} {v : Value} (h : emptyB a = true) (hr : RepV M μ a v) : ∃ A, v = .slice A 0 0 := by
  cases a with
  | nil => cases hr; exact ⟨_, rfl⟩
  | sl s xs f =>
    cases xs with
    | nil =>
      simp only [emptyB] at h
      subst h
      cases hr with
      | sl0f => exact ⟨_, rfl⟩
      | sl f hne => exact absurd rfl hne
    | cons x xs => simp [emptyB] at h
  | _ => simp [emptyB] at h

theorem StoreOk.push {M : Mem} {μ : List Bd} {σ : List AObj} {w : World} (h : StoreOk M μ σ w) (sz : Nat) :
    StoreOk M (μ ++ [⟨none, 1, 0, 0, sz⟩]) (σ ++ [.arr 1 sz []]) w ∧ EvoAll μ (μ ++ [⟨none, 1, 0, 0, sz⟩]) ∧
      Stp M μ σ w M (μ ++ [⟨none, 1, 0, 0, sz⟩]) (σ ++ [.arr 1 sz []]) w := by
  have hE : EvoAll μ (μ ++ [(⟨none, 1, 0, 0, sz⟩ : Bd)]) := fun l bd e => ⟨bd, by
    rw [List.getElem?_append_left (List.getElem?_eq_some_iff.1 e).1]; exact e, .refl bd⟩
  have key : ∀ (i : Nat) (x : AObj) (p : Bd), (σ ++ [AObj.arr 1 sz []])[i]? = some x → (μ ++ [(⟨none, 1, 0, 0, sz⟩ : Bd)])[i]? = some p →
      (σ[i]? = some x ∧ μ[i]? = some p) ∨ (i = σ.length ∧ x = .arr 1 sz [] ∧ p = ⟨none, 1, 0, 0, sz⟩) := fun i x p e1 e2 => by
    by_cases hi : i < σ.length
    · rw [List.getElem?_append_left hi] at e1
      rw [List.getElem?_append_left (by rw [h.len]; exact hi)] at e2
      exact .inl ⟨e1, e2⟩
    · rw [List.getElem?_append_right (by omega)] at e1
      rw [List.getElem?_append_right (by rw [h.len]; omega)] at e2
      have : i - σ.length = 0 := by
        have := (List.getElem?_eq_some_iff.1 e1).1
        simp at this; omega
      rw [this] at e1
      rw [h.len, this] at e2
      simp at e1 e2
      exact .inr ⟨by omega, e1.symm, e2.symm⟩
  refine ⟨⟨by simp [h.len], fun i x p e1 e2 => ?_, fun i x p e1 e2 hx => ?_, fun i j x y p q b hij e1 e2 hx hy e3 e4 hp => ?_, h.mem⟩, hE, ?_⟩
  · rcases key i x p e1 e2 with ⟨k1, k2⟩ | ⟨_, rfl, rfl⟩
    · exact (h.rep i x p k1 k2).mono (.refl M) hE (fun b _ => ⟨rfl, fun _ h => h⟩)
    · exact ⟨by omega, rfl, rfl, rfl, rfl, rfl⟩
  · rcases key i x p e1 e2 with ⟨k1, k2⟩ | ⟨_, rfl, rfl⟩
    · exact h.dead i x p k1 k2 hx
    · cases hx
  · rcases key i x p e1 e3 with ⟨k1, k2⟩ | ⟨_, rfl, rfl⟩
    · rcases key j y q e2 e4 with ⟨k3, k4⟩ | ⟨_, rfl, rfl⟩
      · exact h.apart i j x y p q b hij k1 k3 hx hy k2 k4 hp
      · simp
    · cases hp
  · refine ⟨rfl, rfl, rfl, Nat.le_refl _, fun _ _ _ => rfl, .refl M, fun b o v h k => by simp [h] at k, fun b ho => .inr ?_⟩
    obtain ⟨i, x, p, e1, hx, e2, e3⟩ := ho
    rcases key i x p e1 e2 with ⟨k1, k2⟩ | ⟨_, rfl, rfl⟩
    · exact ⟨i, x, p, k1, hx, k2, e3⟩
    · cases e3

/-- A temporary. -/
def accW (t sz : Nat) (s : ASt) : Option ASt :=
  bif emptyB (s.tm t) then some { tm := putT s.tm t (.la s.st.length 1), st := s.st ++ [.arr 1 sz []] } else none

theorem accW_weak {N m t sz : Nat} {s s2 : ASt} (h : accW t sz s = some s2) : Weak N m s s2 := by
  intro M μ a w hr
  simp only [accW] at h
  cases hc : emptyB (s.tm t) with
  | false => simp [hc] at h
  | true =>
    simp only [hc, cond_true, Option.some.injEq] at h
    subst h
    obtain ⟨hsize, hdef, htm, hst⟩ := hr
    obtain ⟨p1, p2, p3⟩ := hst.push sz
    obtain ⟨A, hA⟩ := emptyB_spec hc (htm t)
    refine ⟨M, _, ⟨hsize, hdef, fun t' => ?_, p1⟩, p3, p2.to m⟩
    simp only [putT]
    cases hb : Nat.beq t' t with
    | true =>
      rw [Nat.eq_of_beq_eq_true hb, hA]
      refine .la (bd := ⟨none, 1, 0, 0, sz⟩) (by rw [← hst.len]; simp) (by omega) (Nat.le_refl _) (fun _ => ⟨A, rfl⟩) rfl
    | false => exact (htm t').mono (.refl M) p2

/-- A cell of an object. -/
def accOW (l p sz : Nat) (s : ASt) : Option ASt :=
  match getO s.st l with
  | .cells cs ro => bif emptyB (cs.getD p .any) then some { tm := s.tm, st := (s.st.set l (.cells (cs.set p (.la s.st.length 1)) ro)) ++ [.arr 1 sz []] } else none
  | _ => none

theorem accOW_weak {N m l p sz : Nat} {s s2 : ASt} (h : accOW l p sz s = some s2) : Weak N m s s2 := by
  intro M μ a w hr
  simp only [accOW] at h
  split at h
  · rename_i cs ro ho
    cases hc : emptyB (cs.getD p .any) with
    | false => rw [hc] at h; cases h
    | true =>
      simp only [hc, cond_true, Option.some.injEq] at h
      subst h
      obtain ⟨hsize, hdef, htm, hst⟩ := hr
      have hl : l < s.st.length := by
        by_cases h : l < s.st.length
        · exact h
        · simp [getO, List.getD_eq_getElem?_getD, List.getElem?_eq_none (Nat.le_of_not_lt h)] at ho
      have e1 : s.st[l]? = some (.cells cs ro) := by rw [← ho]; simp [getO, List.getD_eq_getElem?_getD, List.getElem?_eq_getElem hl]
      have hlμ : l < μ.length := by rw [hst.len]; exact hl
      have e2 : μ[l]? = some μ[l] := List.getElem?_eq_getElem hlμ
      generalize μ[l] = bd at e2
      obtain ⟨p1, p2, p3⟩ := hst.push sz
      have hp : p < cs.length := by
        by_cases h : p < cs.length
        · exact h
        · rw [List.getD_eq_getElem?_getD, List.getElem?_eq_none (Nat.le_of_not_lt h)] at hc; cases hc
      have hro : RepO M (μ ++ [(⟨none, 1, 0, 0, sz⟩ : Bd)]) w (.cells (cs.set p (.la s.st.length 1)) ro) bd := by
        obtain ⟨b, c, t, rfl, h2, h3, h4, h5⟩ := hst.rep l _ bd e1 e2
        refine ⟨b, c, t, rfl, h2, by simpa using h3, fun j a e => ?_, h5⟩
        by_cases hj : j = p
        · subst hj
          rw [List.getElem?_set_self hp] at e
          cases e
          obtain ⟨v, k1, k0, k2⟩ := h4 j _ (List.getElem?_eq_getElem hp)
          rw [List.getD_eq_getElem?_getD, List.getElem?_eq_getElem hp] at hc
          obtain ⟨A, rfl⟩ := emptyB_spec hc k2
          exact ⟨_, k1, k0, .la (bd := ⟨none, 1, 0, 0, sz⟩) (by rw [← hst.len]; simp) (by omega) (Nat.le_refl _) (fun _ => ⟨A, rfl⟩) rfl⟩
        · rw [List.getElem?_set_ne (Ne.symm hj)] at e
          obtain ⟨v, k1, k0, k2⟩ := h4 j a e
          exact ⟨v, k1, k0, k2.mono (.refl M) p2⟩
      have hl' : l < (s.st ++ [AObj.arr 1 sz []]).length := by simp; omega
      have hset : (s.st.set l (.cells (cs.set p (.la s.st.length 1)) ro)) ++ [AObj.arr 1 sz []] = (s.st ++ [AObj.arr 1 sz []]).set l (.cells (cs.set p (.la s.st.length 1)) ro) := by
        rw [List.set_append_left _ _ hl]
      have hback : ∀ (i : Nat) (x : AObj) (q : Bd), ((s.st ++ [AObj.arr 1 sz []]).set l (.cells (cs.set p (.la s.st.length 1)) ro))[i]? = some x →
          (μ ++ [(⟨none, 1, 0, 0, sz⟩ : Bd)])[i]? = some q → ∃ y, (s.st ++ [AObj.arr 1 sz []])[i]? = some y ∧ x.here = y.here ∧ (i ≠ l → x = y) := fun i x q g1 g2 => by
        by_cases hi : i = l
        · subst hi
          rw [List.getElem?_set_self hl'] at g1
          cases g1
          exact ⟨.cells cs ro, by rw [List.getElem?_append_left hl]; exact e1, rfl, fun h => absurd rfl h⟩
        · rw [List.getElem?_set_ne (Ne.symm hi)] at g1
          exact ⟨x, g1, rfl, fun _ => rfl⟩
      simp only [hset]
      refine ⟨M, _, ⟨hsize, hdef, fun t' => (htm t').mono (.refl M) p2, ?_⟩, ?_, p2.to m⟩
      · refine ⟨by simp [hst.len], fun i x q g1 g2 => ?_, fun i x q g1 g2 hx => ?_, fun i j x y q r b hij g1 g2 hx hy g3 g4 hq => ?_, hst.mem⟩
        · by_cases hi : i = l
          · subst hi
            rw [List.getElem?_set_self hl'] at g1
            cases g1
            rw [List.getElem?_append_left hlμ] at g2
            rw [e2] at g2
            cases g2
            exact hro
          · rw [List.getElem?_set_ne (Ne.symm hi)] at g1
            exact p1.rep i x q g1 g2
        · obtain ⟨y, k1, k2, _⟩ := hback i x q g1 g2
          exact p1.dead i y q k1 g2 (k2 ▸ hx)
        · obtain ⟨x0, k1, k2, _⟩ := hback i x q g1 g3
          obtain ⟨y0, k3, k4, _⟩ := hback j y r g2 g4
          exact p1.apart i j x0 y0 q r b hij k1 k3 (k2 ▸ hx) (k4 ▸ hy) g3 g4 hq
      · refine ⟨rfl, rfl, rfl, Nat.le_refl _, fun _ _ _ => rfl, .refl M, fun b o v h k => by simp [h] at k, fun b ho => ?_⟩
        obtain ⟨i, x, q, g1, hx, g2, g3⟩ := ho
        obtain ⟨y, k1, k2, _⟩ := hback i x q g1 g2
        exact p3.own b ⟨i, y, q, k1, k2 ▸ hx, g2, g3⟩
  · cases h

/-! ### a part of an object that is never written again -/
/-- The cell p of the object l, a pointer into the object's cells from lo on, n of them: these are never written again. -/
def roOW (l p lo n : Nat) (s : ASt) : Option ASt :=
  match getO s.st l with
  | .cells cs ro => match cs[p]? with
    | some (.lp l' off) => bif Nat.beq l' l && Nat.ble lo off && Nat.ble (lo + n) cs.length && ((cs.drop lo).take n).all (dataB 6) then
        some { tm := s.tm, st := s.st.set l (.cells (cs.set p (.ip ((cs.drop lo).take n) (off - lo))) ((List.range n).map (lo + ·) ++ ro)) } else none
    | _ => none
  | _ => none

theorem roOW_weak {N m l p lo n : Nat} {s s2 : ASt} (h : roOW l p lo n s = some s2) : Weak N m s s2 := by
  intro M μ a w hr
  unfold roOW at h
  split at h
  · rename_i cs ro ho
    split at h
    · rename_i l' off hp
      cases hc : (Nat.beq l' l && Nat.ble lo off && Nat.ble (lo + n) cs.length && ((cs.drop lo).take n).all (dataB 6)) with
      | false => rw [hc] at h; cases h
      | true =>
        rw [hc] at h
        simp only [cond_true, Option.some.injEq] at h
        subst h
        simp only [Bool.and_eq_true] at hc
        obtain ⟨⟨⟨hl', hlo⟩, hn⟩, hd⟩ := hc
        obtain rfl := Nat.eq_of_beq_eq_true hl'
        have hlo : lo ≤ off := Nat.le_of_ble_eq_true hlo
        have hn : lo + n ≤ cs.length := Nat.le_of_ble_eq_true hn
        obtain ⟨hsize, hdef, htm, hst⟩ := hr
        have hl : l' < s.st.length := by
          apply Classical.byContradiction
          intro hge
          rw [getO, List.getD_eq_getElem?_getD, List.getElem?_eq_none (by omega)] at ho
          cases ho
        have e1 : s.st[l']? = some (.cells cs ro) := by
          rw [← ho]; simp [getO, List.getD_eq_getElem?_getD, List.getElem?_eq_getElem hl]
        have hlμ : l' < μ.length := by rw [hst.len]; exact hl
        have e2 : μ[l']? = some μ[l'] := List.getElem?_eq_getElem hlμ
        have hro := hst.rep l' _ _ e1 e2
        obtain ⟨b, c, t, hb, h2, h3, h4, h5⟩ := hro
        have hown : Own μ s.st b := ⟨l', _, _, e1, rfl, e2, by rw [hb]; rfl⟩
        let M2 : Mem := fun b' x => if b' = b ∧ lo ≤ x ∧ x < lo + n then (c[x]?).filter (·.oneCell') else M b' x
        have hM2 : ∀ b' x, M2 b' x = if b' = b ∧ lo ≤ x ∧ x < lo + n then (c[x]?).filter (·.oneCell') else M b' x := fun _ _ => rfl
        have hle : M.le M2 := fun b' x v hv => by
          rw [hM2]
          split
          · rename_i e
            obtain ⟨rfl, _⟩ := e
            have := hst.mem b' x v hv
            rw [cell_of_heap h2] at this
            exact filter_some.2 this
          · exact hv
        have hmem : ∀ b' x v, M2 b' x = some v → w.cell? ⟨b', x, none⟩ = some v ∧ v.oneCell' = true := fun b' x v hv => by
          rw [hM2] at hv
          split at hv
          · rename_i e
            obtain ⟨rfl, _⟩ := e
            rw [cell_of_heap h2]
            exact filter_some.1 hv
          · exact hst.mem b' x v hv
        have hother : ∀ b' x, b' ≠ b → M2 b' x = M b' x := fun b' x hne => by
          rw [hM2, if_neg (fun e => hne e.1)]
        have hip : ∀ v, RepV M μ (.lp l' off) v → RepV M2 μ (.ip ((cs.drop lo).take n) (off - lo)) v := fun v hv => by
          cases hv with
          | @lp _ _ _ b0 e =>
            rw [e2, hb] at e
            have hbe : b = b0 := by
              have := Option.some.inj e
              simp [Bd.at] at this
              exact this
            subst hbe
            have hcell : ∀ (j : Nat) (a : AV), ((cs.drop lo).take n)[j]? = some a → j < n ∧ ∃ v, c[lo + j]? = some v ∧ v.oneCell' = true ∧ RepV M [] a v := fun j a e => by
              have hmem := List.mem_of_getElem? e
              rw [List.getElem?_take] at e
              split at e
              · rename_i hj
                rw [List.getElem?_drop] at e
                obtain ⟨v, k1, k0, k2⟩ := h4 _ a e
                exact ⟨hj, v, k1, k0, k2.ofData 6 (List.all_eq_true.1 hd a hmem)⟩
              · cases e
            have := RepV.ip (M := M2) (μ := μ) (cs := (cs.drop lo).take n) (off := off - lo) (b := b) (o := lo) (fun j => (c[lo + j]?).getD undef)
              (fun j a e => by
                obtain ⟨hj, v, k1, k0, _⟩ := hcell j a e
                rw [hM2, if_pos ⟨rfl, by omega, by omega⟩, k1]
                exact filter_some.2 ⟨rfl, k0⟩)
              (fun j a e => by
                obtain ⟨hj, v, k1, k0, k2⟩ := hcell j a e
                rw [k1]
                exact k2.mono hle (EvoAll.refl _))
            rw [show lo + (off - lo) = off by omega] at this
            exact this
        have hback : ∀ (i : Nat) (x : AObj), (s.st.set l' (.cells (cs.set p (.ip ((cs.drop lo).take n) (off - lo))) ((List.range n).map (lo + ·) ++ ro)))[i]? = some x → ∃ y, s.st[i]? = some y ∧ x.here = y.here ∧
            (i ≠ l' → x = y) ∧ (i = l' → x = .cells (cs.set p (.ip ((cs.drop lo).take n) (off - lo))) ((List.range n).map (lo + ·) ++ ro)) := fun i x g => by
          by_cases hi : i = l'
          · subst hi
            rw [List.getElem?_set_self hl] at g
            cases g
            exact ⟨_, e1, rfl, fun h => absurd rfl h, fun _ => rfl⟩
          · rw [List.getElem?_set_ne (Ne.symm hi)] at g
            exact ⟨x, g, rfl, fun _ => rfl, fun h => absurd h hi⟩
        refine ⟨M2, μ, ⟨hsize, hdef, fun t => (htm t).mono hle (EvoAll.refl _), ⟨by simpa using hst.len, fun i x q g1 g2 => ?_, fun i x q g1 g2 hx => ?_, fun i j x y q r b' hij g1 g2 hx hy g3 g4 hq => ?_, hmem⟩⟩,
          ⟨rfl, rfl, rfl, Nat.le_refl _, fun _ _ _ => rfl, hle, fun b' o v h k => .inr ?_, fun b' ho => .inr ?_⟩, .refl m μ⟩
        · obtain ⟨y, k1, k2, k3, k4⟩ := hback i x g1
          by_cases hi : i = l'
          · rw [k4 hi]
            subst hi
            rw [e2] at g2
            cases g2
            refine ⟨b, c, t, hb, h2, by simpa using h3, fun j a e => ?_, fun z hz => ?_⟩
            · rw [List.getElem?_set] at e
              split at e
              · rename_i hpj
                subst hpj
                split at e
                · cases e
                  obtain ⟨v, q1, q0, q2⟩ := h4 p _ hp
                  exact ⟨v, q1, q0, hip v q2⟩
                · cases e
              · obtain ⟨v, q1, q0, q2⟩ := h4 j a e
                exact ⟨v, q1, q0, q2.mono hle (EvoAll.refl _)⟩
            · rw [List.mem_append, not_or] at hz
              rw [hM2, if_neg (fun e => hz.1 (by simp only [List.mem_map, List.mem_range]; exact ⟨z - lo, by omega, by omega⟩))]
              exact h5 z hz.2
          · rw [k3 hi]
            refine (hst.rep i y q k1 g2).mono hle (EvoAll.refl _) (fun b' hb' => ⟨rfl, fun z hz => ?_⟩)
            by_cases hy : y.here = true
            · rw [hother b' z (fun e => ?_)]
              · exact hz
              · subst e
                exact hst.apart i l' y _ q _ b' hi k1 e1 hy rfl g2 e2 hb' (by rw [hb]; rfl)
            · have := hst.dead i y q k1 g2 (by simpa using hy)
              rw [this] at hb'
              cases hb'
        · obtain ⟨y, k1, k2, _⟩ := hback i x g1
          exact hst.dead i y q k1 g2 (k2 ▸ hx)
        · obtain ⟨x0, k1, k2, _⟩ := hback i x g1
          obtain ⟨y0, k3, k4, _⟩ := hback j y g2
          exact hst.apart i j x0 y0 q r b' hij k1 k3 (k2 ▸ hx) (k4 ▸ hy) g3 g4 hq
        · rw [hM2] at h
          split at h
          · rename_i e; rw [e.1]; exact hown
          · rw [k] at h; cases h
        · obtain ⟨i, x, q, g1, hx, g2, g3⟩ := ho
          obtain ⟨y, k1, k2, _⟩ := hback i x g1
          exact ⟨i, y, q, k1, k2 ▸ hx, g2, g3⟩
    · cases h
  · cases h

end Go.Ae

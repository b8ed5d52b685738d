/- The abstract executor, part 4: the runs of the model's words. -/
import Derived.Test.YtpcnfjddleceiaaGreatAe3
namespace Go.Ae
section
variable {P : Program} (w : World)

theorem run_typeInfo {t : TypeId} {i : TypeInfo} (h : P.info? t = some i) : (typeInfo t).run P w = .ok i w := by simp [typeInfo, h]
theorem run_sizeOf {t : TypeId} {i : TypeInfo} (h : P.info? t = some i) : (sizeOf t).run P w = .ok i.size w := by simp [sizeOf, run_typeInfo w h]
theorem run_zeroValue {t : TypeId} {i : TypeInfo} {z : Value} (h : P.info? t = some i) (hz : i.zero = some z) : (zeroValue t).run P w = .ok z w := by
  simp [zeroValue, run_typeInfo w h, hz]

/-- Is a variable of this type a row of cells (some true), or one cell (some false)? -/
def aggT (P : Program) (t : TypeId) : Option Bool :=
  match P.underlying t with
  | some (.struct _) => some true
  | some (.array ..) => some true
  | some _ => some false
  | none => none

theorem run_isAgg {t : TypeId} {b : Bool} (h : aggT P t = some b) : (isAgg t).run P w = .ok b w := by
  unfold aggT at h
  cases hu : P.underlying t with
  | none => simp [hu] at h
  | some d => cases d <;> simp_all [isAgg, run_underlying hu]

theorem addr_add (b o n : Nat) : (⟨b, o, none⟩ : Addr).add n = ⟨b, o + n, none⟩ := by
  unfold Addr.add; split <;> simp_all

def szT (P : Program) (t : TypeId) : Option Nat := (P.info? t).map (·.size)

/-- What a load of type t at cell 'off' of these cells gives. -/
def ldA (P : Program) (t : TypeId) (cs : List AV) (off : Nat) : Option AV :=
  match aggT P t, szT P t with
  | some true, some n => bif Nat.beq ((cs.drop off).take n).length n then some (.agg ((cs.drop off).take n)) else none
  | some false, some _ => cs[off]?
  | _, _ => none

theorem run_loadAt {M : Mem} {μ : List Bd} {t : TypeId} {cs : List AV} {off b o : Nat} {r : AV} (h : ldA P t cs off = some r)
    (hc : ∀ (j : Nat) (a : AV), cs[j]? = some a → ∃ v, w.cell? ⟨b, o + j, none⟩ = some v ∧ RepV M μ a v) :
    ∃ v, (Instr.loadAt t (.pointer (some ⟨b, o + off, none⟩))).run P w = .ok v w ∧ RepV M μ r v := by
  unfold ldA at h
  cases ha : aggT P t with
  | none => simp [ha] at h
  | some agg =>
    cases hs : szT P t with
    | none => cases agg <;> simp [ha, hs] at h
    | some n =>
      obtain ⟨i, hi, rfl⟩ := Option.map_eq_some_iff.1 hs
      cases agg with
      | false =>
        simp only [ha, hs] at h
        obtain ⟨v, h1, h2⟩ := hc off r h
        exact ⟨v, by simp [Instr.loadAt, Instr.sureAddr, loadVar, run_isAgg w ha, h1], h2⟩
      | true =>
        simp only [ha, hs] at h
        cases hb : Nat.beq ((cs.drop off).take i.size).length i.size with
        | false => rw [hb] at h; cases h
        | true =>
          rw [hb] at h
          cases h
          have hl := Nat.eq_of_beq_eq_true hb
          have hget : ∀ j, j < i.size → ∃ a, cs[off + j]? = some a ∧ ((cs.drop off).take i.size)[j]? = some a := fun j hj => by
            have : j < ((cs.drop off).take i.size).length := by omega
            refine ⟨_, ?_, List.getElem?_eq_getElem this⟩
            have e := List.getElem?_eq_getElem this
            rw [List.getElem?_take, if_pos hj, List.getElem?_drop] at e
            exact e
          let f : Nat → Value := fun j => (w.cell? ⟨b, o + (off + j), none⟩).getD undef
          have hf : ∀ j, j < i.size → w.cell? ((⟨b, o + off, none⟩ : Addr).add j) = some (f j) := fun j hj => by
            obtain ⟨a, e1, _⟩ := hget j hj
            obtain ⟨v, h1, _⟩ := hc _ a e1
            rw [addr_add, show o + off + j = o + (off + j) by omega, h1]
            simp [f, h1]
          refine ⟨_, by simp [Instr.loadAt, Instr.sureAddr, loadVar, run_isAgg w ha, run_sizeOf w hi, run_loadCells w _ _ f hf]; rfl, ?_⟩
          refine .agg (by rw [hl]; simp) fun j a u e1 e2 => ?_
          have hj : j < i.size := by
            have := (List.getElem?_eq_some_iff.1 e2).1
            simpa using this
          obtain ⟨a', e3, e4⟩ := hget j hj
          rw [e4] at e1
          cases e1
          obtain ⟨v, h1, h2⟩ := hc _ a e3
          rw [List.getElem?_map, List.getElem?_range hj] at e2
          simp only [Option.map_some, Option.some.injEq] at e2
          subst e2
          simp only [f, h1, Option.getD_some]
          exact h2

/-! ### stores -/
/-- The cells with others put over them from 'off' on. -/
def putA (c : Array Value) (off : Nat) : List Value → Array Value
  | [] => c
  | v :: vs => putA (c.setIfInBounds off v) (off + 1) vs

theorem putA_size : ∀ (vs : List Value) (c : Array Value) (off : Nat), (putA c off vs).size = c.size
  | [], _, _ => rfl
  | v :: vs, c, off => by rw [putA, putA_size vs]; simp

theorem putA_get : ∀ (vs : List Value) (c : Array Value) (off j : Nat), off + vs.length ≤ c.size →
    (putA c off vs)[j]? = if off ≤ j ∧ j < off + vs.length then vs[j - off]? else c[j]?
  | [], c, off, j, _ => by rw [putA, if_neg (by simp only [List.length_nil]; omega)]
  | v :: vs, c, off, j, h => by
    simp only [List.length_cons] at h ⊢
    rw [putA, putA_get vs _ _ _ (by simp; omega)]
    by_cases h1 : off + 1 ≤ j ∧ j < off + 1 + vs.length
    · rw [if_pos h1, if_pos (by omega), show j - off = (j - (off + 1)) + 1 by omega]
      simp
    · rw [if_neg h1, Array.getElem?_setIfInBounds]
      by_cases h2 : off = j
      · subst h2
        rw [if_pos rfl, if_pos (by omega), if_pos (by omega)]
        simp
      · rw [if_neg h2, if_neg (by omega)]

theorem setCell_heap_same {b o : Nat} {v : Value} {c : Array Value} {t : TypeId} {fr : Nat × Nat} (h : w.heap[b]? = some (.cells c t fr)) :
    (w.setCell ⟨b, o, none⟩ v).heap[b]? = some (.cells (c.setIfInBounds o v) t fr) := by
  simp [World.setCell, Array.getElem?_modify, h]

theorem setCell_heap_other {b o b' : Nat} {v : Value} (h : b' ≠ b) : (w.setCell ⟨b, o, none⟩ v).heap[b']? = w.heap[b']? := by
  simp only [World.setCell, Array.getElem?_modify]
  rw [if_neg (by omega)]

/-- A world in which one block's cells are others. -/
structure Put (w w' : World) (b : Nat) (c : Array Value) (t : TypeId) : Prop where
  os : w'.os = w.os
  tape : w'.tape = w.tape
  output : w'.output = w.output
  drawn : w'.drawn = w.drawn
  size : w'.heap.size = w.heap.size
  here : w'.heap[b]? = some (.cells c t (0, 0))
  other : ∀ b', b' ≠ b → w'.heap[b']? = w.heap[b']?

theorem run_storeCells (b off : Nat) (t : TypeId) : ∀ (vs : List Value) (k : Nat) (w : World) (c : Array Value), w.heap[b]? = some (.cells c t (0, 0)) → off + k + vs.length ≤ c.size →
    (∀ v ∈ vs, v.oneCell' = true) → ∃ w', (storeCells ⟨b, off, none⟩ vs k).run P w = .ok () w' ∧ Put w w' b (putA c (off + k) vs) t
  | [], k, w, c, h, _, _ => ⟨w, by simp [storeCells], ⟨rfl, rfl, rfl, rfl, rfl, h, fun _ _ => rfl⟩⟩
  | v :: vs, k, w, c, h, hl, hv => by
    simp only [List.length_cons] at hl
    have hcell : w.cell? ⟨b, off + k, none⟩ = some c[off + k] := by
      rw [cell_of_heap h, Array.getElem?_eq_getElem (by omega)]
    have hfr : w.frozen? ⟨b, off + k, none⟩ = false := by simp [World.frozen?, h]
    have h1 : (store ⟨b, off + k, none⟩ v).run P w = .ok () (w.setCell ⟨b, off + k, none⟩ v) := by
      rw [run_store P w _ v _ (hv v (by simp)), hcell]
      simp [hfr]
    have h2 := setCell_heap_same w (o := off + k) (v := v) h
    obtain ⟨w', h3, h4⟩ := run_storeCells b off t vs (k + 1) _ _ h2 (by simp; omega) (fun u hu => hv u (by simp [hu]))
    refine ⟨w', by simp [storeCells, addr_add, h1, h3], ?_⟩
    exact ⟨h4.os, h4.tape, h4.output, h4.drawn, by rw [h4.size]; simp, h4.here, fun b' hb => by rw [h4.other b' hb, setCell_heap_other w hb]⟩

theorem run_storeAt {t : TypeId} {i : TypeInfo} {b off : Nat} {ty : TypeId} {v : Value} {c : Array Value} (hi : P.info? t = some i) (hsz : v.cells.size = i.size)
    (h : w.heap[b]? = some (.cells c ty (0, 0))) (hl : off + v.cells.size ≤ c.size) (hv : ∀ u ∈ v.cells.toList, u.oneCell' = true) :
    ∃ w', (Instr.storeAt t (.pointer (some ⟨b, off, none⟩)) v).run P w = .ok () w' ∧ Put w w' b (putA c off v.cells.toList) ty := by
  obtain ⟨w', h1, h2⟩ := run_storeCells (P := P) b off ty v.cells.toList 0 w c h (by simpa using hl) hv
  exact ⟨w', by simp [Instr.storeAt, Instr.sureAddr, storeVar, run_sizeOf w hi, hsz, h1], by simpa using h2⟩

/-! ### parts put together -/
def putL (cs : List AV) (off : Nat) (vs : List AV) : List AV := cs.take off ++ vs ++ cs.drop (off + vs.length)

theorem putL_length {cs vs : List AV} {off : Nat} (h : off + vs.length ≤ cs.length) : (putL cs off vs).length = cs.length := by
  simp [putL]; omega

theorem putL_get {cs vs : List AV} {off j : Nat} (h : off + vs.length ≤ cs.length) :
    (putL cs off vs)[j]? = if off ≤ j ∧ j < off + vs.length then vs[j - off]? else cs[j]? := by
  unfold putL
  have h1 : (cs.take off).length = off := by simp; omega
  by_cases ha : j < off
  · rw [List.getElem?_append_left (by simp; omega), List.getElem?_append_left (by omega), if_neg (by omega), List.getElem?_take, if_pos ha]
  · by_cases hb : j < off + vs.length
    · rw [List.getElem?_append_left (by simp; omega), List.getElem?_append_right (by omega), if_pos (by omega), h1]
    · rw [List.getElem?_append_right (by simp; omega), if_neg (by omega), List.getElem?_drop]
      congr 1
      simp; omega

theorem RL.put {M : Mem} {μ : List Bd} {cs vs : List AV} {c : Array Value} {us : Array Value} {off : Nat} (h : RL M μ cs c) (k : RL M μ vs us) (hl : off + vs.length ≤ cs.length) :
    RL M μ (putL cs off vs) (putA c off us.toList) := by
  have hu : us.toList.length = vs.length := by simpa using k.1
  refine ⟨by rw [putA_size, putL_length hl]; exact h.1, fun j a e => ?_⟩
  rw [putL_get hl] at e
  rw [putA_get _ _ _ _ (by rw [hu, h.1]; exact hl), hu]
  split at e
  · rename_i hc
    rw [if_pos hc, Array.getElem?_toList]
    exact k.2 _ a e
  · rename_i hc
    rw [if_neg hc]
    exact h.2 j a e

theorem RL.one {M : Mem} {μ : List Bd} {cs : List AV} {c : Array Value} (h : RL M μ cs c) : ∀ u ∈ c.toList, u.oneCell' = true := fun u hu => by
  obtain ⟨j, hj, rfl⟩ := List.getElem_of_mem hu
  have hj' : j < cs.length := by rw [← h.1]; simpa using hj
  obtain ⟨v, e1, e2, _⟩ := h.2 j _ (List.getElem?_eq_getElem hj')
  have : c[j]? = some c.toList[j] := by rw [← Array.getElem?_toList, List.getElem?_eq_getElem hj]
  rw [this] at e1
  cases e1
  exact e2

def fillA (place : Nat → Option (Nat × Nat)) : List AV → List (Nat × AV) → Option (List AV)
  | cs, [] => some cs
  | cs, (i, x) :: rest =>
    match place i, cellsOf x with
    | some (off, size), some vs => bif Nat.beq vs.length size && Nat.ble (off + vs.length) cs.length then fillA place (putL cs off vs) rest else none
    | _, _ => none

theorem foldl_put (us : List Value) : ∀ (c : Array Value) (off k : Nat), (us.zipIdx k).foldl (fun cs (p : Value × Nat) => cs.setIfInBounds (off + p.2) p.1) c = putA c (off + k) us := by
  induction us with
  | nil => intro c off k; rfl
  | cons u us ih => intro c off k; rw [List.zipIdx_cons, List.foldl_cons, ih, putA]; rfl

theorem fill_rep {M : Mem} {μ : List Bd} {place : Nat → Option (Nat × Nat)} : ∀ (ps : List (Nat × AV)) (qs : List (Nat × Value)) (cs cs' : List AV) (c : Array Value),
    fillA place cs ps = some cs' → RL M μ cs c → ps.length = qs.length → (∀ (j : Nat) (p : Nat × AV) (q : Nat × Value), ps[j]? = some p → qs[j]? = some q → p.1 = q.1 ∧ RepV M μ p.2 q.2) →
    ∃ c', Instr.fill place c qs = some c' ∧ RL M μ cs' c'
  | [], [], cs, cs', c, h, hc, _, _ => by simp only [fillA, Option.some.injEq] at h; subst h; exact ⟨c, rfl, hc⟩
  | [], _ :: _, _, _, _, _, _, hl, _ => by simp at hl
  | _ :: _, [], _, _, _, _, _, hl, _ => by simp at hl
  | (i, x) :: ps, (i', v) :: qs, cs, cs', c, h, hc, hl, hr => by
    obtain ⟨h1, h2⟩ := hr 0 _ _ rfl rfl
    simp only at h1 h2
    subst h1
    simp only [fillA] at h
    split at h
    · rename_i off size vs hp hx
      cases hb : (Nat.beq vs.length size && Nat.ble (off + vs.length) cs.length) with
      | false => rw [hb] at h; cases h
      | true =>
        rw [hb] at h
        simp only [cond_true] at h
        simp only [Bool.and_eq_true] at hb
        have hs : vs.length = size := Nat.eq_of_beq_eq_true hb.1
        have ho : off + vs.length ≤ cs.length := Nat.le_of_ble_eq_true hb.2
        have hv := cellsOf_rep hx h2
        obtain ⟨c', k1, k2⟩ := fill_rep ps qs _ cs' _ h (hc.put hv ho) (by simpa using hl) (fun j p q e1 e2 => hr (j + 1) p q (by simpa using e1) (by simpa using e2))
        refine ⟨c', ?_, k2⟩
        rw [Instr.fill, hp]
        simp only
        have hn : ¬ ((decide (v.cells.size ≠ size) || decide (off + v.cells.size > c.size)) = true) := by
          rw [hv.1, hc.1]; simp [hs]; omega
        rw [if_neg hn, ← k1]
        congr 1
        rw [← Array.foldl_toList]
        have := foldl_put v.cells.toList c off 0
        rw [Nat.add_zero] at this
        rw [← this]
        simp [Array.toList_zipIdx]
    · cases h

end
end Go.Ae

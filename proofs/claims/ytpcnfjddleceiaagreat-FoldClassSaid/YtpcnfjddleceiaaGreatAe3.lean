/- The abstract executor, part 3: what one operation does. -/
import Derived.Test.YtpcnfjddleceiaaGreatAe2
import Derived.Laws.Slices
import Derived.Laws.Strings
import Derived.Laws.Pointers
import Derived.Laws.Small
namespace Go.Ae

/-- What is told to the executor of one operation. -/
inductive Ent where
  | no
  | bit (b : Bool)
  | int (n : Int)
  | str (s : ByteArray)
  | row (k : Nat) (cs : List AV)
  | byte (k : Nat) (c : UInt8)
  | nat (k : Nat)
  | rows (xs : List (List AV))
  | look (r : Option AV)
  | loc
  | call (r : AV) (σ : List AObj)

/-- What an operation comes to: its value, the objects that it writes, those that it looks at or writes, what is owed. -/
structure Res where
  r : AV
  wr : List (Nat × AObj)
  ac : List (Nat × Bool)
  ob : List Prop

def applyWr (st : List AObj) (wr : List (Nat × AObj)) : List AObj := wr.foldl (fun s p => s.set p.1 p.2) st

def cvt1 : Value → AV
  | .slice none 0 0 => .nil
  | v => .sc v

def cvt : Value → AV
  | .slice none 0 0 => .nil
  | .agg us => .agg (us.toList.map cvt1)
  | v => .sc v

theorem cvt1_rep (M : Mem) (μ : List Bd) (v : Value) : RepV M μ (cvt1 v) v := by
  unfold cvt1
  split
  · exact .nil
  · exact .sc

theorem cvt_rep (M : Mem) (μ : List Bd) (v : Value) : RepV M μ (cvt v) v := by
  unfold cvt
  split
  · exact .nil
  · rename_i us
    have : RepV M μ (.agg (us.toList.map cvt1)) (.agg us.toList.toArray) := .agg (by simp) fun j a u e1 e2 => by
      rw [List.getElem?_map, e2] at e1
      cases e1
      exact cvt1_rep M μ u
    simpa using this
  · exact .sc

def evA (s : ASt) : Operand → AV
  | .tmp t => s.tm t
  | .const v => cvt v
  | .global _ => .any
  | .func f => .fn f []

theorem evA_rep {N : Nat} {M : Mem} {μ : List Bd} {s : ASt} {a : Act} {w : World} (h : Rel N M μ s a w) (x : Operand) : RepV M μ (evA s x) (a.eval x) := by
  cases x with
  | tmp t => have := h.tm t; simpa [Act.eval, evA] using this
  | const v => exact cvt_rep M μ v
  | global g => exact .any
  | func f => exact .fn (us := []) rfl (by simp)

theorem RepV.scv {M : Mem} {μ : List Bd} {u v : Value} (h : RepV M μ (.sc v) u) : u = v := by cases h; rfl

/-! ### cells -/
/-- The cells stand for these values. -/
def RL (M : Mem) (μ : List Bd) (cs : List AV) (c : Array Value) : Prop := c.size = cs.length ∧ ∀ (j : Nat) (a : AV), cs[j]? = some a → ∃ v, c[j]? = some v ∧ v.oneCell' = true ∧ RepV M μ a v

/-- A value that is surely one cell. -/
def oneB : AV → Bool
  | .sc v => v.oneCell'
  | .any => false
  | .agg _ => false
  | .tup _ => false
  | _ => true

theorem oneB_spec {M : Mem} {μ : List Bd} {a : AV} {v : Value} (h : oneB a = true) (hr : RepV M μ a v) : v.oneCell' = true := by
  cases hr <;> first | rfl | assumption | simp [oneB] at h | simpa [oneB] using h

theorem one_cells {v : Value} (h : v.oneCell' = true) : v.cells = #[v] := by cases v <;> first | rfl | simp [Value.oneCell'] at h

def cellsOf (a : AV) : Option (List AV) :=
  match a with
  | .agg cs => bif cs.all oneB then some cs else none
  | a => bif oneB a then some [a] else none

theorem cellsOf_rep {M : Mem} {μ : List Bd} {a : AV} {v : Value} {cs : List AV} (h : cellsOf a = some cs) (hr : RepV M μ a v) : RL M μ cs v.cells := by
  unfold cellsOf at h
  split at h
  · rename_i cs'
    cases hb : cs'.all oneB with
    | false => rw [hb] at h; cases h
    | true =>
      rw [hb] at h
      cases h
      rw [List.all_eq_true] at hb
      cases hr with
      | @agg _ _ us hl hr =>
        refine ⟨by simpa [Value.cells] using hl, fun j a e => ?_⟩
        have hj : j < us.length := by rw [hl]; exact (List.getElem?_eq_some_iff.1 e).1
        have := hr j a _ e (List.getElem?_eq_getElem hj)
        exact ⟨us[j], by simp [Value.cells, hj], oneB_spec (hb a (List.mem_of_getElem? e)) this, this⟩
  · cases hb : oneB a with
    | false => rw [hb] at h; cases h
    | true =>
      rw [hb] at h
      cases h
      rw [one_cells (oneB_spec hb hr)]
      refine ⟨rfl, fun j x e => ?_⟩
      cases j with
      | zero => simp at e; subst e; exact ⟨v, rfl, oneB_spec hb hr, hr⟩
      | succ j => simp at e

theorem RL.mono {M M' : Mem} {μ μ' : List Bd} {cs : List AV} {c : Array Value} (h : RL M μ cs c) (hM : M.le M') (hE : EvoAll μ μ') : RL M' μ' cs c :=
  ⟨h.1, fun j a e => by obtain ⟨v, e1, e0, e2⟩ := h.2 j a e; exact ⟨v, e1, e0, e2.mono hM hE⟩⟩

theorem RL.toAgg {M : Mem} {μ : List Bd} {cs : List AV} {c : Array Value} (h : RL M μ cs c) : RepV M μ (.agg cs) (.agg c) := by
  have := RepV.agg (M := M) (μ := μ) (cs := cs) (us := c.toList) (by simpa using h.1) fun j a u e1 e2 => by
    obtain ⟨v, e3, _, e4⟩ := h.2 j a e1
    rw [Array.getElem?_toList, e3] at e2
    cases e2
    exact e4
  simpa using this

/-! ### what an operation does -/
/-- The run gives a value; the objects, the world and the value stand for what 'res' says. -/
def OpOk (M : Mem) (μ : List Bd) (st : List AObj) (w : World) (res : Res) (run : Result Next) : Prop :=
  ∃ v w' M' μ', (run = .ok (.value v) w' ∨ (run = .ok .skip w' ∧ v = undef)) ∧ StoreOk M' μ' (applyWr st res.wr) w' ∧
    Stp M μ st w M' μ' (applyWr st res.wr) w' ∧ EvoAll μ μ' ∧ RepV M' μ' res.r v

theorem OpOk.val {M : Mem} {μ : List Bd} {st : List AObj} {w : World} {r : AV} {ac : List (Nat × Bool)} {ob : List Prop} {run : Result Next} {v : Value}
    (hst : StoreOk M μ st w) (hrun : run = .ok (.value v) w) (hr : RepV M μ r v) : OpOk M μ st w ⟨r, [], ac, ob⟩ run :=
  ⟨v, w, M, μ, .inl hrun, hst, .refl M μ st w, .refl μ, hr⟩

theorem OpOk.vald {M : Mem} {μ : List Bd} {st : List AObj} {w : World} {r : AV} {ac : List (Nat × Bool)} {ob : List Prop} {run : Result Next} {v : Value} {n : Nat}
    (hst : StoreOk M μ st w) (hrun : run = .ok (.value v) { w with drawn := n }) (hr : RepV M μ r v) : OpOk M μ st w ⟨r, [], ac, ob⟩ run :=
  ⟨v, _, M, μ, .inl hrun, hst.drew n, .drew M μ st w n, .refl μ, hr⟩

theorem Mem.lt {M : Mem} {w : World} (hm : ∀ b o v, M b o = some v → w.cell? ⟨b, o, none⟩ = some v ∧ v.oneCell' = true) {b o : Nat} {v : Value} (h : M b o = some v) : b < w.heap.size :=
  World.block_lt_of_cell? w ⟨b, o, none⟩ (hm b o v h).1

theorem Mem.none {M : Mem} {w : World} (hm : ∀ b o v, M b o = some v → w.cell? ⟨b, o, none⟩ = some v ∧ v.oneCell' = true) {b : Nat} (h : w.heap.size ≤ b) (o : Nat) : M b o = .none := by
  cases e : M b o with
  | none => rfl
  | some v => have := Mem.lt hm e; omega

theorem alloc_heap_old (w : World) (o : Obj) {b : Nat} (h : b < w.heap.size) : (w.alloc o).heap[b]? = w.heap[b]? := by
  show (w.heap.push o)[b]? = _
  rw [Array.getElem?_push, if_neg (by omega)]

theorem alloc_heap_new (w : World) (o : Obj) : (w.alloc o).heap[w.heap.size]? = some o := by
  show (w.heap.push o)[w.heap.size]? = _
  rw [Array.getElem?_push, if_pos rfl]

theorem alloc_cell_old (w : World) (o : Obj) {b x : Nat} {v : Value} (h : w.cell? ⟨b, x, none⟩ = some v) : (w.alloc o).cell? ⟨b, x, none⟩ = some v := by
  rw [World.cell?_alloc_lt]
  · exact h
  · exact World.block_lt_of_cell? w ⟨b, x, none⟩ h

/-- A new block that is an object's. -/
theorem StoreOk.newObj {M : Mem} {μ : List Bd} {st : List AObj} {w : World} {slot : Nat} {o : AObj} {bd : Bd} {ob : Obj} (h : StoreOk M μ st w)
    (hs : st[slot]? = some .gone) (hb : bd.b = some w.heap.size) (hh : o.here = true)
    (hr : RepO M (μ.set slot bd) (w.alloc ob) o bd) :
    StoreOk M (μ.set slot bd) (st.set slot o) (w.alloc ob) ∧ Stp M μ st w M (μ.set slot bd) (st.set slot o) (w.alloc ob) ∧ EvoAll μ (μ.set slot bd) := by
  have hl : slot < st.length := (List.getElem?_eq_some_iff.1 hs).1
  have hz : ∀ p, μ[slot]? = some p → p = Bd.zero := fun p e => h.dead slot _ p hs e rfl
  have hE : ∀ p, μ[slot]? = some p → p.evo bd := fun p e => .inl (hz p e)
  refine ⟨h.update hl (.refl M) hE (fun b hb' _ => ⟨alloc_heap_old w ob hb', fun _ h => h⟩) (fun i x p b e1 hx e2 e3 => h.lt e1 hx e2 e3) hr (fun e => by rw [hh] at e; cases e)
    (fun b e _ i x p _ e1 hx e2 e3 => ?_) (fun b x v e => ⟨alloc_cell_old w ob (h.mem b x v e).1, (h.mem b x v e).2⟩), ⟨rfl, rfl, rfl, by simp, fun b hb' _ => alloc_heap_old w ob hb', .refl M, fun b x v e k => by simp [e] at k, fun b ho => ?_⟩, EvoAll.set hE⟩
  · rw [hb] at e
    cases e
    have := h.lt e1 hx e2 e3
    omega
  · obtain ⟨i, x, p, e1, hx, e2, e3⟩ := ho
    by_cases hi : i = slot
    · subst hi
      rw [List.getElem?_set_self (by rw [h.len]; exact hl)] at e2
      cases e2
      rw [hb] at e3
      cases e3
      exact .inl (Nat.le_refl _)
    · rw [List.getElem?_set_ne (Ne.symm hi)] at e1 e2
      exact .inr ⟨i, x, p, e1, hx, e2, e3⟩

/-- A new variable. -/
theorem OpOk.newCells {M : Mem} {μ : List Bd} {st : List AObj} {w : World} {slot : Nat} {cs : List AV} {c : Array Value} {t : TypeId} {ac : List (Nat × Bool)} {ob : List Prop} {run : Result Next}
    (h : StoreOk M μ st w) (hs : st[slot]? = some .gone) (hc : RL M μ cs c)
    (hrun : run = .ok (.value (.pointer (some ⟨w.heap.size, 0, none⟩))) (w.alloc (.cells c t))) :
    OpOk M μ st w ⟨.lp slot 0, [(slot, .cells cs [])], ac, ob⟩ run := by
  have hl : slot < μ.length := by rw [h.len]; exact (List.getElem?_eq_some_iff.1 hs).1
  have hz : ∀ p, μ[slot]? = some p → p.evo (Bd.at w.heap.size) := fun p e => .inl (h.dead slot _ p hs e rfl)
  obtain ⟨h1, h2, h3⟩ := h.newObj (o := .cells cs []) (bd := Bd.at w.heap.size) (ob := .cells c t) hs rfl rfl
    ⟨w.heap.size, c, t, rfl, alloc_heap_new w _, hc.1, fun j a e => by
      obtain ⟨v, e1, e0, e2⟩ := hc.2 j a e
      exact ⟨v, e1, e0, e2.mono (.refl M) (EvoAll.set hz)⟩, fun o _ => Mem.none h.mem (Nat.le_refl _) o⟩
  exact ⟨_, _, M, _, .inl hrun, h1, h2, h3, .lp (List.getElem?_set_self hl)⟩

/-- Rows as cells in a line. -/
def RowsIn (M : Mem) (sz : Nat) (rows : List (List AV)) (c : Array Value) : Prop :=
  (∀ (i : Nat) (row : List AV), rows[i]? = some row → row.length = sz) ∧
  ∀ (i : Nat) (row : List AV) (j : Nat) (a : AV), rows[i]? = some row → row[j]? = some a → ∃ v, c[i * sz + j]? = some v ∧ v.oneCell' = true ∧ RepV M [] a v

/-- A new block whose cells never change: a slice of it. -/
theorem OpOk.newRow {M : Mem} {μ : List Bd} {st : List AObj} {w : World} {sz n cap : Nat} {rows : List (List AV)} {full : Bool} {c : Array Value} {t : TypeId} {ac : List (Nat × Bool)} {ob : List Prop} {run : Result Next} {d : Nat}
    (h : StoreOk M μ st w) (hc : RowsIn M sz rows c) (hn : rows.length = n) (hcap : n ≤ cap) (hf : full = true → cap = n)
    (hrun : run = .ok (.value (.slice (some ⟨w.heap.size, 0, none⟩) n cap)) ({ w with drawn := d }.alloc (.cells c t))) :
    OpOk M μ st w ⟨.sl sz rows full, [], ac, ob⟩ run := by
  subst hn
  let M' : Mem := fun b x => if b = w.heap.size then (c[x]?).filter (·.oneCell') else M b x
  have hM : M.le M' := fun b x v e => by
    have := Mem.lt h.mem e
    show (if b = w.heap.size then (c[x]?).filter (·.oneCell') else M b x) = some v
    rw [if_neg (by omega)]; exact e
  have hmem : ∀ b x v, M' b x = some v → ({ w with drawn := d }.alloc (.cells c t)).cell? ⟨b, x, none⟩ = some v ∧ v.oneCell' = true := fun b x v e => by
    by_cases hb : b = w.heap.size
    · subst hb
      have e' : (c[x]?).filter (·.oneCell') = some v := by simpa only [M', if_true] using e
      rw [cell_of_heap (alloc_heap_new _ _)]
      exact filter_some.1 e'
    · have e' : M b x = some v := by simpa [M', hb] using e
      exact ⟨alloc_cell_old _ _ (h.mem b x v e').1, (h.mem b x v e').2⟩
  have hwr : applyWr st [] = st := rfl
  refine ⟨_, _, M', μ, .inl hrun, ⟨h.len, fun l o bd e1 e2 => ?_, h.dead, h.apart, hmem⟩, ⟨rfl, rfl, rfl, by simp, fun b hb _ => alloc_heap_old _ _ hb, hM, fun b x v e k => .inl ?_, fun b ho => .inr ho⟩, .refl μ, ?_⟩
  · have hr := h.rep l o bd e1 e2
    by_cases hx : o.here = true
    · refine hr.mono hM (.refl μ) fun b e => ?_
      have hb := h.lt e1 hx e2 e
      refine ⟨alloc_heap_old _ _ hb, fun x hx => ?_⟩
      show (if b = w.heap.size then (c[x]?).filter (·.oneCell') else M b x) = none
      rw [if_neg (by omega)]; exact hx
    · cases o <;> first | trivial | exact absurd rfl hx
  · by_cases hb : b = w.heap.size
    · omega
    · have e' : M b x = some v := by simpa [M', hb] using e
      rw [e'] at k; cases k
  · by_cases hne : rows = []
    · subst hne
      cases full with
      | true => have := hf rfl; subst this; exact .sl0f
      | false => exact .sl0
    · refine .sl (b := w.heap.size) (o := 0) (fun i j => (c[i * sz + j]?).getD undef) hne hcap hf hc.1 (fun i row j a e1 e2 => ?_) (fun i row j a e1 e2 => ?_)
      · obtain ⟨v, e3, e0, _⟩ := hc.2 i row j a e1 e2
        simp only [M', if_true, Nat.zero_add, e3, Option.getD_some]
        exact filter_some.2 ⟨rfl, e0⟩
      · obtain ⟨v, e3, _, e4⟩ := hc.2 i row j a e1 e2
        simp only [e3, Option.getD_some]
        exact e4.mono hM (.refl [])

/-- A new block that is a row of the call's own. -/
theorem OpOk.newArr {M : Mem} {μ : List Bd} {st : List AObj} {w : World} {slot sz n cap : Nat} {rows : List (List AV)} {c : Array Value} {t : TypeId} {ac : List (Nat × Bool)} {ob : List Prop} {run : Result Next} {d : Nat}
    (h : StoreOk M μ st w) (hs : st[slot]? = some .gone) (hc : RowsIn M sz rows c) (hn : rows.length = n) (hcap : n ≤ cap) (hsz : c.size = cap * sz)
    (hrun : run = .ok (.value (.slice (some ⟨w.heap.size, 0, none⟩) n cap)) ({ w with drawn := d }.alloc (.cells c t))) :
    OpOk M μ st w ⟨.la slot 1, [(slot, .arr 1 sz rows)], ac, ob⟩ run := by
  subst hn
  have hl : slot < μ.length := by rw [h.len]; exact (List.getElem?_eq_some_iff.1 hs).1
  obtain ⟨h1, h2, h3⟩ := (h.drew d).newObj (o := .arr 1 sz rows) (bd := ⟨some w.heap.size, 1, cap, rows.length, sz⟩) (ob := .cells c t) hs rfl rfl
    ⟨by omega, rfl, rfl, rfl, c, t, alloc_heap_new _ _, hsz, hcap, hc.1, hc.2, fun o => Mem.none h.mem (Nat.le_refl _) o⟩
  refine ⟨_, _, M, _, .inl hrun, h1, ?_, h3, .la (List.getElem?_set_self hl) (by omega) (Nat.le_refl _) (fun _ => rfl) rfl⟩
  exact (Stp.drew M μ st w d).trans h2

end Go.Ae

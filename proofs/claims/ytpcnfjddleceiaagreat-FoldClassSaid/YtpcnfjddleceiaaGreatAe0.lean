/- The abstract executor, part 0: abstract values and objects, how they are represented in memory, what a step keeps. -/
import Derived.Calls
import Derived.Laws.Sem
import Derived.Laws.World
import Derived.Laws.Entries
import Derived.Laws.Cells
namespace Go.Ae

/-- Abstract values. -/
inductive AV where
  | any
  | sc (v : Value)
  | nil
  | sl (sz : Nat) (xs : List (List AV)) (full : Bool)
  | ip (cs : List AV) (off : Nat)
  | lp (l off : Nat)
  | le (l g i off : Nat)
  | la (l g : Nat)
  | mp (l : Nat)
  | fn (f : FuncId) (caps : List AV)
  | ifc (t : TypeId) (x : AV)
  | agg (cs : List AV)
  | tup (vs : List AV)

instance : Inhabited AV := ⟨.any⟩

/-- Objects: a block of the call's own. -/
inductive AObj where
  | gone
  | cells (cs : List AV) (ro : List Nat)
  | arr (g sz : Nat) (rows : List (List AV))
  | map (es : List (ByteArray × AV))

instance : Inhabited AObj := ⟨.gone⟩

def AObj.gen : AObj → Nat
  | .arr g _ _ => g
  | _ => 0

def AObj.here : AObj → Bool
  | .gone => false
  | _ => true

/-- Where an object lies: its block (none: it has none yet), its generation, how many rows the block has, how many of them are known, how many cells a row has. -/
structure Bd where
  b : Option Nat
  g : Nat
  n : Nat
  k : Nat
  sz : Nat

def Bd.zero : Bd := ⟨none, 0, 0, 0, 0⟩
def Bd.at (b : Nat) : Bd := ⟨some b, 0, 0, 0, 0⟩

/-- The cells that never change. -/
abbrev Mem := Nat → Nat → Option Value

def LaOk (bd : Bd) (v : Value) : Prop :=
  match bd.b with
  | none => ∃ A, v = .slice A 0 0
  | some b => v = .slice (some ⟨b, 0, none⟩) bd.k bd.n

inductive RepV (M : Mem) : List Bd → AV → Value → Prop
  | any {μ v} : RepV M μ .any v
  | sc {μ v} : RepV M μ (.sc v) v
  | nil {μ A} : RepV M μ .nil (.slice A 0 0)
  | sl0 {μ sz A c} : RepV M μ (.sl sz [] false) (.slice A 0 c)
  | sl0f {μ sz A} : RepV M μ (.sl sz [] true) (.slice A 0 0)
  | sl {μ sz xs full b o c} (f : Nat → Nat → Value) (hne : xs ≠ []) (hc : xs.length ≤ c) (hf : full = true → c = xs.length)
      (hz : ∀ (i : Nat) (row : List AV), xs[i]? = some row → row.length = sz)
      (hm : ∀ (i : Nat) (row : List AV) (j : Nat) (a : AV), xs[i]? = some row → row[j]? = some a → M b (o + i * sz + j) = some (f i j))
      (hr : ∀ (i : Nat) (row : List AV) (j : Nat) (a : AV), xs[i]? = some row → row[j]? = some a → RepV M [] a (f i j)) :
      RepV M μ (.sl sz xs full) (.slice (some ⟨b, o, none⟩) xs.length c)
  | ip {μ cs off b o} (f : Nat → Value) (hm : ∀ (j : Nat) (a : AV), cs[j]? = some a → M b (o + j) = some (f j))
      (hr : ∀ (j : Nat) (a : AV), cs[j]? = some a → RepV M [] a (f j)) : RepV M μ (.ip cs off) (.pointer (some ⟨b, o + off, none⟩))
  | lp {μ l off b} (h : μ[l]? = some (Bd.at b)) : RepV M μ (.lp l off) (.pointer (some ⟨b, off, none⟩))
  | le {μ l g i off v bd} (h : μ[l]? = some bd) (hg : 0 < g) (hl : g ≤ bd.g)
      (hv : bd.g = g → ∃ b, bd.b = some b ∧ v = .pointer (some ⟨b, i * bd.sz + off, none⟩)) (h1 : v.oneCell' = true) : RepV M μ (.le l g i off) v
  | la {μ l g v bd} (h : μ[l]? = some bd) (hg : 0 < g) (hl : g ≤ bd.g) (hv : bd.g = g → LaOk bd v) (h1 : v.oneCell' = true) : RepV M μ (.la l g) v
  | mp {μ l b} (h : μ[l]? = some (Bd.at b)) : RepV M μ (.mp l) (.map (some b))
  | fn {μ f caps} {us : List Value} (hl : us.length = caps.length) (hr : ∀ (j : Nat) (a : AV) (u : Value), caps[j]? = some a → us[j]? = some u → RepV M μ a u) :
      RepV M μ (.fn f caps) (.func (.func f) #[] us.toArray)
  | ifc {μ t x u} (h : RepV M μ x u) : RepV M μ (.ifc t x) (.iface t u)
  | agg {μ cs} {us : List Value} (hl : us.length = cs.length) (hr : ∀ (j : Nat) (a : AV) (u : Value), cs[j]? = some a → us[j]? = some u → RepV M μ a u) :
      RepV M μ (.agg cs) (.agg us.toArray)
  | tup {μ cs} {us : List Value} (hl : us.length = cs.length) (hr : ∀ (j : Nat) (a : AV) (u : Value), cs[j]? = some a → us[j]? = some u → RepV M μ a u) :
      RepV M μ (.tup cs) (.tuple us.toArray)

/-- The immutable cells may grow. -/
def Mem.le (M M' : Mem) : Prop := ∀ b o v, M b o = some v → M' b o = some v

theorem Mem.le.refl (M : Mem) : M.le M := fun _ _ _ h => h
theorem Mem.le.trans {a b c : Mem} (h : a.le b) (k : b.le c) : a.le c := fun x y v hv => k x y v (h x y v hv)

/-- How an object's place may change: not at all; or it had none; or it is of a later generation. -/
def Bd.evo (a b : Bd) : Prop := a = Bd.zero ∨ b = a ∨ (0 < a.g ∧ a.g < b.g)

theorem Bd.evo.refl (a : Bd) : a.evo a := .inr (.inl rfl)
theorem Bd.evo.trans {a b c : Bd} (h : a.evo b) (k : b.evo c) : a.evo c := by
  rcases h with h | h | h
  · exact .inl h
  · subst h; exact k
  · rcases k with k | k | k
    · subst k; simp [Bd.zero] at h
    · subst k; exact .inr (.inr h)
    · exact .inr (.inr ⟨h.1, Nat.lt_trans h.2 k.2⟩)

def EvoTo (m : Nat) (μ μ' : List Bd) : Prop := ∀ (l : Nat) (bd : Bd), l < m → μ[l]? = some bd → ∃ bd', μ'[l]? = some bd' ∧ bd.evo bd'

def EvoAll (μ μ' : List Bd) : Prop := ∀ (l : Nat) (bd : Bd), μ[l]? = some bd → ∃ bd', μ'[l]? = some bd' ∧ bd.evo bd'

theorem EvoAll.refl (μ : List Bd) : EvoAll μ μ := fun _ bd h => ⟨bd, h, .refl _⟩
theorem EvoAll.trans {a b c : List Bd} (h : EvoAll a b) (k : EvoAll b c) : EvoAll a c := fun l bd e => by
  obtain ⟨b1, e1, v1⟩ := h l bd e
  obtain ⟨b2, e2, v2⟩ := k l b1 e1
  exact ⟨b2, e2, v1.trans v2⟩
theorem EvoAll.to {μ μ' : List Bd} (h : EvoAll μ μ') (m : Nat) : EvoTo m μ μ' := fun l bd _ e => h l bd e
theorem EvoTo.refl (m : Nat) (μ : List Bd) : EvoTo m μ μ := (EvoAll.refl μ).to m
theorem EvoTo.trans {m : Nat} {a b c : List Bd} (h : EvoTo m a b) (k : EvoTo m b c) : EvoTo m a c := fun l bd hl e => by
  obtain ⟨b1, e1, v1⟩ := h l bd hl e
  obtain ⟨b2, e2, v2⟩ := k l b1 hl e1
  exact ⟨b2, e2, v1.trans v2⟩

theorem LaOk.evo {bd bd' : Bd} {g : Nat} {v : Value} (hg : 0 < g) (hl : g ≤ bd.g) (hv : bd.g = g → LaOk bd v) (he : bd.evo bd') :
    g ≤ bd'.g ∧ (bd'.g = g → LaOk bd' v) := by
  rcases he with rfl | rfl | he
  · simp [Bd.zero] at hl; omega
  · exact ⟨hl, hv⟩
  · exact ⟨by omega, fun h => by omega⟩

theorem RepV.mono {M M' : Mem} {μ μ' : List Bd} {a : AV} {v : Value} (hM : M.le M') (hE : EvoAll μ μ') (h : RepV M μ a v) : RepV M' μ' a v := by
  induction h generalizing μ' with
  | any => exact .any
  | sc => exact .sc
  | nil => exact .nil
  | sl0 => exact .sl0
  | sl0f => exact .sl0f
  | sl f hne hc hf hz hm hr ih => exact .sl f hne hc hf hz (fun i row j a h1 h2 => hM _ _ _ (hm i row j a h1 h2)) (fun i row j a h1 h2 => ih i row j a h1 h2 (EvoAll.refl _))
  | ip f hm hr ih => exact .ip f (fun j a h => hM _ _ _ (hm j a h)) (fun j a h => ih j a h (EvoAll.refl _))
  | lp h =>
    obtain ⟨bd', e, v⟩ := hE _ _ h
    rcases v with v | v | v
    · simp [Bd.zero, Bd.at] at v
    · subst v; exact .lp e
    · simp [Bd.at] at v
  | mp h =>
    obtain ⟨bd', e, v⟩ := hE _ _ h
    rcases v with v | v | v
    · simp [Bd.zero, Bd.at] at v
    · subst v; exact .mp e
    · simp [Bd.at] at v
  | le h hg hl hv h1 =>
    obtain ⟨bd', e, he⟩ := hE _ _ h
    rcases he with rfl | rfl | he
    · simp [Bd.zero] at hl; omega
    · exact .le e hg hl hv h1
    · exact .le e hg (by omega) (fun h => by omega) h1
  | la h hg hl hv h1 =>
    obtain ⟨bd', e, he⟩ := hE _ _ h
    obtain ⟨h3, h2⟩ := LaOk.evo hg hl hv he
    exact .la e hg h3 h2 h1
  | fn hl hr ih => exact .fn hl (fun j a u h1 h2 => ih j a u h1 h2 hE)
  | ifc h ih => exact .ifc (ih hE)
  | agg hl hr ih => exact .agg hl (fun j a u e1 e2 => ih j a u e1 e2 hE)
  | tup hl hr ih => exact .tup hl (fun j a u h1 h2 => ih j a u h1 h2 hE)

/-- What holds without objects holds beside whatever objects. -/
theorem RepV.data {M : Mem} {μ : List Bd} {a : AV} {v : Value} (h : RepV M [] a v) : RepV M μ a v :=
  h.mono (Mem.le.refl M) (fun l bd e => by simp at e)

/-- What an object's block holds. -/
def RepO (M : Mem) (μ : List Bd) (w : World) : AObj → Bd → Prop
  | .gone, _ => True
  | .cells cs ro, bd => ∃ b c t, bd = Bd.at b ∧ w.heap[b]? = some (.cells c t (0, 0)) ∧ c.size = cs.length ∧
      (∀ (j : Nat) (a : AV), cs[j]? = some a → ∃ v, c[j]? = some v ∧ v.oneCell' = true ∧ RepV M μ a v) ∧ (∀ o, o ∉ ro → M b o = none)
  | .arr g sz rows, bd => 0 < g ∧ bd.g = g ∧ bd.sz = sz ∧ bd.k = rows.length ∧
      match bd.b with
      | none => rows = [] ∧ bd.n = 0
      | some b => ∃ c t, w.heap[b]? = some (.cells c t (0, 0)) ∧ c.size = bd.n * sz ∧ rows.length ≤ bd.n ∧
          (∀ (i : Nat) (row : List AV), rows[i]? = some row → row.length = sz) ∧
          (∀ (i : Nat) (row : List AV) (j : Nat) (a : AV), rows[i]? = some row → row[j]? = some a → ∃ v, c[i * sz + j]? = some v ∧ v.oneCell' = true ∧ RepV M [] a v) ∧
          (∀ o, M b o = none)
  | .map es, bd => ∃ b ms k, bd = Bd.at b ∧ w.heap[b]? = some (.map ms k) ∧ ms.size = es.length ∧
      (∀ (j : Nat) (key : ByteArray) (a : AV), es[j]? = some (key, a) → ∃ e, ms[j]? = some e ∧ e.key = .string key ∧ RepV M [] a e.val) ∧ (∀ o, M b o = none)

/-- The block b is that of an object. -/
def Own (μ : List Bd) (σ : List AObj) (b : Nat) : Prop := ∃ (l : Nat) (o : AObj) (bd : Bd), σ[l]? = some o ∧ o.here = true ∧ μ[l]? = some bd ∧ bd.b = some b

structure StoreOk (M : Mem) (μ : List Bd) (σ : List AObj) (w : World) : Prop where
  len : μ.length = σ.length
  rep : ∀ (l : Nat) (o : AObj) (bd : Bd), σ[l]? = some o → μ[l]? = some bd → RepO M μ w o bd
  dead : ∀ (l : Nat) (o : AObj) (bd : Bd), σ[l]? = some o → μ[l]? = some bd → o.here = false → bd = Bd.zero
  apart : ∀ (i j : Nat) (x y : AObj) (p q : Bd) (b : Nat), i ≠ j → σ[i]? = some x → σ[j]? = some y → x.here = true → y.here = true → μ[i]? = some p → μ[j]? = some q →
    p.b = some b → q.b ≠ some b
  mem : ∀ b o v, M b o = some v → w.cell? ⟨b, o, none⟩ = some v ∧ v.oneCell' = true

/-- What a step keeps. -/
structure Stp (M : Mem) (μ : List Bd) (σ : List AObj) (w : World) (M' : Mem) (μ' : List Bd) (σ' : List AObj) (w' : World) : Prop where
  os : w'.os = w.os
  tape : w'.tape = w.tape
  output : w'.output = w.output
  size : w.heap.size ≤ w'.heap.size
  keep : ∀ b, b < w.heap.size → ¬ Own μ σ b → w'.heap[b]? = w.heap[b]?
  mono : M.le M'
  new : ∀ b o v, M' b o = some v → M b o = none → w.heap.size ≤ b ∨ Own μ σ b
  own : ∀ b, Own μ' σ' b → w.heap.size ≤ b ∨ Own μ σ b

theorem Stp.refl (M : Mem) (μ : List Bd) (σ : List AObj) (w : World) : Stp M μ σ w M μ σ w :=
  ⟨rfl, rfl, rfl, Nat.le_refl _, fun _ _ _ => rfl, Mem.le.refl M, fun b o v h k => by simp [h] at k, fun _ h => .inr h⟩

theorem Stp.trans {M M1 M2 : Mem} {μ μ1 μ2 : List Bd} {σ σ1 σ2 : List AObj} {w w1 w2 : World}
    (h : Stp M μ σ w M1 μ1 σ1 w1) (k : Stp M1 μ1 σ1 w1 M2 μ2 σ2 w2) : Stp M μ σ w M2 μ2 σ2 w2 where
  os := k.os.trans h.os
  tape := k.tape.trans h.tape
  output := k.output.trans h.output
  size := Nat.le_trans h.size k.size
  keep := fun b hb ho => by
    rw [k.keep b (Nat.lt_of_lt_of_le hb h.size) (fun o => ?_), h.keep b hb ho]
    rcases h.own b o with h1 | h1
    · omega
    · exact ho h1
  mono := h.mono.trans k.mono
  new := fun b o v hv hn => by
    cases hm : M1 b o with
    | none =>
      rcases k.new b o v hv hm with h1 | h1
      · exact .inl (Nat.le_trans h.size h1)
      · exact h.own b h1
    | some u => exact h.new b o u hm hn
  own := fun b ho => by
    rcases k.own b ho with h1 | h1
    · exact .inl (Nat.le_trans h.size h1)
    · exact h.own b h1

theorem Stp.drew (M : Mem) (μ : List Bd) (σ : List AObj) (w : World) (n : Nat) : Stp M μ σ w M μ σ { w with drawn := n } :=
  ⟨rfl, rfl, rfl, Nat.le_refl _, fun _ _ _ => rfl, Mem.le.refl M, fun b o v h k => by simp [h] at k, fun _ h => .inr h⟩

theorem StoreOk.drew {M : Mem} {μ : List Bd} {σ : List AObj} {w : World} (h : StoreOk M μ σ w) (n : Nat) : StoreOk M μ σ { w with drawn := n } :=
  ⟨h.len, fun l o bd h1 h2 => by have := h.rep l o bd h1 h2; cases o <;> exact this, h.dead, h.apart, h.mem⟩

theorem RepO.mono {M M' : Mem} {μ μ' : List Bd} {w w' : World} {o : AObj} {bd : Bd} (h : RepO M μ w o bd) (hM : M.le M') (hE : EvoAll μ μ')
    (hb : ∀ b, bd.b = some b → w'.heap[b]? = w.heap[b]? ∧ ∀ x, M b x = none → M' b x = none) : RepO M' μ' w' o bd := by
  cases o with
  | gone => trivial
  | cells cs ro =>
    obtain ⟨b, c, t, rfl, h2, h3, h4, h5⟩ := h
    obtain ⟨k1, k2⟩ := hb b rfl
    refine ⟨b, c, t, rfl, k1.trans h2, h3, fun j a e => ?_, fun x hx => k2 x (h5 x hx)⟩
    obtain ⟨v, e1, e0, e2⟩ := h4 j a e
    exact ⟨v, e1, e0, e2.mono hM hE⟩
  | arr g sz rows =>
    obtain ⟨h1, h2, h3, h4, h5⟩ := h
    refine ⟨h1, h2, h3, h4, ?_⟩
    split
    · rename_i e; rw [e] at h5; exact h5
    · rename_i b e
      rw [e] at h5
      obtain ⟨c, t, g1, g2, g3, g4, g5, g6⟩ := h5
      obtain ⟨k1, k2⟩ := hb b e
      refine ⟨c, t, k1.trans g1, g2, g3, g4, fun i row j a e1 e2 => ?_, fun x => k2 x (g6 x)⟩
      obtain ⟨v, e3, e0, e4⟩ := g5 i row j a e1 e2
      exact ⟨v, e3, e0, e4.mono hM (EvoAll.refl _)⟩
  | map es =>
    obtain ⟨b, ms, k, rfl, h2, h3, h4, h5⟩ := h
    obtain ⟨k1, k2⟩ := hb b rfl
    refine ⟨b, ms, k, rfl, k1.trans h2, h3, fun j key a e => ?_, fun x => k2 x (h5 x)⟩
    obtain ⟨x, e1, e2, e3⟩ := h4 j key a e
    exact ⟨x, e1, e2, e3.mono hM (EvoAll.refl _)⟩

theorem RepO.gen {M : Mem} {μ : List Bd} {w : World} {o : AObj} {bd : Bd} (h : RepO M μ w o bd) (hd : o.here = false → bd = Bd.zero) :
    bd.g = o.gen ∧ (∀ g sz rows, o = .arr g sz rows → 0 < g) := by
  cases o with
  | gone => have := hd rfl; subst this; exact ⟨rfl, by simp⟩
  | cells cs ro => obtain ⟨b, c, t, rfl, _⟩ := h; exact ⟨rfl, by simp⟩
  | arr g sz rows => exact ⟨h.2.1, by intro _ _ _ e; cases e; exact h.1⟩
  | map es => obtain ⟨b, ms, k, rfl, _⟩ := h; exact ⟨rfl, by simp⟩

/-- One object is put in the place of another. -/
theorem StoreOk.update {M M' : Mem} {μ : List Bd} {σ : List AObj} {w w' : World} (h : StoreOk M μ σ w) {l : Nat} (hl : l < σ.length) {o' : AObj} {bd' : Bd}
    (hM : M.le M') (hE : ∀ bd, μ[l]? = some bd → bd.evo bd')
    (hk : ∀ (b : Nat), b < w.heap.size → (∃ (i : Nat) (x : AObj) (p : Bd), i ≠ l ∧ σ[i]? = some x ∧ x.here = true ∧ μ[i]? = some p ∧ p.b = some b) →
      w'.heap[b]? = w.heap[b]? ∧ ∀ x, M b x = none → M' b x = none)
    (hlt : ∀ (i : Nat) (x : AObj) (p : Bd) (b : Nat), σ[i]? = some x → x.here = true → μ[i]? = some p → p.b = some b → b < w.heap.size)
    (hr : RepO M' (μ.set l bd') w' o' bd') (hd : o'.here = false → bd' = Bd.zero)
    (hf : ∀ b, bd'.b = some b → o'.here = true → ∀ (i : Nat) (x : AObj) (p : Bd), i ≠ l → σ[i]? = some x → x.here = true → μ[i]? = some p → p.b ≠ some b)
    (hm : ∀ b o v, M' b o = some v → w'.cell? ⟨b, o, none⟩ = some v ∧ v.oneCell' = true) : StoreOk M' (μ.set l bd') (σ.set l o') w' where
  len := by simp [h.len]
  rep := fun i x p e1 e2 => by
    by_cases hi : i = l
    · subst hi
      rw [List.getElem?_set_self hl] at e1
      rw [List.getElem?_set_self (by rw [h.len]; exact hl)] at e2
      cases e1; cases e2
      exact hr
    · rw [List.getElem?_set_ne (Ne.symm hi)] at e1 e2
      by_cases hx : x.here = true
      · refine (h.rep i x p e1 e2).mono hM (fun i2 q e3 => ?_) (fun b e => hk b (hlt i x p b e1 hx e2 e) ⟨i, x, p, hi, e1, hx, e2, e⟩)
        by_cases h2 : i2 = l
        · subst h2
          exact ⟨bd', List.getElem?_set_self (by rw [h.len]; exact hl), hE q e3⟩
        · exact ⟨q, by rw [List.getElem?_set_ne (Ne.symm h2)]; exact e3, .refl q⟩
      · cases x <;> first | trivial | exact absurd rfl hx
  dead := fun i x p e1 e2 => by
    by_cases hi : i = l
    · subst hi
      rw [List.getElem?_set_self hl] at e1
      rw [List.getElem?_set_self (by rw [h.len]; exact hl)] at e2
      cases e1; cases e2
      exact hd
    · rw [List.getElem?_set_ne (Ne.symm hi)] at e1 e2
      exact h.dead i x p e1 e2
  apart := fun i j x y p q b hij e1 e2 hx hy e3 e4 hp => by
    by_cases hi : i = l
    · subst hi
      rw [List.getElem?_set_self hl] at e1
      rw [List.getElem?_set_self (by rw [h.len]; exact hl)] at e3
      rw [List.getElem?_set_ne hij] at e2 e4
      cases e1; cases e3
      exact hf b hp hx j y q (Ne.symm hij) e2 hy e4
    · rw [List.getElem?_set_ne (Ne.symm hi)] at e1 e3
      by_cases hj : j = l
      · subst hj
        rw [List.getElem?_set_self hl] at e2
        rw [List.getElem?_set_self (by rw [h.len]; exact hl)] at e4
        cases e2; cases e4
        intro hq
        exact hf b hq hy i x p hi e1 hx e3 hp
      · rw [List.getElem?_set_ne (Ne.symm hj)] at e2 e4
        exact h.apart i j x y p q b hij e1 e2 hx hy e3 e4 hp
  mem := hm

theorem StoreOk.lt {M : Mem} {μ : List Bd} {σ : List AObj} {w : World} (h : StoreOk M μ σ w) {i : Nat} {x : AObj} {p : Bd} {b : Nat}
    (e1 : σ[i]? = some x) (hx : x.here = true) (e2 : μ[i]? = some p) (e3 : p.b = some b) : b < w.heap.size := by
  have hr := h.rep i x p e1 e2
  have key : ∀ o : Obj, w.heap[b]? = some o → b < w.heap.size := fun o ho => (Array.getElem?_eq_some_iff.1 ho).1
  cases x with
  | gone => cases hx
  | cells cs ro => obtain ⟨b', c, t, rfl, h2, _⟩ := hr; cases e3; exact key _ h2
  | arr g sz rows =>
    obtain ⟨_, _, _, _, h5⟩ := hr
    rw [e3] at h5
    obtain ⟨c, t, h6, _⟩ := h5
    exact key _ h6
  | map es => obtain ⟨b', ms, k, rfl, h2, _⟩ := hr; cases e3; exact key _ h2

theorem EvoAll.set {μ : List Bd} {l : Nat} {bd' : Bd} (hE : ∀ bd, μ[l]? = some bd → bd.evo bd') : EvoAll μ (μ.set l bd') := fun i q e => by
  by_cases h2 : i = l
  · subst h2
    exact ⟨bd', List.getElem?_set_self (List.getElem?_eq_some_iff.1 e).1, hE q e⟩
  · exact ⟨q, by rw [List.getElem?_set_ne (Ne.symm h2)]; exact e, .refl q⟩

/-- Empty places behind the objects. -/
theorem StoreOk.pad {M : Mem} {μ : List Bd} {σ : List AObj} {w : World} (h : StoreOk M μ σ w) (n : Nat) :
    StoreOk M (μ ++ List.replicate n Bd.zero) (σ ++ List.replicate n .gone) w ∧ EvoAll μ (μ ++ List.replicate n Bd.zero) ∧
      Stp M μ σ w M (μ ++ List.replicate n Bd.zero) (σ ++ List.replicate n .gone) w := by
  have hE : EvoAll μ (μ ++ List.replicate n Bd.zero) := fun l bd e => ⟨bd, by
    rw [List.getElem?_append_left (List.getElem?_eq_some_iff.1 e).1]; exact e, .refl bd⟩
  have key : ∀ (i : Nat) (x : AObj) (p : Bd), (σ ++ List.replicate n AObj.gone)[i]? = some x → (μ ++ List.replicate n Bd.zero)[i]? = some p →
      (σ[i]? = some x ∧ μ[i]? = some p) ∨ (x = .gone ∧ p = Bd.zero) := fun i x p e1 e2 => by
    by_cases hi : i < σ.length
    · rw [List.getElem?_append_left hi] at e1
      rw [List.getElem?_append_left (by rw [h.len]; exact hi)] at e2
      exact .inl ⟨e1, e2⟩
    · rw [List.getElem?_append_right (by omega)] at e1
      rw [List.getElem?_append_right (by rw [h.len]; omega)] at e2
      exact .inr ⟨List.eq_of_mem_replicate (List.mem_of_getElem? e1), List.eq_of_mem_replicate (List.mem_of_getElem? e2)⟩
  refine ⟨⟨by simp [h.len], fun i x p e1 e2 => ?_, fun i x p e1 e2 hx => ?_, fun i j x y p q b hij e1 e2 hx hy e3 e4 hp => ?_, h.mem⟩, hE, ?_⟩
  · rcases key i x p e1 e2 with ⟨k1, k2⟩ | ⟨rfl, _⟩
    · exact (h.rep i x p k1 k2).mono (.refl M) hE (fun b _ => ⟨rfl, fun _ h => h⟩)
    · trivial
  · rcases key i x p e1 e2 with ⟨k1, k2⟩ | ⟨_, rfl⟩
    · exact h.dead i x p k1 k2 hx
    · rfl
  · rcases key i x p e1 e3 with ⟨k1, k2⟩ | ⟨rfl, _⟩
    · rcases key j y q e2 e4 with ⟨k3, k4⟩ | ⟨rfl, _⟩
      · exact h.apart i j x y p q b hij k1 k3 hx hy k2 k4 hp
      · cases hy
    · cases hx
  · refine ⟨rfl, rfl, rfl, Nat.le_refl _, fun _ _ _ => rfl, .refl M, fun b o v h k => by simp [h] at k, fun b ho => .inr ?_⟩
    obtain ⟨i, x, p, e1, hx, e2, e3⟩ := ho
    rcases key i x p e1 e2 with ⟨k1, k2⟩ | ⟨rfl, _⟩
    · exact ⟨i, x, p, k1, hx, k2, e3⟩
    · cases hx

end Go.Ae

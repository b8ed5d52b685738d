/- Part 0 of the proof: Ae0, Ae1, Ae2, Ae3, Ae4. -/
import Derived.Calls
import Derived.Laws.Sem
import Derived.Laws.World
import Derived.Laws.Entries
import Derived.Laws.Cells
import Derived.Laws.Slices
import Derived.Laws.Strings
import Derived.Laws.Pointers
import Derived.Laws.Small
set_option linter.unusedSimpArgs false
set_option linter.unusedVariables false
namespace Go.Ae
inductive AV where
 | any
 | sc (v : Value)
 | nil
 | sl (sz : Nat) (xs : List (List AV)) (full : Bool)
 | ip (cs : List AV) (off : Nat)
 | lp (l off : Nat)
 | le (l g i off : Nat)
 | la (l g : Nat)
 | mp (l : Nat)
 | fn (f : FuncId) (caps : List AV)
 | ifc (t : TypeId) (x : AV)
 | agg (cs : List AV)
 | tup (vs : List AV)
instance : Inhabited AV := ⟨.any⟩
inductive AObj where
 | gone
 | cells (cs : List AV) (ro : List Nat)
 | arr (g sz : Nat) (rows : List (List AV))
 | map (es : List (ByteArray × AV))
instance : Inhabited AObj := ⟨.gone⟩
def AObj.gen : AObj → Nat
 | .arr g _ _ => g
 | _ => 0
def AObj.here : AObj → Bool
 | .gone => false
 | _ => true
structure Bd where
 b : Option Nat
 g : Nat
 n : Nat
 k : Nat
 sz : Nat
def Bd.zero : Bd := ⟨none, 0, 0, 0, 0⟩
def Bd.at (b : Nat) : Bd := ⟨some b, 0, 0, 0, 0⟩
abbrev Mem := Nat → Nat → Option Value
def LaOk (bd : Bd) (v : Value) : Prop :=
 match bd.b with
 | none => ∃ A, v = .slice A 0 0
 | some b => v = .slice (some ⟨b, 0, none⟩) bd.k bd.n
inductive RepV (M : Mem) : List Bd → AV → Value → Prop
 | any {μ v} : RepV M μ .any v
 | sc {μ v} : RepV M μ (.sc v) v
 | nil {μ A} : RepV M μ .nil (.slice A 0 0)
 | sl0 {μ sz A c} : RepV M μ (.sl sz [] false) (.slice A 0 c)
 | sl0f {μ sz A} : RepV M μ (.sl sz [] true) (.slice A 0 0)
 | sl {μ sz xs full b o c} (f : Nat → Nat → Value) (hne : xs ≠ []) (hc : xs.length ≤ c) (hf : full = true → c = xs.length)
   (hz : ∀ (i : Nat) (row : List AV), xs[i]? = some row → row.length = sz)
   (hm : ∀ (i : Nat) (row : List AV) (j : Nat) (a : AV), xs[i]? = some row → row[j]? = some a → M b (o + i * sz + j) = some (f i j))
   (hr : ∀ (i : Nat) (row : List AV) (j : Nat) (a : AV), xs[i]? = some row → row[j]? = some a → RepV M [] a (f i j)) :
   RepV M μ (.sl sz xs full) (.slice (some ⟨b, o, none⟩) xs.length c)
 | ip0 {μ off} : RepV M μ (.ip [] off) (.pointer none)
 | ip {μ cs off b o} (f : Nat → Value) (hne : cs ≠ []) (hm : ∀ (j : Nat) (a : AV), cs[j]? = some a → M b (o + j) = some (f j))
   (hr : ∀ (j : Nat) (a : AV), cs[j]? = some a → RepV M [] a (f j)) : RepV M μ (.ip cs off) (.pointer (some ⟨b, o + off, none⟩))
 | lp {μ l off b} (h : μ[l]? = some (Bd.at b)) : RepV M μ (.lp l off) (.pointer (some ⟨b, off, none⟩))
 | le {μ l g i off v bd} (h : μ[l]? = some bd) (hg : 0 < g) (hl : g ≤ bd.g)
   (hv : bd.g = g → ∃ b, bd.b = some b ∧ v = .pointer (some ⟨b, i * bd.sz + off, none⟩)) (h1 : v.oneCell' = true) : RepV M μ (.le l g i off) v
 | la {μ l g v bd} (h : μ[l]? = some bd) (hg : 0 < g) (hl : g ≤ bd.g) (hv : bd.g = g → LaOk bd v) (h1 : v.oneCell' = true) : RepV M μ (.la l g) v
 | mp {μ l b} (h : μ[l]? = some (Bd.at b)) : RepV M μ (.mp l) (.map (some b))
 | fn {μ f caps} {us : List Value} (hl : us.length = caps.length) (hr : ∀ (j : Nat) (a : AV) (u : Value), caps[j]? = some a → us[j]? = some u → RepV M μ a u) :
   RepV M μ (.fn f caps) (.func (.func f) #[] us.toArray)
 | ifc {μ t x u} (h : RepV M μ x u) : RepV M μ (.ifc t x) (.iface t u)
 | agg {μ cs} {us : List Value} (hl : us.length = cs.length) (hr : ∀ (j : Nat) (a : AV) (u : Value), cs[j]? = some a → us[j]? = some u → RepV M μ a u) :
   RepV M μ (.agg cs) (.agg us.toArray)
 | tup {μ cs} {us : List Value} (hl : us.length = cs.length) (hr : ∀ (j : Nat) (a : AV) (u : Value), cs[j]? = some a → us[j]? = some u → RepV M μ a u) :
   RepV M μ (.tup cs) (.tuple us.toArray)
def Mem.le (M M' : Mem) : Prop := ∀ b o v, M b o = some v → M' b o = some v
theorem Mem.le.refl (M : Mem) : M.le M := fun _ _ _ h => h
theorem Mem.le.trans {a b c : Mem} (h : a.le b) (k : b.le c) : a.le c := fun x y v hv => k x y v (h x y v hv)
def Bd.evo (a b : Bd) : Prop := a = Bd.zero ∨ b = a ∨ (0 < a.g ∧ a.g < b.g)
theorem Bd.evo.refl (a : Bd) : a.evo a := .inr (.inl rfl)
theorem Bd.evo.trans {a b c : Bd} (h : a.evo b) (k : b.evo c) : a.evo c := by
 rcases h with h | h | h
 ·exact .inl h
 ·subst h; exact k
 ·rcases k with k | k | k
  ·subst k; simp [Bd.zero] at h
  ·subst k; exact .inr (.inr h)
  ·exact .inr (.inr ⟨h.1, Nat.lt_trans h.2 k.2⟩)
def EvoTo (m : Nat) (μ μ' : List Bd) : Prop := ∀ (l : Nat) (bd : Bd), l < m → μ[l]? = some bd → ∃ bd', μ'[l]? = some bd' ∧ bd.evo bd'
def EvoAll (μ μ' : List Bd) : Prop := ∀ (l : Nat) (bd : Bd), μ[l]? = some bd → ∃ bd', μ'[l]? = some bd' ∧ bd.evo bd'
theorem EvoAll.refl (μ : List Bd) : EvoAll μ μ := fun _ bd h => ⟨bd, h, .refl _⟩
theorem EvoAll.trans {a b c : List Bd} (h : EvoAll a b) (k : EvoAll b c) : EvoAll a c := fun l bd e => by
 obtain ⟨b1, e1, v1⟩ := h l bd e
 obtain ⟨b2, e2, v2⟩ := k l b1 e1
 exact ⟨b2, e2, v1.trans v2⟩
theorem EvoAll.to {μ μ' : List Bd} (h : EvoAll μ μ') (m : Nat) : EvoTo m μ μ' := fun l bd _ e => h l bd e
theorem EvoTo.refl (m : Nat) (μ : List Bd) : EvoTo m μ μ := (EvoAll.refl μ).to m
theorem EvoTo.trans {m : Nat} {a b c : List Bd} (h : EvoTo m a b) (k : EvoTo m b c) : EvoTo m a c := fun l bd hl e => by
 obtain ⟨b1, e1, v1⟩ := h l bd hl e
 obtain ⟨b2, e2, v2⟩ := k l b1 hl e1
 exact ⟨b2, e2, v1.trans v2⟩
theorem LaOk.evo {bd bd' : Bd} {g : Nat} {v : Value} (hg : 0 < g) (hl : g ≤ bd.g) (hv : bd.g = g → LaOk bd v) (he : bd.evo bd') :
  g ≤ bd'.g ∧ (bd'.g = g → LaOk bd' v) := by
 rcases he with rfl | rfl | he
 ·simp [Bd.zero] at hl; omega
 ·exact ⟨hl, hv⟩
 ·exact ⟨by omega, fun h => by omega⟩
theorem RepV.mono {M M' : Mem} {μ μ' : List Bd} {a : AV} {v : Value} (hM : M.le M') (hE : EvoAll μ μ') (h : RepV M μ a v) : RepV M' μ' a v := by
 induction h generalizing μ' with
 | any => exact .any
 | sc => exact .sc
 | nil => exact .nil
 | sl0 => exact .sl0
 | sl0f => exact .sl0f
 | sl f hne hc hf hz hm hr ih => exact .sl f hne hc hf hz (fun i row j a h1 h2 => hM _ _ _ (hm i row j a h1 h2)) (fun i row j a h1 h2 => ih i row j a h1 h2 (EvoAll.refl _))
 | ip0 => exact .ip0
 | ip f hne hm hr ih => exact .ip f hne (fun j a h => hM _ _ _ (hm j a h)) (fun j a h => ih j a h (EvoAll.refl _))
 | lp h =>
  obtain ⟨bd', e, v⟩ := hE _ _ h
  rcases v with v | v | v
  ·simp [Bd.zero, Bd.at] at v
  ·subst v; exact .lp e
  ·simp [Bd.at] at v
 | mp h =>
  obtain ⟨bd', e, v⟩ := hE _ _ h
  rcases v with v | v | v
  ·simp [Bd.zero, Bd.at] at v
  ·subst v; exact .mp e
  ·simp [Bd.at] at v
 | le h hg hl hv h1 =>
  obtain ⟨bd', e, he⟩ := hE _ _ h
  rcases he with rfl | rfl | he
  ·simp [Bd.zero] at hl; omega
  ·exact .le e hg hl hv h1
  ·exact .le e hg (by omega) (fun h => by omega) h1
 | la h hg hl hv h1 =>
  obtain ⟨bd', e, he⟩ := hE _ _ h
  obtain ⟨h3, h2⟩ := LaOk.evo hg hl hv he
  exact .la e hg h3 h2 h1
 | fn hl hr ih => exact .fn hl (fun j a u h1 h2 => ih j a u h1 h2 hE)
 | ifc h ih => exact .ifc (ih hE)
 | agg hl hr ih => exact .agg hl (fun j a u e1 e2 => ih j a u e1 e2 hE)
 | tup hl hr ih => exact .tup hl (fun j a u h1 h2 => ih j a u h1 h2 hE)
theorem RepV.data {M : Mem} {μ : List Bd} {a : AV} {v : Value} (h : RepV M [] a v) : RepV M μ a v :=
 h.mono (Mem.le.refl M) (fun l bd e => by simp at e)
def RepO (M : Mem) (μ : List Bd) (w : World) : AObj → Bd → Prop
 | .gone, _ => True
 | .cells cs ro, bd => ∃ b c t, bd = Bd.at b ∧ w.heap[b]? = some (.cells c t (0, 0)) ∧ c.size = cs.length ∧
   (∀ (j : Nat) (a : AV), cs[j]? = some a → ∃ v, c[j]? = some v ∧ v.oneCell' = true ∧ RepV M μ a v) ∧ (∀ o, o ∉ ro → M b o = none)
 | .arr g sz rows, bd => 0 < g ∧ bd.g = g ∧ bd.sz = sz ∧ bd.k = rows.length ∧
   match bd.b with
   | none => rows = [] ∧ bd.n = 0
   | some b => ∃ c t, w.heap[b]? = some (.cells c t (0, 0)) ∧ c.size = bd.n * sz ∧ rows.length ≤ bd.n ∧
     (∀ (i : Nat) (row : List AV), rows[i]? = some row → row.length = sz) ∧
     (∀ (i : Nat) (row : List AV) (j : Nat) (a : AV), rows[i]? = some row → row[j]? = some a → ∃ v, c[i * sz + j]? = some v ∧ v.oneCell' = true ∧ RepV M [] a v) ∧
     (∀ o, M b o = none)
 | .map es, bd => ∃ b ms k, bd = Bd.at b ∧ w.heap[b]? = some (.map ms k) ∧ ms.size = es.length ∧
   (∀ (j : Nat) (key : ByteArray) (a : AV), es[j]? = some (key, a) → ∃ e, ms[j]? = some e ∧ e.key = .string key ∧ RepV M [] a e.val) ∧ (∀ o, M b o = none)
def Own (μ : List Bd) (σ : List AObj) (b : Nat) : Prop := ∃ (l : Nat) (o : AObj) (bd : Bd), σ[l]? = some o ∧ o.here = true ∧ μ[l]? = some bd ∧ bd.b = some b
structure StoreOk (M : Mem) (μ : List Bd) (σ : List AObj) (w : World) : Prop where
 len : μ.length = σ.length
 rep : ∀ (l : Nat) (o : AObj) (bd : Bd), σ[l]? = some o → μ[l]? = some bd → RepO M μ w o bd
 dead : ∀ (l : Nat) (o : AObj) (bd : Bd), σ[l]? = some o → μ[l]? = some bd → o.here = false → bd = Bd.zero
 apart : ∀ (i j : Nat) (x y : AObj) (p q : Bd) (b : Nat), i ≠ j → σ[i]? = some x → σ[j]? = some y → x.here = true → y.here = true → μ[i]? = some p → μ[j]? = some q →
  p.b = some b → q.b ≠ some b
 mem : ∀ b o v, M b o = some v → w.cell? ⟨b, o, none⟩ = some v ∧ v.oneCell' = true
structure Stp (M : Mem) (μ : List Bd) (σ : List AObj) (w : World) (M' : Mem) (μ' : List Bd) (σ' : List AObj) (w' : World) : Prop where
 os : w'.os = w.os
 tape : w'.tape = w.tape
 output : w'.output = w.output
 size : w.heap.size ≤ w'.heap.size
 keep : ∀ b, b < w.heap.size → ¬ Own μ σ b → w'.heap[b]? = w.heap[b]?
 mono : M.le M'
 new : ∀ b o v, M' b o = some v → M b o = none → w.heap.size ≤ b ∨ Own μ σ b
 own : ∀ b, Own μ' σ' b → w.heap.size ≤ b ∨ Own μ σ b
theorem Stp.refl (M : Mem) (μ : List Bd) (σ : List AObj) (w : World) : Stp M μ σ w M μ σ w :=
 ⟨rfl, rfl, rfl, Nat.le_refl _, fun _ _ _ => rfl, Mem.le.refl M, fun b o v h k => by simp [h] at k, fun _ h => .inr h⟩
theorem Stp.trans {M M1 M2 : Mem} {μ μ1 μ2 : List Bd} {σ σ1 σ2 : List AObj} {w w1 w2 : World}
  (h : Stp M μ σ w M1 μ1 σ1 w1) (k : Stp M1 μ1 σ1 w1 M2 μ2 σ2 w2) : Stp M μ σ w M2 μ2 σ2 w2 where
 os := k.os.trans h.os
 tape := k.tape.trans h.tape
 output := k.output.trans h.output
 size := Nat.le_trans h.size k.size
 keep := fun b hb ho => by
  rw [k.keep b (Nat.lt_of_lt_of_le hb h.size) (fun o => ?_), h.keep b hb ho]
  rcases h.own b o with h1 | h1
  ·omega
  ·exact ho h1
 mono := h.mono.trans k.mono
 new := fun b o v hv hn => by
  cases hm : M1 b o with
  | none =>
   rcases k.new b o v hv hm with h1 | h1
   ·exact .inl (Nat.le_trans h.size h1)
   ·exact h.own b h1
  | some u => exact h.new b o u hm hn
 own := fun b ho => by
  rcases k.own b ho with h1 | h1
  ·exact .inl (Nat.le_trans h.size h1)
  ·exact h.own b h1
theorem Stp.drew (M : Mem) (μ : List Bd) (σ : List AObj) (w : World) (n : Nat) : Stp M μ σ w M μ σ { w with drawn := n } :=
 ⟨rfl, rfl, rfl, Nat.le_refl _, fun _ _ _ => rfl, Mem.le.refl M, fun b o v h k => by simp [h] at k, fun _ h => .inr h⟩
theorem StoreOk.drew {M : Mem} {μ : List Bd} {σ : List AObj} {w : World} (h : StoreOk M μ σ w) (n : Nat) : StoreOk M μ σ { w with drawn := n } :=
 ⟨h.len, fun l o bd h1 h2 => by have := h.rep l o bd h1 h2; cases o <;> exact this, h.dead, h.apart, h.mem⟩
theorem RepO.mono {M M' : Mem} {μ μ' : List Bd} {w w' : World} {o : AObj} {bd : Bd} (h : RepO M μ w o bd) (hM : M.le M') (hE : EvoAll μ μ')
  (hb : ∀ b, bd.b = some b → w'.heap[b]? = w.heap[b]? ∧ ∀ x, M b x = none → M' b x = none) : RepO M' μ' w' o bd := by
 cases o with
 | gone => trivial
 | cells cs ro =>
  obtain ⟨b, c, t, rfl, h2, h3, h4, h5⟩ := h
  obtain ⟨k1, k2⟩ := hb b rfl
  refine ⟨b, c, t, rfl, k1.trans h2, h3, fun j a e => ?_, fun x hx => k2 x (h5 x hx)⟩
  obtain ⟨v, e1, e0, e2⟩ := h4 j a e
  exact ⟨v, e1, e0, e2.mono hM hE⟩
 | arr g sz rows =>
  obtain ⟨h1, h2, h3, h4, h5⟩ := h
  refine ⟨h1, h2, h3, h4, ?_⟩
  split
  ·rename_i e; rw [e] at h5; exact h5
  ·rename_i b e
   rw [e] at h5
   obtain ⟨c, t, g1, g2, g3, g4, g5, g6⟩ := h5
   obtain ⟨k1, k2⟩ := hb b e
   refine ⟨c, t, k1.trans g1, g2, g3, g4, fun i row j a e1 e2 => ?_, fun x => k2 x (g6 x)⟩
   obtain ⟨v, e3, e0, e4⟩ := g5 i row j a e1 e2
   exact ⟨v, e3, e0, e4.mono hM (EvoAll.refl _)⟩
 | map es =>
  obtain ⟨b, ms, k, rfl, h2, h3, h4, h5⟩ := h
  obtain ⟨k1, k2⟩ := hb b rfl
  refine ⟨b, ms, k, rfl, k1.trans h2, h3, fun j key a e => ?_, fun x => k2 x (h5 x)⟩
  obtain ⟨x, e1, e2, e3⟩ := h4 j key a e
  exact ⟨x, e1, e2, e3.mono hM (EvoAll.refl _)⟩
theorem RepO.gen {M : Mem} {μ : List Bd} {w : World} {o : AObj} {bd : Bd} (h : RepO M μ w o bd) (hd : o.here = false → bd = Bd.zero) :
  bd.g = o.gen ∧ (∀ g sz rows, o = .arr g sz rows → 0 < g) := by
 cases o with
 | gone => have := hd rfl; subst this; exact ⟨rfl, by simp⟩
 | cells cs ro => obtain ⟨b, c, t, rfl, _⟩ := h; exact ⟨rfl, by simp⟩
 | arr g sz rows => exact ⟨h.2.1, by intro _ _ _ e; cases e; exact h.1⟩
 | map es => obtain ⟨b, ms, k, rfl, _⟩ := h; exact ⟨rfl, by simp⟩
theorem StoreOk.update {M M' : Mem} {μ : List Bd} {σ : List AObj} {w w' : World} (h : StoreOk M μ σ w) {l : Nat} (hl : l < σ.length) {o' : AObj} {bd' : Bd}
  (hM : M.le M') (hE : ∀ bd, μ[l]? = some bd → bd.evo bd')
  (hk : ∀ (b : Nat), b < w.heap.size → (∃ (i : Nat) (x : AObj) (p : Bd), i ≠ l ∧ σ[i]? = some x ∧ x.here = true ∧ μ[i]? = some p ∧ p.b = some b) →
   w'.heap[b]? = w.heap[b]? ∧ ∀ x, M b x = none → M' b x = none)
  (hlt : ∀ (i : Nat) (x : AObj) (p : Bd) (b : Nat), σ[i]? = some x → x.here = true → μ[i]? = some p → p.b = some b → b < w.heap.size)
  (hr : RepO M' (μ.set l bd') w' o' bd') (hd : o'.here = false → bd' = Bd.zero)
  (hf : ∀ b, bd'.b = some b → o'.here = true → ∀ (i : Nat) (x : AObj) (p : Bd), i ≠ l → σ[i]? = some x → x.here = true → μ[i]? = some p → p.b ≠ some b)
  (hm : ∀ b o v, M' b o = some v → w'.cell? ⟨b, o, none⟩ = some v ∧ v.oneCell' = true) : StoreOk M' (μ.set l bd') (σ.set l o') w' where
 len := by simp [h.len]
 rep := fun i x p e1 e2 => by
  by_cases hi : i = l
  ·subst hi
   rw [List.getElem?_set_self hl] at e1
   rw [List.getElem?_set_self (by rw [h.len]; exact hl)] at e2
   cases e1; cases e2
   exact hr
  ·rw [List.getElem?_set_ne (Ne.symm hi)] at e1 e2
   by_cases hx : x.here = true
   ·refine (h.rep i x p e1 e2).mono hM (fun i2 q e3 => ?_) (fun b e => hk b (hlt i x p b e1 hx e2 e) ⟨i, x, p, hi, e1, hx, e2, e⟩)
    by_cases h2 : i2 = l
    ·subst h2
     exact ⟨bd', List.getElem?_set_self (by rw [h.len]; exact hl), hE q e3⟩
    ·exact ⟨q, by rw [List.getElem?_set_ne (Ne.symm h2)]; exact e3, .refl q⟩
   ·cases x <;> first | trivial | exact absurd rfl hx
 dead := fun i x p e1 e2 => by
  by_cases hi : i = l
  ·subst hi
   rw [List.getElem?_set_self hl] at e1
   rw [List.getElem?_set_self (by rw [h.len]; exact hl)] at e2
   cases e1; cases e2
   exact hd
  ·rw [List.getElem?_set_ne (Ne.symm hi)] at e1 e2
   exact h.dead i x p e1 e2
 apart := fun i j x y p q b hij e1 e2 hx hy e3 e4 hp => by
  by_cases hi : i = l
  ·subst hi
   rw [List.getElem?_set_self hl] at e1
   rw [List.getElem?_set_self (by rw [h.len]; exact hl)] at e3
   rw [List.getElem?_set_ne hij] at e2 e4
   cases e1; cases e3
   exact hf b hp hx j y q (Ne.symm hij) e2 hy e4
  ·rw [List.getElem?_set_ne (Ne.symm hi)] at e1 e3
   by_cases hj : j = l
   ·subst hj
    rw [List.getElem?_set_self hl] at e2
    rw [List.getElem?_set_self (by rw [h.len]; exact hl)] at e4
    cases e2; cases e4
    intro hq
    exact hf b hq hy i x p hi e1 hx e3 hp
   ·rw [List.getElem?_set_ne (Ne.symm hj)] at e2 e4
    exact h.apart i j x y p q b hij e1 e2 hx hy e3 e4 hp
 mem := hm
theorem StoreOk.lt {M : Mem} {μ : List Bd} {σ : List AObj} {w : World} (h : StoreOk M μ σ w) {i : Nat} {x : AObj} {p : Bd} {b : Nat}
  (e1 : σ[i]? = some x) (hx : x.here = true) (e2 : μ[i]? = some p) (e3 : p.b = some b) : b < w.heap.size := by
 have hr := h.rep i x p e1 e2
 have key : ∀ o : Obj, w.heap[b]? = some o → b < w.heap.size := fun o ho => (Array.getElem?_eq_some_iff.1 ho).1
 cases x with
 | gone => cases hx
 | cells cs ro => obtain ⟨b', c, t, rfl, h2, _⟩ := hr; cases e3; exact key _ h2
 | arr g sz rows =>
  obtain ⟨_, _, _, _, h5⟩ := hr
  rw [e3] at h5
  obtain ⟨c, t, h6, _⟩ := h5
  exact key _ h6
 | map es => obtain ⟨b', ms, k, rfl, h2, _⟩ := hr; cases e3; exact key _ h2
theorem EvoAll.set {μ : List Bd} {l : Nat} {bd' : Bd} (hE : ∀ bd, μ[l]? = some bd → bd.evo bd') : EvoAll μ (μ.set l bd') := fun i q e => by
 by_cases h2 : i = l
 ·subst h2
  exact ⟨bd', List.getElem?_set_self (List.getElem?_eq_some_iff.1 e).1, hE q e⟩
 ·exact ⟨q, by rw [List.getElem?_set_ne (Ne.symm h2)]; exact e, .refl q⟩
theorem StoreOk.pad {M : Mem} {μ : List Bd} {σ : List AObj} {w : World} (h : StoreOk M μ σ w) (n : Nat) :
  StoreOk M (μ ++ List.replicate n Bd.zero) (σ ++ List.replicate n .gone) w ∧ EvoAll μ (μ ++ List.replicate n Bd.zero) ∧
   Stp M μ σ w M (μ ++ List.replicate n Bd.zero) (σ ++ List.replicate n .gone) w := by
 have hE : EvoAll μ (μ ++ List.replicate n Bd.zero) := fun l bd e => ⟨bd, by
  rw [List.getElem?_append_left (List.getElem?_eq_some_iff.1 e).1]; exact e, .refl bd⟩
 have key : ∀ (i : Nat) (x : AObj) (p : Bd), (σ ++ List.replicate n AObj.gone)[i]? = some x → (μ ++ List.replicate n Bd.zero)[i]? = some p →
   (σ[i]? = some x ∧ μ[i]? = some p) ∨ (x = .gone ∧ p = Bd.zero) := fun i x p e1 e2 => by
  by_cases hi : i < σ.length
  ·rw [List.getElem?_append_left hi] at e1
   rw [List.getElem?_append_left (by rw [h.len]; exact hi)] at e2
   exact .inl ⟨e1, e2⟩
  ·rw [List.getElem?_append_right (by omega)] at e1
   rw [List.getElem?_append_right (by rw [h.len]; omega)] at e2
   exact .inr ⟨List.eq_of_mem_replicate (List.mem_of_getElem? e1), List.eq_of_mem_replicate (List.mem_of_getElem? e2)⟩
 refine ⟨⟨by simp [h.len], fun i x p e1 e2 => ?_, fun i x p e1 e2 hx => ?_, fun i j x y p q b hij e1 e2 hx hy e3 e4 hp => ?_, h.mem⟩, hE, ?_⟩
 ·rcases key i x p e1 e2 with ⟨k1, k2⟩ | ⟨rfl, _⟩
  ·exact (h.rep i x p k1 k2).mono (.refl M) hE (fun b _ => ⟨rfl, fun _ h => h⟩)
  ·trivial
 ·rcases key i x p e1 e2 with ⟨k1, k2⟩ | ⟨_, rfl⟩
  ·exact h.dead i x p k1 k2 hx
  ·rfl
 ·rcases key i x p e1 e3 with ⟨k1, k2⟩ | ⟨rfl, _⟩
  ·rcases key j y q e2 e4 with ⟨k3, k4⟩ | ⟨rfl, _⟩
   ·exact h.apart i j x y p q b hij k1 k3 hx hy k2 k4 hp
   ·cases hy
  ·cases hx
 ·refine ⟨rfl, rfl, rfl, Nat.le_refl _, fun _ _ _ => rfl, .refl M, fun b o v h k => by simp [h] at k, fun b ho => .inr ?_⟩
  obtain ⟨i, x, p, e1, hx, e2, e3⟩ := ho
  rcases key i x p e1 e2 with ⟨k1, k2⟩ | ⟨rfl, _⟩
  ·exact ⟨i, x, p, k1, hx, k2, e3⟩
  ·cases hx
end Go.Ae
namespace Go.Ae
structure ASt where
 tm : Nat → AV
 st : List AObj
def lookT : List (Nat × AV) → Nat → AV
 | [], _ => .any
 | (k, v) :: r, t => bif Nat.beq t k then v else lookT r t
def putT (tm : Nat → AV) (d : Nat) (v : AV) : Nat → AV := fun t => bif Nat.beq t d then v else tm t
structure Rel (N : Nat) (M : Mem) (μ : List Bd) (s : ASt) (a : Act) (w : World) : Prop where
 size : a.tmps.size = N
 defers : a.defers = []
 tm : ∀ t, RepV M μ (s.tm t) (a.tmps.getD t undef)
 st : StoreOk M μ s.st w
def Weak (N m : Nat) (s s2 : ASt) : Prop := ∀ M μ a w, Rel N M μ s a w →
 ∃ M2 μ2, Rel N M2 μ2 s2 a w ∧ Stp M μ s.st w M2 μ2 s2.st w ∧ EvoTo m μ μ2
theorem Weak.refl (N m : Nat) (s : ASt) : Weak N m s s := fun M μ _ w h => ⟨M, μ, h, .refl M μ s.st w, .refl m μ⟩
theorem Weak.trans {N m : Nat} {s s1 s2 : ASt} (h : Weak N m s s1) (k : Weak N m s1 s2) : Weak N m s s2 := fun M μ a w hr => by
 obtain ⟨M1, μ1, r1, p1, e1⟩ := h M μ a w hr
 obtain ⟨M2, μ2, r2, p2, e2⟩ := k M1 μ1 a w r1
 exact ⟨M2, μ2, r2, p1.trans p2, e1.trans e2⟩
def dataB : Nat → AV → Bool
 | 0, _ => false
 | n + 1, a => match a with
  | .lp .. => false
  | .le .. => false
  | .la .. => false
  | .mp _ => false
  | .fn _ caps => caps.all (dataB n)
  | .ifc _ x => dataB n x
  | .agg cs => cs.all (dataB n)
  | .tup cs => cs.all (dataB n)
  | _ => true
theorem RepV.ofData {M : Mem} {μ : List Bd} {a : AV} {v : Value} (h : RepV M μ a v) : ∀ n, dataB n a = true → RepV M [] a v := by
 induction h with
 | any => exact fun _ _ => .any
 | sc => exact fun _ _ => .sc
 | nil => exact fun _ _ => .nil
 | sl0 => exact fun _ _ => .sl0
 | sl0f => exact fun _ _ => .sl0f
 | sl f hne hc hf hz hm hr _ => exact fun _ _ => .sl f hne hc hf hz hm hr
 | ip0 => exact fun _ _ => .ip0
 | ip f hne hm hr _ => exact fun _ _ => .ip f hne hm hr
 | lp => intro n h; cases n <;> simp [dataB] at h
 | le => intro n h; cases n <;> simp [dataB] at h
 | la => intro n h; cases n <;> simp [dataB] at h
 | mp => intro n h; cases n <;> simp [dataB] at h
 | fn hl hr ih =>
  intro n h
  cases n with
  | zero => simp [dataB] at h
  | succ n =>
   simp only [dataB, List.all_eq_true] at h
   exact .fn hl (fun j a u h1 h2 => ih j a u h1 h2 n (h a (List.mem_of_getElem? h1)))
 | ifc hr ih =>
  intro n h
  cases n with
  | zero => simp [dataB] at h
  | succ n => simp only [dataB] at h; exact .ifc (ih n h)
 | agg hl hr ih =>
  intro n h
  cases n with
  | zero => simp [dataB] at h
  | succ n =>
   simp only [dataB, List.all_eq_true] at h
   exact .agg hl (fun j a u e1 e2 => ih j a u e1 e2 n (h a (List.mem_of_getElem? e1)))
 | tup hl hr ih =>
  intro n h
  cases n with
  | zero => simp [dataB] at h
  | succ n =>
   simp only [dataB, List.all_eq_true] at h
   exact .tup hl (fun j a u e1 e2 => ih j a u e1 e2 n (h a (List.mem_of_getElem? e1)))
def winV (n : Nat) (cs : List AV) (off : Nat) : AV := bif Nat.beq off 0 then .ip cs 0 else match (cs.drop off).take n with
 | [] => .any
 | c :: r => .ip (c :: r) 0
def tidyL : List (Option Nat) → List AV → List AV
 | [], cs => cs
 | _ :: _, [] => []
 | some k :: ks, .nil :: cs => .sl k [] false :: tidyL ks cs
 | some _ :: ks, .sl s xs _ :: cs => .sl s xs false :: tidyL ks cs
 | some k :: ks, .ip as off :: cs => winV k as off :: tidyL ks cs
 | _ :: ks, c :: cs => c :: tidyL ks cs
def tidyV (ks : List (Option Nat)) : AV → AV
 | .agg cs => .agg (tidyL ks cs)
 | .nil => match ks with
  | some k :: _ => .sl k [] false
  | _ => .nil
 | .sl s xs f => match ks with
  | some _ :: _ => .sl s xs false
  | _ => .sl s xs f
 | .ip cs off => match ks with
  | some n :: _ => winV n cs off
  | _ => .ip cs off
 | a => a
theorem RepV.nilSl {M : Mem} {μ : List Bd} {v : Value} (h : RepV M μ .nil v) (k : Nat) : RepV M μ (.sl k [] false) v := by
 cases h; exact .sl0
theorem RepV.unfull {M : Mem} {μ : List Bd} {s : Nat} {xs : List (List AV)} {f : Bool} {v : Value} (h : RepV M μ (.sl s xs f) v) : RepV M μ (.sl s xs false) v := by
 cases h with
 | sl0 => exact .sl0
 | sl0f => exact .sl0
 | sl f hne hc hf hz hm hr => exact .sl f hne hc (by simp) hz hm hr
theorem RepV.win {M : Mem} {μ : List Bd} {cs : List AV} {off : Nat} {v : Value} (h : RepV M μ (.ip cs off) v) (n : Nat) : RepV M μ (winV n cs off) v := by
 unfold winV
 cases hb : Nat.beq off 0 with
 | true => rw [Nat.eq_of_beq_eq_true hb] at h; exact h
 | false =>
  simp only [cond_false]
  split
  ·exact .any
  rename_i c r hcr
  rw [← hcr]
  cases h with
  | ip0 => simp at hcr
  | @ip _ _ _ b o f hne hm hr =>
   refine .ip (b := b) (o := o + off) (off := 0) (fun j => f (off + j)) (by rw [hcr]; simp) (fun j a e => ?_) (fun j a e => ?_)
   ·have : cs[off + j]? = some a := by
     rw [List.getElem?_take] at e
     split at e
     ·rwa [List.getElem?_drop] at e
     ·cases e
    rw [Nat.add_assoc]
    exact hm _ a this
   ·have : cs[off + j]? = some a := by
     rw [List.getElem?_take] at e
     split at e
     ·rwa [List.getElem?_drop] at e
     ·cases e
    exact hr _ a this
theorem tidyL_length : ∀ (ks : List (Option Nat)) (cs : List AV), (tidyL ks cs).length = cs.length := by
 intro ks cs
 induction ks, cs using tidyL.induct <;> simp_all [tidyL]
theorem tidyL_rep {M : Mem} {μ : List Bd} : ∀ (ks : List (Option Nat)) (cs : List AV) (us : List Value),
  (∀ (j : Nat) (a : AV) (u : Value), cs[j]? = some a → us[j]? = some u → RepV M μ a u) →
  ∀ (j : Nat) (a : AV) (u : Value), (tidyL ks cs)[j]? = some a → us[j]? = some u → RepV M μ a u := by
 intro ks cs
 induction ks, cs using tidyL.induct with
 | case1 cs => intro us h; simpa [tidyL] using h
 | case2 => intro us h j a u h1; simp [tidyL] at h1
 | case3 k ks cs ih =>
  intro us h j a u h1 h2
  cases j with
  | zero => simp [tidyL] at h1; subst h1; exact (h 0 _ u (by simp) h2).nilSl k
  | succ j =>
   cases us with
   | nil => simp at h2
   | cons x us => exact ih us (fun j a u e1 e2 => h (j + 1) a u (by simpa using e1) (by simpa using e2)) j a u (by simpa [tidyL] using h1) (by simpa using h2)
 | case4 k ks s xs f cs ih =>
  intro us h j a u h1 h2
  cases j with
  | zero => simp [tidyL] at h1; subst h1; exact (h 0 (.sl s xs f) u (by simp) h2).unfull
  | succ j =>
   cases us with
   | nil => simp at h2
   | cons x us => exact ih us (fun j a u e1 e2 => h (j + 1) a u (by simpa using e1) (by simpa using e2)) j a u (by simpa [tidyL] using h1) (by simpa using h2)
 | case5 k ks as off cs ih =>
  intro us h j a u h1 h2
  cases j with
  | zero => simp [tidyL] at h1; subst h1; exact (h 0 (.ip as off) u (by simp) h2).win k
  | succ j =>
   cases us with
   | nil => simp at h2
   | cons x us => exact ih us (fun j a u e1 e2 => h (j + 1) a u (by simpa using e1) (by simpa using e2)) j a u (by simpa [tidyL] using h1) (by simpa using h2)
 | case6 o ks c cs h3 h4 h5 ih =>
  intro us h j a u h1 h2
  rw [tidyL] at h1
  ·cases j with
   | zero => simp at h1; subst h1; exact h 0 _ u (by simp) h2
   | succ j =>
    cases us with
    | nil => simp at h2
    | cons x us => exact ih us (fun j a u e1 e2 => h (j + 1) a u (by simpa using e1) (by simpa using e2)) j a u (by simpa using h1) (by simpa using h2)
  ·exact h3
  ·exact h4
  ·exact h5
theorem RepV.tidy {M : Mem} {μ : List Bd} {a : AV} {v : Value} (ks : List (Option Nat)) (h : RepV M μ a v) : RepV M μ (tidyV ks a) v := by
 cases a with
 | agg cs =>
  cases h with
  | agg hl hr => exact .agg (by rw [tidyL_length]; exact hl) (tidyL_rep ks cs _ hr)
 | nil =>
  simp only [tidyV]
  split
  ·exact h.nilSl _
  ·exact h
 | sl s xs f =>
  simp only [tidyV]
  split
  ·exact h.unfull
  ·exact h
 | ip cs off =>
  simp only [tidyV]
  split
  ·exact h.win _
  ·exact h
 | _ => exact h
abbrev Ren := Nat → Option (Nat × Nat × Nat)
def renV (ρ : Ren) : Nat → AV → AV
 | 0, _ => .any
 | n + 1, a => match a with
  | .lp l o => match ρ l with
   | some (l', _, _) => .lp l' o
   | none => .any
  | .le l g i o => match ρ l with
   | some (l', c, nw) => bif Nat.beq g c then .le l' nw i o else .any
   | none => .any
  | .la l g => match ρ l with
   | some (l', c, nw) => bif Nat.beq g c then .la l' nw else .any
   | none => .any
  | .mp l => match ρ l with
   | some (l', _, _) => .mp l'
   | none => .any
  | .fn f caps => .fn f (caps.map (renV ρ n))
  | .ifc t x => .ifc t (renV ρ n x)
  | .agg cs => .agg (cs.map (renV ρ n))
  | .tup cs => .tup (cs.map (renV ρ n))
  | .any => .any
  | .sc v => .sc v
  | .nil => .nil
  | .sl s xs f => .sl s xs f
  | .ip cs o => .ip cs o
def Bd.moved (a b : Bd) (c nw : Nat) : Prop := b.b = a.b ∧ b.n = a.n ∧ b.k = a.k ∧ b.sz = a.sz ∧ (a.g = 0 → b.g = 0) ∧ (0 < a.g → a.g = c ∧ b.g = nw ∧ 0 < nw)
def RenOk (ρ : Ren) (μ μ' : List Bd) : Prop := ∀ l l' c nw bd, ρ l = some (l', c, nw) → μ[l]? = some bd → ∃ bd', μ'[l']? = some bd' ∧ bd.moved bd' c nw
theorem Bd.moved_at {b : Nat} {x : Bd} {c nw : Nat} (h : (Bd.at b).moved x c nw) : x = Bd.at b := by
 obtain ⟨h1, h2, h3, h4, h5, _⟩ := h
 cases x; simp_all [Bd.at]
theorem RepV.ren {M : Mem} {μ μ' : List Bd} {ρ : Ren} (hρ : RenOk ρ μ μ') {a : AV} {v : Value} (h : RepV M μ a v) : ∀ n, RepV M μ' (renV ρ n a) v := by
 induction h generalizing μ' ρ with
 | any => intro n; cases n <;> exact .any
 | sc => intro n; cases n <;> first | exact .sc | exact .any
 | nil => intro n; cases n <;> first | exact .nil | exact .any
 | sl0 => intro n; cases n <;> first | exact .sl0 | exact .any
 | sl0f => intro n; cases n <;> first | exact .sl0f | exact .any
 | sl f hne hc hf hz hm hr _ => intro n; cases n <;> first | exact .sl f hne hc hf hz hm hr | exact .any
 | ip0 => intro n; cases n <;> first | exact .ip0 | exact .any
 | ip f hne hm hr _ => intro n; cases n <;> first | exact .ip f hne hm hr | exact .any
 | @lp μ l off b h =>
  intro n
  cases n with
  | zero => exact .any
  | succ n =>
   simp only [renV]
   split
   ·rename_i l' c nw e
    obtain ⟨bd', e', hm⟩ := hρ _ _ _ _ _ e h
    exact .lp (by rw [e', Bd.moved_at hm])
   ·exact .any
 | @mp μ l b h =>
  intro n
  cases n with
  | zero => exact .any
  | succ n =>
   simp only [renV]
   split
   ·rename_i l' c nw e
    obtain ⟨bd', e', hm⟩ := hρ _ _ _ _ _ e h
    exact .mp (by rw [e', Bd.moved_at hm])
   ·exact .any
 | @le μ l g i off v bd h hg hl hv h1c =>
  intro n
  cases n with
  | zero => exact .any
  | succ n =>
   simp only [renV]
   split
   ·rename_i l' c nw e
    obtain ⟨bd', e', h1, h2, h3, h4, h5, h6⟩ := hρ _ _ _ _ _ e h
    obtain ⟨h7, h8, h9⟩ := h6 (by omega)
    cases hb : Nat.beq g c with
    | false => exact .any
    | true =>
     have := Nat.eq_of_beq_eq_true hb
     subst this
     refine .le e' h9 (by omega) (fun _ => ?_) h1c
     obtain ⟨b, e1, e2⟩ := hv h7
     exact ⟨b, by rw [h1, e1], by rw [h4]; exact e2⟩
   ·exact .any
 | @la μ l g v bd h hg hl hv h1c =>
  intro n
  cases n with
  | zero => exact .any
  | succ n =>
   simp only [renV]
   split
   ·rename_i l' c nw e
    obtain ⟨bd', e', h1, h2, h3, h4, h5, h6⟩ := hρ _ _ _ _ _ e h
    obtain ⟨h7, h8, h9⟩ := h6 (by omega)
    cases hb : Nat.beq g c with
    | false => exact .any
    | true =>
     have := Nat.eq_of_beq_eq_true hb
     subst this
     refine .la e' h9 (by omega) (fun _ => ?_) h1c
     have := hv h7
     unfold LaOk at *
     rw [h1, h2, h3]
     exact this
   ·exact .any
 | fn hl hr ih =>
  intro n
  cases n with
  | zero => exact .any
  | succ n =>
   refine .fn (by simpa using hl) fun j a u h1 h2 => ?_
   rw [List.getElem?_map] at h1
   obtain ⟨a0, e0, rfl⟩ := Option.map_eq_some_iff.1 h1
   exact ih j a0 u e0 h2 hρ n
 | ifc h ih =>
  intro n
  cases n with
  | zero => exact .any
  | succ n => exact .ifc (ih hρ n)
 | agg hl hr ih =>
  intro n
  cases n with
  | zero => exact .any
  | succ n =>
   refine .agg (by simpa using hl) (fun j a u e1 e2 => ?_)
   rw [List.getElem?_map] at e1
   obtain ⟨a0, e0, rfl⟩ := Option.map_eq_some_iff.1 e1
   exact ih j a0 u e0 e2 hρ n
 | tup hl hr ih =>
  intro n
  cases n with
  | zero => exact .any
  | succ n =>
   refine .tup (by simpa using hl) fun j a u e1 e2 => ?_
   rw [List.getElem?_map] at e1
   obtain ⟨a0, e0, rfl⟩ := Option.map_eq_some_iff.1 e1
   exact ih j a0 u e0 e2 hρ n
def renO (ρ : Ren) (nw : Nat) : AObj → AObj
 | .gone => .gone
 | .cells cs ro => .cells (cs.map (renV ρ 6)) ro
 | .arr _ sz rows => .arr nw sz rows
 | .map es => .map es
theorem renO_here (ρ : Ren) (nw : Nat) (o : AObj) : (renO ρ nw o).here = o.here := by cases o <;> rfl
theorem RepO.ren {M : Mem} {μ μ' : List Bd} {ρ : Ren} (hρ : RenOk ρ μ μ') {w : World} {o : AObj} {bd bd' : Bd} {nw : Nat} (h : RepO M μ w o bd)
  (hm : bd.moved bd' o.gen nw) : RepO M μ' w (renO ρ nw o) bd' := by
 cases o with
 | gone => trivial
 | cells cs ro =>
  obtain ⟨b, c, t, rfl, h2, h3, h4, h5⟩ := h
  refine ⟨b, c, t, Bd.moved_at hm, h2, by simpa using h3, fun j a e => ?_, h5⟩
  rw [List.getElem?_map] at e
  obtain ⟨a0, e0, rfl⟩ := Option.map_eq_some_iff.1 e
  obtain ⟨v, e1, e3, e2⟩ := h4 j a0 e0
  exact ⟨v, e1, e3, e2.ren hρ _⟩
 | arr g sz rows =>
  obtain ⟨h1, h2, h3, h4, h5⟩ := h
  obtain ⟨m1, m2, m3, m4, m5, m6⟩ := hm
  obtain ⟨m7, m8, m9⟩ := m6 (by omega)
  refine ⟨m9, m8, m4.trans h3, m3.trans h4, ?_⟩
  rw [m1, m2]
  exact h5
 | map es =>
  obtain ⟨b, ms, k, rfl, h2, h3, h4, h5⟩ := h
  exact ⟨b, ms, k, Bd.moved_at hm, h2, h3, h4, h5⟩
end Go.Ae
namespace Go.Ae
def memB (l : Nat) : List Nat → Bool
 | [] => false
 | x :: xs => bif Nat.beq x l then true else memB l xs
def nodupB : List Nat → Bool
 | [] => true
 | x :: xs => bif memB x xs then false else nodupB xs
def posOf (l : Nat) : List Nat → Nat → Option Nat
 | [], _ => none
 | x :: xs, i => bif Nat.beq x l then some i else posOf l xs (i + 1)
def eqL : List Nat → List Nat → Bool
 | [], [] => true
 | x :: xs, y :: ys => bif Nat.beq x y then eqL xs ys else false
 | _, _ => false
theorem memB_iff {l : Nat} : ∀ {xs : List Nat}, memB l xs = true ↔ l ∈ xs
 | [] => by simp [memB]
 | x :: xs => by
  simp only [memB, List.mem_cons]
  cases h : Nat.beq x l with
  | true => simp [Nat.eq_of_beq_eq_true h]
  | false =>
   have : x ≠ l := fun e => by subst e; simp at h
   simp only [cond_false, memB_iff]
   exact ⟨.inr, fun h => h.resolve_left (Ne.symm this)⟩
theorem nodupB_spec : ∀ {xs : List Nat}, nodupB xs = true → ∀ (i j l : Nat), xs[i]? = some l → xs[j]? = some l → i = j
 | [], _, i, j, l, h, _ => by simp at h
 | x :: xs, hn, i, j, l, h1, h2 => by
  simp only [nodupB] at hn
  cases hm : memB x xs with
  | true => simp [hm] at hn
  | false =>
   simp only [hm, cond_false] at hn
   have hx : x ∉ xs := fun h => by simp [memB_iff.2 h] at hm
   cases i with
   | zero =>
    simp at h1; subst h1
    cases j with
    | zero => rfl
    | succ j => exact absurd (List.mem_of_getElem? (by simpa using h2)) hx
   | succ i =>
    cases j with
    | zero => simp at h2; subst h2; exact absurd (List.mem_of_getElem? (by simpa using h1)) hx
    | succ j => rw [nodupB_spec hn i j l (by simpa using h1) (by simpa using h2)]
theorem posOf_spec (l : Nat) : ∀ (xs : List Nat) (k i : Nat), posOf l xs k = some i → k ≤ i ∧ xs[i - k]? = some l
 | [], k, i, h => by simp [posOf] at h
 | x :: xs, k, i, h => by
  simp only [posOf] at h
  cases hb : Nat.beq x l with
  | true =>
   simp only [hb, cond_true, Option.some.injEq] at h
   subst h
   simp [Nat.eq_of_beq_eq_true hb]
  | false =>
   simp only [hb, cond_false] at h
   obtain ⟨h1, h2⟩ := posOf_spec l xs (k + 1) i h
   refine ⟨by omega, ?_⟩
   rw [show i - k = (i - (k + 1)) + 1 by omega]
   simpa using h2
theorem eqL_spec : ∀ {xs ys : List Nat}, eqL xs ys = true → xs = ys
 | [], [], _ => rfl
 | x :: xs, y :: ys, h => by
  simp only [eqL] at h
  cases hb : Nat.beq x y with
  | true => simp only [hb, cond_true] at h; rw [Nat.eq_of_beq_eq_true hb, eqL_spec h]
  | false => simp [hb] at h
 | [], _ :: _, h => by simp [eqL] at h
 | _ :: _, [], h => by simp [eqL] at h
def idsV : Nat → AV → List Nat
 | 0, _ => []
 | n + 1, a => match a with
  | .lp l _ => [l]
  | .le l _ _ _ => [l]
  | .la l _ => [l]
  | .mp l => [l]
  | .fn _ caps => caps.flatMap (idsV n)
  | .ifc _ x => idsV n x
  | .agg cs => cs.flatMap (idsV n)
  | .tup cs => cs.flatMap (idsV n)
  | _ => []
def idsO : AObj → List Nat
 | .cells cs _ => cs.flatMap (idsV 6)
 | _ => []
def getO (st : List AObj) (l : Nat) : AObj := st.getD l .gone
def reach (look : Nat → AObj) : Nat → List Nat → List Nat → List Nat
 | 0, acc, _ => acc
 | _ + 1, acc, [] => acc
 | n + 1, acc, l :: todo => bif memB l acc then reach look n acc todo else reach look n (acc ++ [l]) (idsO (look l) ++ todo)
def nwOf (m i : Nat) (o : AObj) : Nat := bif Nat.blt i m then o.gen else 1
def renOf (ids : List Nat) (m : Nat) (look : Nat → AObj) : Ren := fun l =>
 match posOf l ids 0 with
 | some i => some (i, (look l).gen, nwOf m i (look l))
 | none => none
def newSt (ids : List Nat) (m : Nat) (look : Nat → AObj) : List AObj :=
 ids.zipIdx.map fun p => renO (renOf ids m look) (nwOf m p.2 (look p.1)) (look p.1)
def mvBd (bd : Bd) (nw : Nat) : Bd := if bd.g = 0 then bd else { bd with g := nw }
theorem mvBd_b (bd : Bd) (nw : Nat) : (mvBd bd nw).b = bd.b := by unfold mvBd; split <;> rfl
def newMu (ids : List Nat) (m : Nat) (look : Nat → AObj) (μ : List Bd) : List Bd := ids.zipIdx.map fun p => mvBd (μ.getD p.1 Bd.zero) (nwOf m p.2 (look p.1))
theorem newMu_get (ids : List Nat) (m : Nat) (look : Nat → AObj) (μ : List Bd) (i : Nat) : (newMu ids m look μ)[i]? = (ids[i]?).map fun l => mvBd (μ.getD l Bd.zero) (nwOf m i (look l)) := by
 simp only [newMu, List.getElem?_map, List.getElem?_zipIdx, Option.map_map, Nat.zero_add]
 rfl
theorem newSt_get (ids : List Nat) (m : Nat) (look : Nat → AObj) (i : Nat) : (newSt ids m look)[i]? = (ids[i]?).map fun l => renO (renOf ids m look) (nwOf m i (look l)) (look l) := by
 simp only [newSt, List.getElem?_map, List.getElem?_zipIdx, Option.map_map, Nat.zero_add]
 rfl
theorem getO_get {M : Mem} {μ : List Bd} {σ : List AObj} {w : World} (hst : StoreOk M μ σ w) {l : Nat} {bd : Bd} (e : μ[l]? = some bd) : σ[l]? = some (getO σ l) := by
 have : l < σ.length := by rw [← hst.len]; exact (List.getElem?_eq_some_iff.1 e).1
 simp [getO, List.getD_eq_getElem?_getD, List.getElem?_eq_getElem this]
theorem mu_here {M : Mem} {μ : List Bd} {σ : List AObj} {w : World} (hst : StoreOk M μ σ w) {l : Nat} (hx : (getO σ l).here = true) : ∃ bd, μ[l]? = some bd ∧ μ.getD l Bd.zero = bd := by
 by_cases hl : l < σ.length
 ·have : l < μ.length := by rw [hst.len]; exact hl
  exact ⟨μ[l], List.getElem?_eq_getElem this, by simp [List.getD_eq_getElem?_getD, List.getElem?_eq_getElem this]⟩
 ·simp [getO, List.getD_eq_getElem?_getD, List.getElem?_eq_none (Nat.le_of_not_lt hl), AObj.here] at hx
theorem mu_gen {M : Mem} {μ : List Bd} {σ : List AObj} {w : World} (hst : StoreOk M μ σ w) {l : Nat} {bd : Bd} (e : μ[l]? = some bd) : bd.g = (getO σ l).gen :=
 ((hst.rep l _ bd (getO_get hst e) e).gen (hst.dead l _ bd (getO_get hst e) e)).1
theorem StoreOk.sub {M : Mem} {μ : List Bd} {σ : List AObj} {w : World} (hst : StoreOk M μ σ w) (ids : List Nat) (m : Nat) (hn : nodupB ids = true) :
  StoreOk M (newMu ids m (getO σ) μ) (newSt ids m (getO σ)) w ∧ RenOk (renOf ids m (getO σ)) μ (newMu ids m (getO σ) μ) ∧
   (∀ b, Own (newMu ids m (getO σ) μ) (newSt ids m (getO σ)) b → ∃ l, l ∈ ids ∧ ∃ bd, σ[l]? = some (getO σ l) ∧ (getO σ l).here = true ∧ μ[l]? = some bd ∧ bd.b = some b) := by
 have hmv : ∀ (l i : Nat) (bd : Bd), μ[l]? = some bd → bd.moved (mvBd bd (nwOf m i (getO σ l))) (getO σ l).gen (nwOf m i (getO σ l)) := fun l i bd e => by
  have g1 := mu_gen hst e
  unfold mvBd
  split
  ·rename_i hz; exact ⟨rfl, rfl, rfl, rfl, fun _ => hz, fun hp => by omega⟩
  ·rename_i hz
   refine ⟨rfl, rfl, rfl, rfl, fun h => absurd h hz, fun hp => ⟨g1, rfl, ?_⟩⟩
   unfold nwOf
   cases Nat.blt i m <;> simp
   omega
 have hρ : RenOk (renOf ids m (getO σ)) μ (newMu ids m (getO σ) μ) := fun l l' c nw bd e1 e2 => by
  simp only [renOf] at e1
  split at e1
  ·rename_i i hp
   obtain ⟨_, hp⟩ := posOf_spec l ids 0 i hp
   simp only [Option.some.injEq, Prod.mk.injEq] at e1
   obtain ⟨rfl, rfl, rfl⟩ := e1
   refine ⟨mvBd bd (nwOf m i (getO σ l)), ?_, hmv l i bd e2⟩
   rw [newMu_get]
   rw [Nat.sub_zero] at hp
   rw [hp]
   simp [List.getD_eq_getElem?_getD, e2]
  ·cases e1
 have hback : ∀ (i : Nat) (o : AObj) (bd : Bd), (newSt ids m (getO σ))[i]? = some o → (newMu ids m (getO σ) μ)[i]? = some bd → ∃ l, ids[i]? = some l ∧
   o = renO (renOf ids m (getO σ)) (nwOf m i (getO σ l)) (getO σ l) ∧ bd = mvBd (μ.getD l Bd.zero) (nwOf m i (getO σ l)) := fun i o bd e1 e2 => by
  rw [newSt_get] at e1
  rw [newMu_get] at e2
  obtain ⟨l, h1, h2⟩ := Option.map_eq_some_iff.1 e1
  rw [h1] at e2
  simp only [Option.map_some, Option.some.injEq] at e2
  exact ⟨l, h1, h2.symm, e2.symm⟩
 refine ⟨⟨by simp [newMu, newSt], fun i o bd e1 e2 => ?_, fun i o bd e1 e2 hx => ?_, fun i j x y p q b hij e1 e2 hx hy e3 e4 hp => ?_, hst.mem⟩, hρ, fun b ⟨i, o, bd, e1, hx, e2, e3⟩ => ?_⟩
 ·obtain ⟨l, h1, rfl, rfl⟩ := hback i o bd e1 e2
  by_cases hx : (getO σ l).here = true
  ·obtain ⟨bd, k1, k2⟩ := mu_here hst hx
   rw [k2]
   exact (hst.rep l _ bd (getO_get hst k1) k1).ren hρ (hmv l i bd k1)
  ·cases hg : getO σ l <;> first | trivial | (rw [hg] at hx; exact absurd rfl hx)
 ·obtain ⟨l, h1, rfl, rfl⟩ := hback i o bd e1 e2
  rw [renO_here] at hx
  by_cases hl : l < μ.length
  ·have k1 : μ[l]? = some μ[l] := List.getElem?_eq_getElem hl
   have := hst.dead l _ _ (getO_get hst k1) k1 hx
   simp [List.getD_eq_getElem?_getD, k1, this, mvBd, Bd.zero]
  ·simp [List.getD_eq_getElem?_getD, List.getElem?_eq_none (Nat.le_of_not_lt hl), mvBd, Bd.zero]
 ·obtain ⟨l1, h1, rfl, rfl⟩ := hback i x p e1 e3
  obtain ⟨l2, h2, rfl, rfl⟩ := hback j y q e2 e4
  rw [renO_here] at hx hy
  rw [mvBd_b] at hp ⊢
  obtain ⟨p0, k1, k2⟩ := mu_here hst hx
  obtain ⟨q0, k3, k4⟩ := mu_here hst hy
  rw [k2] at hp
  rw [k4]
  have hne : l1 ≠ l2 := fun e => hij (by subst e; exact nodupB_spec hn i j l1 h1 h2)
  exact hst.apart l1 l2 _ _ p0 q0 b hne (getO_get hst k1) (getO_get hst k3) hx hy k1 k3 hp
 ·obtain ⟨l, h1, rfl, rfl⟩ := hback i o bd e1 e2
  rw [renO_here] at hx
  rw [mvBd_b] at e3
  obtain ⟨p0, k1, k2⟩ := mu_here hst hx
  rw [k2] at e3
  exact ⟨l, List.mem_of_getElem? h1, p0, getO_get hst k1, hx, k1, e3⟩
def keepIds (m : Nat) (ts : List (Nat × List (Option Nat))) (s : ASt) : List Nat :=
 reach (getO s.st) 1000 (List.range m) ((List.range m).flatMap (fun l => idsO (getO s.st l)) ++ ts.flatMap fun t => idsV 6 (s.tm t.1))
def keepW (m : Nat) (ts : List (Nat × List (Option Nat))) (s : ASt) : Option ASt :=
 let ids := keepIds m ts s
 bif nodupB ids && eqL (ids.take m) (List.range m) && Nat.ble m s.st.length then
  some { tm := lookT (ts.map fun t => (t.1, tidyV t.2 (renV (renOf ids m (getO s.st)) 6 (s.tm t.1)))), st := newSt ids m (getO s.st) }
 else none
theorem lookT_rep {M : Mem} {μ : List Bd} {a : Act} : ∀ (kvs : List (Nat × AV)), (∀ k v, (k, v) ∈ kvs → RepV M μ v (a.tmps.getD k undef)) →
  ∀ t, RepV M μ (lookT kvs t) (a.tmps.getD t undef)
 | [], _, _ => .any
 | (k, v) :: r, h, t => by
  simp only [lookT]
  cases hb : Nat.beq t k with
  | true => rw [Nat.eq_of_beq_eq_true hb]; exact h k v (by simp)
  | false => exact lookT_rep r (fun k v hm => h k v (by simp [hm])) t
theorem keepW_weak {N m : Nat} {ts : List (Nat × List (Option Nat))} {s s2 : ASt} (h : keepW m ts s = some s2) : Weak N m s s2 := by
 intro M μ a w hr
 simp only [keepW] at h
 generalize keepIds m ts s = ids at h
 cases hc : (nodupB ids && eqL (ids.take m) (List.range m) && Nat.ble m s.st.length) with
 | false => simp [hc] at h
 | true =>
  simp only [hc, cond_true, Option.some.injEq] at h
  subst h
  simp only [Bool.and_eq_true] at hc
  obtain ⟨⟨hn, he⟩, hml⟩ := hc
  have hh := eqL_spec he
  obtain ⟨hsize, hdef, htm, hst⟩ := hr
  obtain ⟨h1, h2, h3⟩ := hst.sub ids m hn
  refine ⟨M, newMu ids m (getO s.st) μ, ⟨hsize, hdef, ?_, h1⟩, ⟨rfl, rfl, rfl, Nat.le_refl _, fun _ _ _ => rfl, .refl M, fun b o v h k => by simp [h] at k, fun b ho => .inr ?_⟩, fun l bd hl e => ?_⟩
  ·refine lookT_rep _ fun k v hm => ?_
   obtain ⟨t, _, ht⟩ := List.mem_map.1 hm
   simp only [Prod.mk.injEq] at ht
   obtain ⟨rfl, rfl⟩ := ht
   exact ((htm t.1).ren h2 6).tidy _
  ·obtain ⟨l, _, bd, k1, k2, k3, k4⟩ := h3 b ho
   exact ⟨l, _, bd, k1, k2, k3, k4⟩
  ·have hid : ids[l]? = some l := by
    have : (ids.take m)[l]? = some l := by rw [hh]; simp [hl]
    rwa [List.getElem?_take, if_pos hl] at this
   refine ⟨bd, ?_, .refl bd⟩
   rw [newMu_get, hid]
   have g1 := mu_gen hst e
   simp only [Option.map_some, Option.some.injEq, List.getD_eq_getElem?_getD, e, Option.getD_some]
   unfold mvBd nwOf
   split
   ·rfl
   ·rw [show Nat.blt l m = true from Nat.ble_eq_true_of_le hl]
    simp only [cond_true, ← g1]
def frzV (l : Nat) (o : AObj) : Nat → AV → AV
 | 0, _ => .any
 | n + 1, a => match a with
  | .lp l' off => bif Nat.beq l' l then (match o with
   | .cells cs _ => .ip cs off
   | _ => .any) else .lp l' off
  | .la l' g => bif Nat.beq l' l then (match o with
   | .arr c sz rows => bif Nat.beq g c then .sl sz rows false else .any
   | _ => .any) else .la l' g
  | .le l' g i off => bif Nat.beq l' l then .any else .le l' g i off
  | .mp l' => bif Nat.beq l' l then .any else .mp l'
  | .fn f caps => .fn f (caps.map (frzV l o n))
  | .ifc t x => .ifc t (frzV l o n x)
  | .agg cs => .agg (cs.map (frzV l o n))
  | .tup cs => .tup (cs.map (frzV l o n))
  | .any => .any
  | .sc v => .sc v
  | .nil => .nil
  | .sl s xs f => .sl s xs f
  | .ip cs o => .ip cs o
def frzO (l : Nat) (o : AObj) : AObj → AObj
 | .cells cs ro => .cells (cs.map (frzV l o 6)) ro
 | x => x
theorem frzO_here (l : Nat) (o x : AObj) : (frzO l o x).here = x.here := by cases x <;> rfl
def frzB : AObj → Bool
 | .cells cs _ => cs.all (dataB 6) && !cs.isEmpty
 | .arr .. => true
 | _ => false
def frzW (m l : Nat) (s : ASt) : Option ASt :=
 bif Nat.ble m l && Nat.blt l s.st.length && frzB (getO s.st l) then
  some { tm := fun t => frzV l (getO s.st l) 6 (s.tm t), st := (s.st.set l .gone).map (frzO l (getO s.st l)) }
 else none
theorem RepV.frz {M M2 : Mem} {μ μ2 : List Bd} {l : Nat} {o : AObj} (hM : M.le M2) (hμ : ∀ i bd, i ≠ l → μ[i]? = some bd → μ2[i]? = some bd)
  (hlp : ∀ off v, RepV M μ (.lp l off) v → ∀ cs ro, o = .cells cs ro → RepV M2 [] (.ip cs off) v)
  (hla : ∀ g v, RepV M μ (.la l g) v → ∀ sz rows, o = .arr g sz rows → RepV M2 [] (.sl sz rows false) v)
  {a : AV} {v : Value} (h : RepV M μ a v) : ∀ n, RepV M2 μ2 (frzV l o n a) v := by
 induction h with
 | any => intro n; cases n <;> exact .any
 | sc => intro n; cases n <;> first | exact .sc | exact .any
 | nil => intro n; cases n <;> first | exact .nil | exact .any
 | sl0 => intro n; cases n <;> first | exact .sl0 | exact .any
 | sl0f => intro n; cases n <;> first | exact .sl0f | exact .any
 | sl f hne hc hf hz hm hr _ =>
  intro n
  cases n with
  | zero => exact .any
  | succ n => exact .sl f hne hc hf hz (fun i row j a h1 h2 => hM _ _ _ (hm i row j a h1 h2)) (fun i row j a h1 h2 => (hr i row j a h1 h2).mono hM (EvoAll.refl _))
 | ip0 => intro n; cases n <;> first | exact .ip0 | exact .any
 | ip f hne hm hr _ =>
  intro n
  cases n with
  | zero => exact .any
  | succ n => exact .ip f hne (fun j a h => hM _ _ _ (hm j a h)) (fun j a h => (hr j a h).mono hM (EvoAll.refl _))
 | @lp μ l' off b h =>
  intro n
  cases n with
  | zero => exact .any
  | succ n =>
   simp only [frzV]
   cases hb : Nat.beq l' l with
   | true =>
    have := Nat.eq_of_beq_eq_true hb
    subst this
    simp only [cond_true]
    split
    ·exact (hlp off _ (.lp h) _ _ rfl).data
    ·exact .any
   | false => exact .lp (hμ _ _ (fun e => by simp [e] at hb) h)
 | @mp μ l' b h =>
  intro n
  cases n with
  | zero => exact .any
  | succ n =>
   simp only [frzV]
   cases hb : Nat.beq l' l with
   | true => exact .any
   | false => exact .mp (hμ _ _ (fun e => by simp [e] at hb) h)
 | @le μ l' g i off v bd h hg hl hv h1c =>
  intro n
  cases n with
  | zero => exact .any
  | succ n =>
   simp only [frzV]
   cases hb : Nat.beq l' l with
   | true => exact .any
   | false => exact .le (hμ _ _ (fun e => by simp [e] at hb) h) hg hl hv h1c
 | @la μ l' g v bd h hg hl hv h1c =>
  intro n
  cases n with
  | zero => exact .any
  | succ n =>
   simp only [frzV]
   cases hb : Nat.beq l' l with
   | true =>
    have := Nat.eq_of_beq_eq_true hb
    subst this
    simp only [cond_true]
    split
    ·rename_i c sz rows
     cases hc : Nat.beq g c with
     | false => exact .any
     | true =>
      have := Nat.eq_of_beq_eq_true hc
      subst this
      exact (hla _ _ (.la h hg hl hv h1c) _ _ rfl).data
    ·exact .any
   | false => exact .la (hμ _ _ (fun e => by simp [e] at hb) h) hg hl hv h1c
 | fn hl hr ih =>
  intro n
  cases n with
  | zero => exact .any
  | succ n =>
   refine .fn (by simpa using hl) fun j a u h1 h2 => ?_
   rw [List.getElem?_map] at h1
   obtain ⟨a0, e0, rfl⟩ := Option.map_eq_some_iff.1 h1
   exact ih j a0 u e0 h2 hμ hlp hla n
 | ifc h ih =>
  intro n
  cases n with
  | zero => exact .any
  | succ n => exact .ifc (ih hμ hlp hla n)
 | agg hl hr ih =>
  intro n
  cases n with
  | zero => exact .any
  | succ n =>
   refine .agg (by simpa using hl) (fun j a u e1 e2 => ?_)
   rw [List.getElem?_map] at e1
   obtain ⟨a0, e0, rfl⟩ := Option.map_eq_some_iff.1 e1
   exact ih j a0 u e0 e2 hμ hlp hla n
 | tup hl hr ih =>
  intro n
  cases n with
  | zero => exact .any
  | succ n =>
   refine .tup (by simpa using hl) fun j a u e1 e2 => ?_
   rw [List.getElem?_map] at e1
   obtain ⟨a0, e0, rfl⟩ := Option.map_eq_some_iff.1 e1
   exact ih j a0 u e0 e2 hμ hlp hla n
theorem cell_of_heap {w : World} {b x : Nat} {c : Array Value} {t : TypeId} {fr : Nat × Nat} (h : w.heap[b]? = some (.cells c t fr)) : w.cell? ⟨b, x, none⟩ = c[x]? := by
 simp [World.cell?, h]
theorem filter_some {o : Option Value} {v : Value} : o.filter (·.oneCell') = some v ↔ o = some v ∧ v.oneCell' = true := by
 cases o with
 | none => simp
 | some u =>
  simp only [Option.filter_some, Option.some.injEq]
  cases h : u.oneCell' with
  | false => simp only [Bool.false_eq_true, ↓reduceIte, reduceCtorEq, false_iff, not_and]; rintro rfl; simp [h]
  | true => simp only [↓reduceIte, Option.some.injEq]; exact ⟨fun e => by subst e; exact ⟨rfl, h⟩, fun e => e.1⟩
theorem frz_mem {M : Mem} {μ : List Bd} {w : World} {l : Nat} {o : AObj} {bd : Bd} (hm : ∀ b x v, M b x = some v → w.cell? ⟨b, x, none⟩ = some v ∧ v.oneCell' = true)
  (hμ : μ[l]? = some bd) (hr : RepO M μ w o bd) (hb : frzB o = true) : ∃ M2 : Mem, M.le M2 ∧
   (∀ b x v, M2 b x = some v → M b x = none → bd.b = some b) ∧ (∀ b x v, M2 b x = some v → w.cell? ⟨b, x, none⟩ = some v ∧ v.oneCell' = true) ∧
   (∀ off v, RepV M μ (.lp l off) v → ∀ cs ro, o = .cells cs ro → RepV M2 [] (.ip cs off) v) ∧
   (∀ g v, RepV M μ (.la l g) v → ∀ sz rows, o = .arr g sz rows → RepV M2 [] (.sl sz rows false) v) := by
 have step : ∀ (b : Nat) (c : Array Value) (t : TypeId), bd.b = some b → w.heap[b]? = some (.cells c t (0, 0)) →
   M.le (fun b' x => if b' = b then (c[x]?).filter (·.oneCell') else M b' x) ∧ (∀ b' x v, (if b' = b then (c[x]?).filter (·.oneCell') else M b' x) = some v → M b' x = none → bd.b = some b') ∧
   (∀ b' x v, (if b' = b then (c[x]?).filter (·.oneCell') else M b' x) = some v → w.cell? ⟨b', x, none⟩ = some v ∧ v.oneCell' = true) := fun b c t e1 e2 => by
  refine ⟨fun b' x v hv => ?_, fun b' x v hv hn => ?_, fun b' x v hv => ?_⟩
  ·have hv' := hm b' x v hv
   show (if b' = b then (c[x]?).filter (·.oneCell') else M b' x) = some v
   split
   ·rename_i e; subst e; rw [cell_of_heap e2] at hv'; exact filter_some.2 hv'
   ·exact hv
  ·split at hv
   ·rename_i e; rw [e]; exact e1
   ·rw [hn] at hv; cases hv
  ·split at hv
   ·rename_i e; subst e; rw [cell_of_heap e2]; exact filter_some.1 hv
   ·exact hm b' x v hv
 cases o with
 | gone => simp [frzB] at hb
 | map es => simp [frzB] at hb
 | cells cs ro =>
  obtain ⟨b, c, t, rfl, h2, h3, h4, h5⟩ := hr
  obtain ⟨s1, s2, s3⟩ := step b c t rfl h2
  refine ⟨_, s1, s2, s3, fun off v hv cs' ro' e => ?_, (fun g v _ sz rows e => by cases e)⟩
  cases e
  cases hv with
  | lp e =>
   rw [hμ] at e
   cases e
   have hd : ∀ (j : Nat) (a : AV), cs[j]? = some a → ∃ v, c[j]? = some v ∧ v.oneCell' = true ∧ RepV M [] a v := fun j a e => by
    obtain ⟨v, e1, e0, e2⟩ := h4 j a e
    simp only [frzB, Bool.and_eq_true, List.all_eq_true] at hb
    exact ⟨v, e1, e0, e2.ofData 6 (hb.1 a (List.mem_of_getElem? e))⟩
   have hne : cs ≠ [] := by
    simp only [frzB, Bool.and_eq_true] at hb
    intro e; subst e; simp at hb
   have := RepV.ip (M := fun b' x => if b' = b then (c[x]?).filter (·.oneCell') else M b' x) (μ := []) (cs := cs) (off := off) (b := b) (o := 0) (fun j => (c[j]?).getD undef) hne
    (fun j a e => by obtain ⟨v, e1, e0, _⟩ := hd j a e; simp only [if_true, Nat.zero_add, e1, Option.getD_some]; exact filter_some.2 ⟨rfl, e0⟩) (fun j a e => by obtain ⟨v, e1, _, e2⟩ := hd j a e; simp only [e1, Option.getD_some]; exact e2.mono s1 (EvoAll.refl _))
   simpa using this
 | arr g sz rows =>
  obtain ⟨h1, h2, h3, h4, h5⟩ := hr
  cases hbb : bd.b with
  | none =>
   rw [hbb] at h5
   obtain ⟨rfl, h6⟩ := h5
   refine ⟨M, .refl M, fun b x v e k => by simp [e] at k, hm, (fun off v _ cs' ro' e => by cases e), fun g' v hv sz' rows' e => ?_⟩
   cases e
   cases hv with
   | la e hg hl hv _ =>
    rw [hμ] at e
    cases e
    have := hv h2
    unfold LaOk at this
    rw [hbb] at this
    obtain ⟨A, rfl⟩ := this
    exact .sl0
  | some b =>
   rw [hbb] at h5
   obtain ⟨c, t, k1, k2, k3, k4, k5, k6⟩ := h5
   obtain ⟨s1, s2, s3⟩ := step b c t hbb k1
   refine ⟨_, s1, (fun b' x v k1 k2 => by rw [← hbb]; exact s2 b' x v k1 k2), s3, (fun off v _ cs' ro' e => by cases e), fun g' v hv sz' rows' e => ?_⟩
   cases e
   cases hv with
   | la e hg hl hv _ =>
    rw [hμ] at e
    cases e
    have := hv h2
    unfold LaOk at this
    rw [hbb] at this
    subst this
    rw [h4]
    by_cases hne : rows = []
    ·subst hne; exact .sl0
    ·refine .sl (b := b) (o := 0) (fun i j => (c[i * sz + j]?).getD undef) hne k3 (by simp) k4 (fun i row j a e1 e2 => ?_) (fun i row j a e1 e2 => ?_)
     ·obtain ⟨v, e3, e0, _⟩ := k5 i row j a e1 e2
      simp only [if_true, Nat.zero_add, e3, Option.getD_some]
      exact filter_some.2 ⟨rfl, e0⟩
     ·obtain ⟨v, e3, _, e4⟩ := k5 i row j a e1 e2
      simp only [e3, Option.getD_some]
      exact e4.mono s1 (EvoAll.refl _)
theorem frzW_weak {N m l : Nat} {s s2 : ASt} (h : frzW m l s = some s2) : Weak N m s s2 := by
 intro M μ a w hr
 simp only [frzW] at h
 cases hc : (Nat.ble m l && Nat.blt l s.st.length && frzB (getO s.st l)) with
 | false => simp [hc] at h
 | true =>
  simp only [hc, cond_true, Option.some.injEq] at h
  subst h
  simp only [Bool.and_eq_true] at hc
  obtain ⟨⟨hml, hl⟩, hb⟩ := hc
  have hml : m ≤ l := Nat.le_of_ble_eq_true hml
  have hl : l < s.st.length := Nat.le_of_ble_eq_true hl
  obtain ⟨hsize, hdef, htm, hst⟩ := hr
  have hlμ : l < μ.length := by rw [hst.len]; exact hl
  have e1 : s.st[l]? = some (getO s.st l) := by simp [getO, List.getD_eq_getElem?_getD, List.getElem?_eq_getElem hl]
  have e2 : μ[l]? = some μ[l] := List.getElem?_eq_getElem hlμ
  generalize hbd : μ[l] = bd at e2
  generalize ho : getO s.st l = o at *
  have hro := hst.rep l o bd e1 e2
  have hhere : o.here = true := by cases o <;> first | rfl | simp [frzB] at hb
  obtain ⟨M2, f1, f2, f3, f4, f5⟩ := frz_mem hst.mem e2 hro hb
  have hμ2 : ∀ (i : Nat) (p : Bd), i ≠ l → μ[i]? = some p → (μ.set l Bd.zero)[i]? = some p := fun i p hi e => by rw [List.getElem?_set_ne (Ne.symm hi)]; exact e
  have key : ∀ {a v}, RepV M μ a v → ∀ n, RepV M2 (μ.set l Bd.zero) (frzV l o n a) v := fun hv => hv.frz f1 hμ2 f4 f5
  have hback : ∀ (i : Nat) (x : AObj) (p : Bd), ((s.st.set l .gone).map (frzO l o))[i]? = some x → (μ.set l Bd.zero)[i]? = some p →
    (i = l ∧ x = .gone ∧ p = Bd.zero) ∨ (i ≠ l ∧ ∃ y, s.st[i]? = some y ∧ x = frzO l o y ∧ μ[i]? = some p) := fun i x p g1 g2 => by
   rw [List.getElem?_map] at g1
   obtain ⟨y, g3, rfl⟩ := Option.map_eq_some_iff.1 g1
   by_cases hi : i = l
   ·subst hi
    rw [List.getElem?_set_self hl] at g3
    rw [List.getElem?_set_self hlμ] at g2
    cases g3; cases g2
    exact .inl ⟨rfl, rfl, rfl⟩
   ·rw [List.getElem?_set_ne (Ne.symm hi)] at g3 g2
    exact .inr ⟨hi, y, g3, rfl, g2⟩
  refine ⟨M2, μ.set l Bd.zero, ⟨hsize, hdef, fun t => key (htm t) 6, ?_⟩, ?_, ?_⟩
  ·refine ⟨by simp [hst.len], fun i x p g1 g2 => ?_, fun i x p g1 g2 hx => ?_, fun i j x y p q b hij g1 g2 hx hy g3 g4 hp => ?_, f3⟩
   ·rcases hback i x p g1 g2 with ⟨_, rfl, rfl⟩ | ⟨hi, y, g3, rfl, g4⟩
    ·trivial
    ·have hry := hst.rep i y p g3 g4
     have hnew : ∀ b, p.b = some b → y.here = true → ∀ z, M b z = none → M2 b z = none := fun b e hy z hz => by
      cases hm2 : M2 b z with
      | none => rfl
      | some v => exact absurd (f2 b z v hm2 hz) (hst.apart i l y o p bd b hi g3 e1 hy hhere g4 e2 e)
     cases y with
     | gone => trivial
     | cells cs ro =>
      obtain ⟨b, c, t, rfl, h2, h3, h4, h5⟩ := hry
      refine ⟨b, c, t, rfl, h2, by simpa using h3, fun j a e => ?_, fun z hz => hnew b rfl rfl z (h5 z hz)⟩
      rw [List.getElem?_map] at e
      obtain ⟨a0, e0, rfl⟩ := Option.map_eq_some_iff.1 e
      obtain ⟨v, k1, k0, k2⟩ := h4 j a0 e0
      exact ⟨v, k1, k0, key k2 6⟩
     | arr g sz rows =>
      obtain ⟨h1, h2, h3, h4, h5⟩ := hry
      refine ⟨h1, h2, h3, h4, ?_⟩
      split
      ·rename_i e; rw [e] at h5; exact h5
      ·rename_i b e
       rw [e] at h5
       obtain ⟨c, t, k1, k2, k3, k4, k5, k6⟩ := h5
       refine ⟨c, t, k1, k2, k3, k4, fun i' row j a z1 z2 => ?_, fun z => hnew b e rfl z (k6 z)⟩
       obtain ⟨v, z3, z0, z4⟩ := k5 i' row j a z1 z2
       exact ⟨v, z3, z0, z4.mono f1 (EvoAll.refl _)⟩
     | map es =>
      obtain ⟨b, ms, k, rfl, h2, h3, h4, h5⟩ := hry
      refine ⟨b, ms, k, rfl, h2, h3, fun j ky a e => ?_, fun z => hnew b rfl rfl z (h5 z)⟩
      obtain ⟨x, z1, z2, z3⟩ := h4 j ky a e
      exact ⟨x, z1, z2, z3.mono f1 (EvoAll.refl _)⟩
   ·rcases hback i x p g1 g2 with ⟨_, rfl, rfl⟩ | ⟨hi, y, g3, rfl, g4⟩
    ·rfl
    ·rw [frzO_here] at hx; exact hst.dead i y p g3 g4 hx
   ·rcases hback i x p g1 g3 with ⟨_, rfl, rfl⟩ | ⟨hi, x0, g5, rfl, g6⟩
    ·cases hx
    ·rcases hback j y q g2 g4 with ⟨_, rfl, rfl⟩ | ⟨hj, y0, g7, rfl, g8⟩
     ·cases hy
     ·rw [frzO_here] at hx hy
      exact hst.apart i j x0 y0 p q b hij g5 g7 hx hy g6 g8 hp
  ·refine ⟨rfl, rfl, rfl, Nat.le_refl _, fun _ _ _ => rfl, f1, fun b z v e k => .inr ⟨l, o, bd, e1, hhere, e2, f2 b z v e k⟩, fun b ho => .inr ?_⟩
   obtain ⟨i, x, p, g1, hx, g2, g3⟩ := ho
   rcases hback i x p g1 g2 with ⟨_, rfl, rfl⟩ | ⟨hi, y, g4, rfl, g5⟩
   ·cases hx
   ·rw [frzO_here] at hx; exact ⟨i, y, p, g4, hx, g5, g3⟩
  ·intro i p hi e
   exact ⟨p, hμ2 i p (by omega) e, .refl p⟩
def emptyB : AV → Bool
 | .nil => true
 | .sl _ xs f => match xs with
  | [] => f
  | _ => false
 | _ => false
theorem emptyB_spec {M : Mem} {μ : List Bd} {a : AV} {v : Value} (h : emptyB a = true) (hr : RepV M μ a v) : ∃ A, v = .slice A 0 0 := by
 cases a with
 | nil => cases hr; exact ⟨_, rfl⟩
 | sl s xs f =>
  cases xs with
  | nil =>
   simp only [emptyB] at h
   subst h
   cases hr with
   | sl0f => exact ⟨_, rfl⟩
   | sl f hne => exact absurd rfl hne
  | cons x xs => simp [emptyB] at h
 | _ => simp [emptyB] at h
theorem StoreOk.push {M : Mem} {μ : List Bd} {σ : List AObj} {w : World} (h : StoreOk M μ σ w) (sz : Nat) :
  StoreOk M (μ ++ [⟨none, 1, 0, 0, sz⟩]) (σ ++ [.arr 1 sz []]) w ∧ EvoAll μ (μ ++ [⟨none, 1, 0, 0, sz⟩]) ∧
   Stp M μ σ w M (μ ++ [⟨none, 1, 0, 0, sz⟩]) (σ ++ [.arr 1 sz []]) w := by
 have hE : EvoAll μ (μ ++ [(⟨none, 1, 0, 0, sz⟩ : Bd)]) := fun l bd e => ⟨bd, by
  rw [List.getElem?_append_left (List.getElem?_eq_some_iff.1 e).1]; exact e, .refl bd⟩
 have key : ∀ (i : Nat) (x : AObj) (p : Bd), (σ ++ [AObj.arr 1 sz []])[i]? = some x → (μ ++ [(⟨none, 1, 0, 0, sz⟩ : Bd)])[i]? = some p →
   (σ[i]? = some x ∧ μ[i]? = some p) ∨ (i = σ.length ∧ x = .arr 1 sz [] ∧ p = ⟨none, 1, 0, 0, sz⟩) := fun i x p e1 e2 => by
  by_cases hi : i < σ.length
  ·rw [List.getElem?_append_left hi] at e1
   rw [List.getElem?_append_left (by rw [h.len]; exact hi)] at e2
   exact .inl ⟨e1, e2⟩
  ·rw [List.getElem?_append_right (by omega)] at e1
   rw [List.getElem?_append_right (by rw [h.len]; omega)] at e2
   have : i - σ.length = 0 := by
    have := (List.getElem?_eq_some_iff.1 e1).1
    simp at this; omega
   rw [this] at e1
   rw [h.len, this] at e2
   simp at e1 e2
   exact .inr ⟨by omega, e1.symm, e2.symm⟩
 refine ⟨⟨by simp [h.len], fun i x p e1 e2 => ?_, fun i x p e1 e2 hx => ?_, fun i j x y p q b hij e1 e2 hx hy e3 e4 hp => ?_, h.mem⟩, hE, ?_⟩
 ·rcases key i x p e1 e2 with ⟨k1, k2⟩ | ⟨_, rfl, rfl⟩
  ·exact (h.rep i x p k1 k2).mono (.refl M) hE (fun b _ => ⟨rfl, fun _ h => h⟩)
  ·exact ⟨by omega, rfl, rfl, rfl, rfl, rfl⟩
 ·rcases key i x p e1 e2 with ⟨k1, k2⟩ | ⟨_, rfl, rfl⟩
  ·exact h.dead i x p k1 k2 hx
  ·cases hx
 ·rcases key i x p e1 e3 with ⟨k1, k2⟩ | ⟨_, rfl, rfl⟩
  ·rcases key j y q e2 e4 with ⟨k3, k4⟩ | ⟨_, rfl, rfl⟩
   ·exact h.apart i j x y p q b hij k1 k3 hx hy k2 k4 hp
   ·simp
  ·cases hp
 ·refine ⟨rfl, rfl, rfl, Nat.le_refl _, fun _ _ _ => rfl, .refl M, fun b o v h k => by simp [h] at k, fun b ho => .inr ?_⟩
  obtain ⟨i, x, p, e1, hx, e2, e3⟩ := ho
  rcases key i x p e1 e2 with ⟨k1, k2⟩ | ⟨_, rfl, rfl⟩
  ·exact ⟨i, x, p, k1, hx, k2, e3⟩
  ·cases e3
def accW (t sz : Nat) (s : ASt) : Option ASt :=
 bif emptyB (s.tm t) then some { tm := putT s.tm t (.la s.st.length 1), st := s.st ++ [.arr 1 sz []] } else none
theorem accW_weak {N m t sz : Nat} {s s2 : ASt} (h : accW t sz s = some s2) : Weak N m s s2 := by
 intro M μ a w hr
 simp only [accW] at h
 cases hc : emptyB (s.tm t) with
 | false => simp [hc] at h
 | true =>
  simp only [hc, cond_true, Option.some.injEq] at h
  subst h
  obtain ⟨hsize, hdef, htm, hst⟩ := hr
  obtain ⟨p1, p2, p3⟩ := hst.push sz
  obtain ⟨A, hA⟩ := emptyB_spec hc (htm t)
  refine ⟨M, _, ⟨hsize, hdef, fun t' => ?_, p1⟩, p3, p2.to m⟩
  simp only [putT]
  cases hb : Nat.beq t' t with
  | true =>
   rw [Nat.eq_of_beq_eq_true hb, hA]
   refine .la (bd := ⟨none, 1, 0, 0, sz⟩) (by rw [← hst.len]; simp) (by omega) (Nat.le_refl _) (fun _ => ⟨A, rfl⟩) rfl
  | false => exact (htm t').mono (.refl M) p2
def accOW (l p sz : Nat) (s : ASt) : Option ASt :=
 match getO s.st l with
 | .cells cs ro => bif emptyB (cs.getD p .any) then some { tm := s.tm, st := (s.st.set l (.cells (cs.set p (.la s.st.length 1)) ro)) ++ [.arr 1 sz []] } else none
 | _ => none
theorem accOW_weak {N m l p sz : Nat} {s s2 : ASt} (h : accOW l p sz s = some s2) : Weak N m s s2 := by
 intro M μ a w hr
 simp only [accOW] at h
 split at h
 ·rename_i cs ro ho
  cases hc : emptyB (cs.getD p .any) with
  | false => rw [hc] at h; cases h
  | true =>
   simp only [hc, cond_true, Option.some.injEq] at h
   subst h
   obtain ⟨hsize, hdef, htm, hst⟩ := hr
   have hl : l < s.st.length := by
    by_cases h : l < s.st.length
    ·exact h
    ·simp [getO, List.getD_eq_getElem?_getD, List.getElem?_eq_none (Nat.le_of_not_lt h)] at ho
   have e1 : s.st[l]? = some (.cells cs ro) := by rw [← ho]; simp [getO, List.getD_eq_getElem?_getD, List.getElem?_eq_getElem hl]
   have hlμ : l < μ.length := by rw [hst.len]; exact hl
   have e2 : μ[l]? = some μ[l] := List.getElem?_eq_getElem hlμ
   generalize μ[l] = bd at e2
   obtain ⟨p1, p2, p3⟩ := hst.push sz
   have hp : p < cs.length := by
    by_cases h : p < cs.length
    ·exact h
    ·rw [List.getD_eq_getElem?_getD, List.getElem?_eq_none (Nat.le_of_not_lt h)] at hc; cases hc
   have hro : RepO M (μ ++ [(⟨none, 1, 0, 0, sz⟩ : Bd)]) w (.cells (cs.set p (.la s.st.length 1)) ro) bd := by
    obtain ⟨b, c, t, rfl, h2, h3, h4, h5⟩ := hst.rep l _ bd e1 e2
    refine ⟨b, c, t, rfl, h2, by simpa using h3, fun j a e => ?_, h5⟩
    by_cases hj : j = p
    ·subst hj
     rw [List.getElem?_set_self hp] at e
     cases e
     obtain ⟨v, k1, k0, k2⟩ := h4 j _ (List.getElem?_eq_getElem hp)
     rw [List.getD_eq_getElem?_getD, List.getElem?_eq_getElem hp] at hc
     obtain ⟨A, rfl⟩ := emptyB_spec hc k2
     exact ⟨_, k1, k0, .la (bd := ⟨none, 1, 0, 0, sz⟩) (by rw [← hst.len]; simp) (by omega) (Nat.le_refl _) (fun _ => ⟨A, rfl⟩) rfl⟩
    ·rw [List.getElem?_set_ne (Ne.symm hj)] at e
     obtain ⟨v, k1, k0, k2⟩ := h4 j a e
     exact ⟨v, k1, k0, k2.mono (.refl M) p2⟩
   have hl' : l < (s.st ++ [AObj.arr 1 sz []]).length := by simp; omega
   have hset : (s.st.set l (.cells (cs.set p (.la s.st.length 1)) ro)) ++ [AObj.arr 1 sz []] = (s.st ++ [AObj.arr 1 sz []]).set l (.cells (cs.set p (.la s.st.length 1)) ro) := by
    rw [List.set_append_left _ _ hl]
   have hback : ∀ (i : Nat) (x : AObj) (q : Bd), ((s.st ++ [AObj.arr 1 sz []]).set l (.cells (cs.set p (.la s.st.length 1)) ro))[i]? = some x →
     (μ ++ [(⟨none, 1, 0, 0, sz⟩ : Bd)])[i]? = some q → ∃ y, (s.st ++ [AObj.arr 1 sz []])[i]? = some y ∧ x.here = y.here ∧ (i ≠ l → x = y) := fun i x q g1 g2 => by
    by_cases hi : i = l
    ·subst hi
     rw [List.getElem?_set_self hl'] at g1
     cases g1
     exact ⟨.cells cs ro, by rw [List.getElem?_append_left hl]; exact e1, rfl, fun h => absurd rfl h⟩
    ·rw [List.getElem?_set_ne (Ne.symm hi)] at g1
     exact ⟨x, g1, rfl, fun _ => rfl⟩
   simp only [hset]
   refine ⟨M, _, ⟨hsize, hdef, fun t' => (htm t').mono (.refl M) p2, ?_⟩, ?_, p2.to m⟩
   ·refine ⟨by simp [hst.len], fun i x q g1 g2 => ?_, fun i x q g1 g2 hx => ?_, fun i j x y q r b hij g1 g2 hx hy g3 g4 hq => ?_, hst.mem⟩
    ·by_cases hi : i = l
     ·subst hi
      rw [List.getElem?_set_self hl'] at g1
      cases g1
      rw [List.getElem?_append_left hlμ] at g2
      rw [e2] at g2
      cases g2
      exact hro
     ·rw [List.getElem?_set_ne (Ne.symm hi)] at g1
      exact p1.rep i x q g1 g2
    ·obtain ⟨y, k1, k2, _⟩ := hback i x q g1 g2
     exact p1.dead i y q k1 g2 (k2 ▸ hx)
    ·obtain ⟨x0, k1, k2, _⟩ := hback i x q g1 g3
     obtain ⟨y0, k3, k4, _⟩ := hback j y r g2 g4
     exact p1.apart i j x0 y0 q r b hij k1 k3 (k2 ▸ hx) (k4 ▸ hy) g3 g4 hq
   ·refine ⟨rfl, rfl, rfl, Nat.le_refl _, fun _ _ _ => rfl, .refl M, fun b o v h k => by simp [h] at k, fun b ho => ?_⟩
    obtain ⟨i, x, q, g1, hx, g2, g3⟩ := ho
    obtain ⟨y, k1, k2, _⟩ := hback i x q g1 g2
    exact p3.own b ⟨i, y, q, k1, k2 ▸ hx, g2, g3⟩
 ·cases h
def roOW (l p lo n : Nat) (s : ASt) : Option ASt :=
 match getO s.st l with
 | .cells cs ro => match cs[p]? with
  | some (.lp l' off) => bif Nat.beq l' l && Nat.ble lo off && (Nat.ble (lo + n) cs.length && Nat.ble 1 n) && ((cs.drop lo).take n).all (dataB 6) then
    some { tm := s.tm, st := s.st.set l (.cells (cs.set p (.ip ((cs.drop lo).take n) (off - lo))) ((List.range n).map (lo + ·) ++ ro)) } else none
  | _ => none
 | _ => none
theorem roOW_weak {N m l p lo n : Nat} {s s2 : ASt} (h : roOW l p lo n s = some s2) : Weak N m s s2 := by
 intro M μ a w hr
 unfold roOW at h
 split at h
 ·rename_i cs ro ho
  split at h
  ·rename_i l' off hp
   cases hc : (Nat.beq l' l && Nat.ble lo off && (Nat.ble (lo + n) cs.length && Nat.ble 1 n) && ((cs.drop lo).take n).all (dataB 6)) with
   | false => rw [hc] at h; cases h
   | true =>
    rw [hc] at h
    simp only [cond_true, Option.some.injEq] at h
    subst h
    simp only [Bool.and_eq_true] at hc
    obtain ⟨⟨⟨hl', hlo⟩, hn, hn1⟩, hd⟩ := hc
    obtain rfl := Nat.eq_of_beq_eq_true hl'
    have hlo : lo ≤ off := Nat.le_of_ble_eq_true hlo
    have hn : lo + n ≤ cs.length := Nat.le_of_ble_eq_true hn
    have hn1 : 1 ≤ n := Nat.le_of_ble_eq_true hn1
    obtain ⟨hsize, hdef, htm, hst⟩ := hr
    have hl : l' < s.st.length := by
     apply Classical.byContradiction
     intro hge
     rw [getO, List.getD_eq_getElem?_getD, List.getElem?_eq_none (by omega)] at ho
     cases ho
    have e1 : s.st[l']? = some (.cells cs ro) := by
     rw [← ho]; simp [getO, List.getD_eq_getElem?_getD, List.getElem?_eq_getElem hl]
    have hlμ : l' < μ.length := by rw [hst.len]; exact hl
    have e2 : μ[l']? = some μ[l'] := List.getElem?_eq_getElem hlμ
    have hro := hst.rep l' _ _ e1 e2
    obtain ⟨b, c, t, hb, h2, h3, h4, h5⟩ := hro
    have hown : Own μ s.st b := ⟨l', _, _, e1, rfl, e2, by rw [hb]; rfl⟩
    let M2 : Mem := fun b' x => if b' = b ∧ lo ≤ x ∧ x < lo + n then (c[x]?).filter (·.oneCell') else M b' x
    have hM2 : ∀ b' x, M2 b' x = if b' = b ∧ lo ≤ x ∧ x < lo + n then (c[x]?).filter (·.oneCell') else M b' x := fun _ _ => rfl
    have hle : M.le M2 := fun b' x v hv => by
     rw [hM2]
     split
     ·rename_i e
      obtain ⟨rfl, _⟩ := e
      have := hst.mem b' x v hv
      rw [cell_of_heap h2] at this
      exact filter_some.2 this
     ·exact hv
    have hmem : ∀ b' x v, M2 b' x = some v → w.cell? ⟨b', x, none⟩ = some v ∧ v.oneCell' = true := fun b' x v hv => by
     rw [hM2] at hv
     split at hv
     ·rename_i e
      obtain ⟨rfl, _⟩ := e
      rw [cell_of_heap h2]
      exact filter_some.1 hv
     ·exact hst.mem b' x v hv
    have hother : ∀ b' x, b' ≠ b → M2 b' x = M b' x := fun b' x hne => by
     rw [hM2, if_neg (fun e => hne e.1)]
    have hip : ∀ v, RepV M μ (.lp l' off) v → RepV M2 μ (.ip ((cs.drop lo).take n) (off - lo)) v := fun v hv => by
     cases hv with
     | @lp _ _ _ b0 e =>
      rw [e2, hb] at e
      have hbe : b = b0 := by
       have := Option.some.inj e
       simp [Bd.at] at this
       exact this
      subst hbe
      have hcell : ∀ (j : Nat) (a : AV), ((cs.drop lo).take n)[j]? = some a → j < n ∧ ∃ v, c[lo + j]? = some v ∧ v.oneCell' = true ∧ RepV M [] a v := fun j a e => by
       have hmem := List.mem_of_getElem? e
       rw [List.getElem?_take] at e
       split at e
       ·rename_i hj
        rw [List.getElem?_drop] at e
        obtain ⟨v, k1, k0, k2⟩ := h4 _ a e
        exact ⟨hj, v, k1, k0, k2.ofData 6 (List.all_eq_true.1 hd a hmem)⟩
       ·cases e
      have := RepV.ip (M := M2) (μ := μ) (cs := (cs.drop lo).take n) (off := off - lo) (b := b) (o := lo) (fun j => (c[lo + j]?).getD undef)
       (by intro e; have := congrArg List.length e; simp at this; omega)
       (fun j a e => by
        obtain ⟨hj, v, k1, k0, _⟩ := hcell j a e
        rw [hM2, if_pos ⟨rfl, by omega, by omega⟩, k1]
        exact filter_some.2 ⟨rfl, k0⟩)
       (fun j a e => by
        obtain ⟨hj, v, k1, k0, k2⟩ := hcell j a e
        rw [k1]
        exact k2.mono hle (EvoAll.refl _))
      rw [show lo + (off - lo) = off by omega] at this
      exact this
    have hback : ∀ (i : Nat) (x : AObj), (s.st.set l' (.cells (cs.set p (.ip ((cs.drop lo).take n) (off - lo))) ((List.range n).map (lo + ·) ++ ro)))[i]? = some x → ∃ y, s.st[i]? = some y ∧ x.here = y.here ∧
      (i ≠ l' → x = y) ∧ (i = l' → x = .cells (cs.set p (.ip ((cs.drop lo).take n) (off - lo))) ((List.range n).map (lo + ·) ++ ro)) := fun i x g => by
     by_cases hi : i = l'
     ·subst hi
      rw [List.getElem?_set_self hl] at g
      cases g
      exact ⟨_, e1, rfl, fun h => absurd rfl h, fun _ => rfl⟩
     ·rw [List.getElem?_set_ne (Ne.symm hi)] at g
      exact ⟨x, g, rfl, fun _ => rfl, fun h => absurd h hi⟩
    refine ⟨M2, μ, ⟨hsize, hdef, fun t => (htm t).mono hle (EvoAll.refl _), ⟨by simpa using hst.len, fun i x q g1 g2 => ?_, fun i x q g1 g2 hx => ?_, fun i j x y q r b' hij g1 g2 hx hy g3 g4 hq => ?_, hmem⟩⟩,
     ⟨rfl, rfl, rfl, Nat.le_refl _, fun _ _ _ => rfl, hle, fun b' o v h k => .inr ?_, fun b' ho => .inr ?_⟩, .refl m μ⟩
    ·obtain ⟨y, k1, k2, k3, k4⟩ := hback i x g1
     by_cases hi : i = l'
     ·rw [k4 hi]
      subst hi
      rw [e2] at g2
      cases g2
      refine ⟨b, c, t, hb, h2, by simpa using h3, fun j a e => ?_, fun z hz => ?_⟩
      ·rw [List.getElem?_set] at e
       split at e
       ·rename_i hpj
        subst hpj
        split at e
        ·cases e
         obtain ⟨v, q1, q0, q2⟩ := h4 p _ hp
         exact ⟨v, q1, q0, hip v q2⟩
        ·cases e
       ·obtain ⟨v, q1, q0, q2⟩ := h4 j a e
        exact ⟨v, q1, q0, q2.mono hle (EvoAll.refl _)⟩
      ·rw [List.mem_append, not_or] at hz
       rw [hM2, if_neg (fun e => hz.1 (by simp only [List.mem_map, List.mem_range]; exact ⟨z - lo, by omega, by omega⟩))]
       exact h5 z hz.2
     ·rw [k3 hi]
      refine (hst.rep i y q k1 g2).mono hle (EvoAll.refl _) (fun b' hb' => ⟨rfl, fun z hz => ?_⟩)
      by_cases hy : y.here = true
      ·rw [hother b' z (fun e => ?_)]
       ·exact hz
       ·subst e
        exact hst.apart i l' y _ q _ b' hi k1 e1 hy rfl g2 e2 hb' (by rw [hb]; rfl)
      ·have := hst.dead i y q k1 g2 (by simpa using hy)
       rw [this] at hb'
       cases hb'
    ·obtain ⟨y, k1, k2, _⟩ := hback i x g1
     exact hst.dead i y q k1 g2 (k2 ▸ hx)
    ·obtain ⟨x0, k1, k2, _⟩ := hback i x g1
     obtain ⟨y0, k3, k4, _⟩ := hback j y g2
     exact hst.apart i j x0 y0 q r b' hij k1 k3 (k2 ▸ hx) (k4 ▸ hy) g3 g4 hq
    ·rw [hM2] at h
     split at h
     ·rename_i e; rw [e.1]; exact hown
     ·rw [k] at h; cases h
    ·obtain ⟨i, x, q, g1, hx, g2, g3⟩ := ho
     obtain ⟨y, k1, k2, _⟩ := hback i x g1
     exact ⟨i, y, q, k1, k2 ▸ hx, g2, g3⟩
  ·cases h
 ·cases h
end Go.Ae
namespace Go.Ae
inductive Ent where
 | no
 | bit (b : Bool)
 | int (n : Int)
 | str (s : ByteArray)
 | row (k : Nat) (cs : List AV)
 | byte (k : Nat) (c : UInt8)
 | nat (k : Nat)
 | rows (xs : List (List AV))
 | look (r : Option AV)
 | loc
 | call (r : AV) (σ : List AObj)
structure Res where
 r : AV
 wr : List (Nat × AObj)
 ac : List (Nat × Bool)
 ob : List Prop
def applyWr (st : List AObj) (wr : List (Nat × AObj)) : List AObj := wr.foldl (fun s p => s.set p.1 p.2) st
def cvt1 : Value → AV
 | .slice none 0 0 => .nil
 | .pointer none => .ip [] 0
 | v => .sc v
def cvt : Value → AV
 | .slice none 0 0 => .nil
 | .pointer none => .ip [] 0
 | .agg us => .agg (us.toList.map cvt1)
 | v => .sc v
theorem cvt1_rep (M : Mem) (μ : List Bd) (v : Value) : RepV M μ (cvt1 v) v := by
 unfold cvt1
 split
 ·exact .nil
 ·exact .ip0
 ·exact .sc
theorem cvt_rep (M : Mem) (μ : List Bd) (v : Value) : RepV M μ (cvt v) v := by
 unfold cvt
 split
 ·exact .nil
 ·exact .ip0
 ·rename_i us
  have : RepV M μ (.agg (us.toList.map cvt1)) (.agg us.toList.toArray) := .agg (by simp) fun j a u e1 e2 => by
   rw [List.getElem?_map, e2] at e1
   cases e1
   exact cvt1_rep M μ u
  simpa using this
 ·exact .sc
def evA (s : ASt) : Operand → AV
 | .tmp t => s.tm t
 | .const v => cvt v
 | .global _ => .any
 | .func f => .fn f []
theorem evA_rep {N : Nat} {M : Mem} {μ : List Bd} {s : ASt} {a : Act} {w : World} (h : Rel N M μ s a w) (x : Operand) : RepV M μ (evA s x) (a.eval x) := by
 cases x with
 | tmp t => have := h.tm t; simpa [Act.eval, evA] using this
 | const v => exact cvt_rep M μ v
 | global g => exact .any
 | func f => exact .fn (us := []) rfl (by simp)
theorem RepV.scv {M : Mem} {μ : List Bd} {u v : Value} (h : RepV M μ (.sc v) u) : u = v := by cases h; rfl
def RL (M : Mem) (μ : List Bd) (cs : List AV) (c : Array Value) : Prop := c.size = cs.length ∧ ∀ (j : Nat) (a : AV), cs[j]? = some a → ∃ v, c[j]? = some v ∧ v.oneCell' = true ∧ RepV M μ a v
def oneB : AV → Bool
 | .sc v => v.oneCell'
 | .any => false
 | .agg _ => false
 | .tup _ => false
 | _ => true
theorem oneB_spec {M : Mem} {μ : List Bd} {a : AV} {v : Value} (h : oneB a = true) (hr : RepV M μ a v) : v.oneCell' = true := by
 cases hr <;> first | rfl | assumption | simp [oneB] at h | simpa [oneB] using h
theorem one_cells {v : Value} (h : v.oneCell' = true) : v.cells = #[v] := by cases v <;> first | rfl | simp [Value.oneCell'] at h
def cellsOf (a : AV) : Option (List AV) :=
 match a with
 | .agg cs => bif cs.all oneB then some cs else none
 | a => bif oneB a then some [a] else none
theorem cellsOf_rep {M : Mem} {μ : List Bd} {a : AV} {v : Value} {cs : List AV} (h : cellsOf a = some cs) (hr : RepV M μ a v) : RL M μ cs v.cells := by
 unfold cellsOf at h
 split at h
 ·rename_i cs'
  cases hb : cs'.all oneB with
  | false => rw [hb] at h; cases h
  | true =>
   rw [hb] at h
   cases h
   rw [List.all_eq_true] at hb
   cases hr with
   | @agg _ _ us hl hr =>
    refine ⟨by simpa [Value.cells] using hl, fun j a e => ?_⟩
    have hj : j < us.length := by rw [hl]; exact (List.getElem?_eq_some_iff.1 e).1
    have := hr j a _ e (List.getElem?_eq_getElem hj)
    exact ⟨us[j], by simp [Value.cells, hj], oneB_spec (hb a (List.mem_of_getElem? e)) this, this⟩
 ·cases hb : oneB a with
  | false => rw [hb] at h; cases h
  | true =>
   rw [hb] at h
   cases h
   rw [one_cells (oneB_spec hb hr)]
   refine ⟨rfl, fun j x e => ?_⟩
   cases j with
   | zero => simp at e; subst e; exact ⟨v, rfl, oneB_spec hb hr, hr⟩
   | succ j => simp at e
theorem RL.mono {M M' : Mem} {μ μ' : List Bd} {cs : List AV} {c : Array Value} (h : RL M μ cs c) (hM : M.le M') (hE : EvoAll μ μ') : RL M' μ' cs c :=
 ⟨h.1, fun j a e => by obtain ⟨v, e1, e0, e2⟩ := h.2 j a e; exact ⟨v, e1, e0, e2.mono hM hE⟩⟩
theorem RL.toAgg {M : Mem} {μ : List Bd} {cs : List AV} {c : Array Value} (h : RL M μ cs c) : RepV M μ (.agg cs) (.agg c) := by
 have := RepV.agg (M := M) (μ := μ) (cs := cs) (us := c.toList) (by simpa using h.1) fun j a u e1 e2 => by
  obtain ⟨v, e3, _, e4⟩ := h.2 j a e1
  rw [Array.getElem?_toList, e3] at e2
  cases e2
  exact e4
 simpa using this
def OpOk (M : Mem) (μ : List Bd) (st : List AObj) (w : World) (res : Res) (run : Result Next) : Prop :=
 ∃ v w' M' μ', (run = .ok (.value v) w' ∨ (run = .ok .skip w' ∧ v = undef)) ∧ StoreOk M' μ' (applyWr st res.wr) w' ∧
  Stp M μ st w M' μ' (applyWr st res.wr) w' ∧ EvoAll μ μ' ∧ RepV M' μ' res.r v
theorem OpOk.val {M : Mem} {μ : List Bd} {st : List AObj} {w : World} {r : AV} {ac : List (Nat × Bool)} {ob : List Prop} {run : Result Next} {v : Value}
  (hst : StoreOk M μ st w) (hrun : run = .ok (.value v) w) (hr : RepV M μ r v) : OpOk M μ st w ⟨r, [], ac, ob⟩ run :=
 ⟨v, w, M, μ, .inl hrun, hst, .refl M μ st w, .refl μ, hr⟩
theorem Mem.lt {M : Mem} {w : World} (hm : ∀ b o v, M b o = some v → w.cell? ⟨b, o, none⟩ = some v ∧ v.oneCell' = true) {b o : Nat} {v : Value} (h : M b o = some v) : b < w.heap.size :=
 World.block_lt_of_cell? w ⟨b, o, none⟩ (hm b o v h).1
theorem Mem.none {M : Mem} {w : World} (hm : ∀ b o v, M b o = some v → w.cell? ⟨b, o, none⟩ = some v ∧ v.oneCell' = true) {b : Nat} (h : w.heap.size ≤ b) (o : Nat) : M b o = .none := by
 cases e : M b o with
 | none => rfl
 | some v => have := Mem.lt hm e; omega
theorem alloc_heap_old (w : World) (o : Obj) {b : Nat} (h : b < w.heap.size) : (w.alloc o).heap[b]? = w.heap[b]? := by
 show (w.heap.push o)[b]? = _
 rw [Array.getElem?_push, if_neg (by omega)]
theorem alloc_heap_new (w : World) (o : Obj) : (w.alloc o).heap[w.heap.size]? = some o := by
 show (w.heap.push o)[w.heap.size]? = _
 rw [Array.getElem?_push, if_pos rfl]
theorem alloc_cell_old (w : World) (o : Obj) {b x : Nat} {v : Value} (h : w.cell? ⟨b, x, none⟩ = some v) : (w.alloc o).cell? ⟨b, x, none⟩ = some v := by
 rw [World.cell?_alloc_lt]
 ·exact h
 ·exact World.block_lt_of_cell? w ⟨b, x, none⟩ h
theorem StoreOk.newObj {M : Mem} {μ : List Bd} {st : List AObj} {w : World} {slot : Nat} {o : AObj} {bd : Bd} {ob : Obj} (h : StoreOk M μ st w)
  (hs : st[slot]? = some .gone) (hb : bd.b = some w.heap.size) (hh : o.here = true)
  (hr : RepO M (μ.set slot bd) (w.alloc ob) o bd) :
  StoreOk M (μ.set slot bd) (st.set slot o) (w.alloc ob) ∧ Stp M μ st w M (μ.set slot bd) (st.set slot o) (w.alloc ob) ∧ EvoAll μ (μ.set slot bd) := by
 have hl : slot < st.length := (List.getElem?_eq_some_iff.1 hs).1
 have hz : ∀ p, μ[slot]? = some p → p = Bd.zero := fun p e => h.dead slot _ p hs e rfl
 have hE : ∀ p, μ[slot]? = some p → p.evo bd := fun p e => .inl (hz p e)
 refine ⟨h.update hl (.refl M) hE (fun b hb' _ => ⟨alloc_heap_old w ob hb', fun _ h => h⟩) (fun i x p b e1 hx e2 e3 => h.lt e1 hx e2 e3) hr (fun e => by rw [hh] at e; cases e)
  (fun b e _ i x p _ e1 hx e2 e3 => ?_) (fun b x v e => ⟨alloc_cell_old w ob (h.mem b x v e).1, (h.mem b x v e).2⟩), ⟨rfl, rfl, rfl, by simp, fun b hb' _ => alloc_heap_old w ob hb', .refl M, fun b x v e k => by simp [e] at k, fun b ho => ?_⟩, EvoAll.set hE⟩
 ·rw [hb] at e
  cases e
  have := h.lt e1 hx e2 e3
  omega
 ·obtain ⟨i, x, p, e1, hx, e2, e3⟩ := ho
  by_cases hi : i = slot
  ·subst hi
   rw [List.getElem?_set_self (by rw [h.len]; exact hl)] at e2
   cases e2
   rw [hb] at e3
   cases e3
   exact .inl (Nat.le_refl _)
  ·rw [List.getElem?_set_ne (Ne.symm hi)] at e1 e2
   exact .inr ⟨i, x, p, e1, hx, e2, e3⟩
theorem OpOk.newCells {M : Mem} {μ : List Bd} {st : List AObj} {w : World} {slot : Nat} {cs : List AV} {c : Array Value} {t : TypeId} {ac : List (Nat × Bool)} {ob : List Prop} {run : Result Next}
  (h : StoreOk M μ st w) (hs : st[slot]? = some .gone) (hc : RL M μ cs c)
  (hrun : run = .ok (.value (.pointer (some ⟨w.heap.size, 0, none⟩))) (w.alloc (.cells c t))) :
  OpOk M μ st w ⟨.lp slot 0, [(slot, .cells cs [])], ac, ob⟩ run := by
 have hl : slot < μ.length := by rw [h.len]; exact (List.getElem?_eq_some_iff.1 hs).1
 have hz : ∀ p, μ[slot]? = some p → p.evo (Bd.at w.heap.size) := fun p e => .inl (h.dead slot _ p hs e rfl)
 obtain ⟨h1, h2, h3⟩ := h.newObj (o := .cells cs []) (bd := Bd.at w.heap.size) (ob := .cells c t) hs rfl rfl
  ⟨w.heap.size, c, t, rfl, alloc_heap_new w _, hc.1, fun j a e => by
   obtain ⟨v, e1, e0, e2⟩ := hc.2 j a e
   exact ⟨v, e1, e0, e2.mono (.refl M) (EvoAll.set hz)⟩, fun o _ => Mem.none h.mem (Nat.le_refl _) o⟩
 exact ⟨_, _, M, _, .inl hrun, h1, h2, h3, .lp (List.getElem?_set_self hl)⟩
def RowsIn (M : Mem) (sz : Nat) (rows : List (List AV)) (c : Array Value) : Prop :=
 (∀ (i : Nat) (row : List AV), rows[i]? = some row → row.length = sz) ∧
 ∀ (i : Nat) (row : List AV) (j : Nat) (a : AV), rows[i]? = some row → row[j]? = some a → ∃ v, c[i * sz + j]? = some v ∧ v.oneCell' = true ∧ RepV M [] a v
theorem OpOk.newRow {M : Mem} {μ : List Bd} {st : List AObj} {w : World} {sz n cap : Nat} {rows : List (List AV)} {full : Bool} {c : Array Value} {t : TypeId} {ac : List (Nat × Bool)} {ob : List Prop} {run : Result Next} {d : Nat} {fr : Nat × Nat}
  (h : StoreOk M μ st w) (hc : RowsIn M sz rows c) (hn : rows.length = n) (hcap : n ≤ cap) (hf : full = true → cap = n)
  (hrun : run = .ok (.value (.slice (some ⟨w.heap.size, 0, none⟩) n cap)) ({ w with drawn := d }.alloc (.cells c t fr))) :
  OpOk M μ st w ⟨.sl sz rows full, [], ac, ob⟩ run := by
 subst hn
 let M' : Mem := fun b x => if b = w.heap.size then (c[x]?).filter (·.oneCell') else M b x
 have hM : M.le M' := fun b x v e => by
  have := Mem.lt h.mem e
  show (if b = w.heap.size then (c[x]?).filter (·.oneCell') else M b x) = some v
  rw [if_neg (by omega)]; exact e
 have hmem : ∀ b x v, M' b x = some v → ({ w with drawn := d }.alloc (.cells c t fr)).cell? ⟨b, x, none⟩ = some v ∧ v.oneCell' = true := fun b x v e => by
  by_cases hb : b = w.heap.size
  ·subst hb
   have e' : (c[x]?).filter (·.oneCell') = some v := by simpa only [M', if_true] using e
   rw [cell_of_heap (alloc_heap_new _ _)]
   exact filter_some.1 e'
  ·have e' : M b x = some v := by simpa [M', hb] using e
   exact ⟨alloc_cell_old _ _ (h.mem b x v e').1, (h.mem b x v e').2⟩
 have hwr : applyWr st [] = st := rfl
 refine ⟨_, _, M', μ, .inl hrun, ⟨h.len, fun l o bd e1 e2 => ?_, h.dead, h.apart, hmem⟩, ⟨rfl, rfl, rfl, by simp, fun b hb _ => alloc_heap_old _ _ hb, hM, fun b x v e k => .inl ?_, fun b ho => .inr ho⟩, .refl μ, ?_⟩
 ·have hr := h.rep l o bd e1 e2
  by_cases hx : o.here = true
  ·refine hr.mono hM (.refl μ) fun b e => ?_
   have hb := h.lt e1 hx e2 e
   refine ⟨alloc_heap_old _ _ hb, fun x hx => ?_⟩
   show (if b = w.heap.size then (c[x]?).filter (·.oneCell') else M b x) = none
   rw [if_neg (by omega)]; exact hx
  ·cases o <;> first | trivial | exact absurd rfl hx
 ·by_cases hb : b = w.heap.size
  ·omega
  ·have e' : M b x = some v := by simpa [M', hb] using e
   rw [e'] at k; cases k
 ·by_cases hne : rows = []
  ·subst hne
   cases full with
   | true => have := hf rfl; subst this; exact .sl0f
   | false => exact .sl0
  ·refine .sl (b := w.heap.size) (o := 0) (fun i j => (c[i * sz + j]?).getD undef) hne hcap hf hc.1 (fun i row j a e1 e2 => ?_) (fun i row j a e1 e2 => ?_)
   ·obtain ⟨v, e3, e0, _⟩ := hc.2 i row j a e1 e2
    simp only [M', if_true, Nat.zero_add, e3, Option.getD_some]
    exact filter_some.2 ⟨rfl, e0⟩
   ·obtain ⟨v, e3, _, e4⟩ := hc.2 i row j a e1 e2
    simp only [e3, Option.getD_some]
    exact e4.mono hM (.refl [])
theorem OpOk.newArr {M : Mem} {μ : List Bd} {st : List AObj} {w : World} {slot sz n cap : Nat} {rows : List (List AV)} {c : Array Value} {t : TypeId} {ac : List (Nat × Bool)} {ob : List Prop} {run : Result Next} {d : Nat}
  (h : StoreOk M μ st w) (hs : st[slot]? = some .gone) (hc : RowsIn M sz rows c) (hn : rows.length = n) (hcap : n ≤ cap) (hsz : c.size = cap * sz)
  (hrun : run = .ok (.value (.slice (some ⟨w.heap.size, 0, none⟩) n cap)) ({ w with drawn := d }.alloc (.cells c t))) :
  OpOk M μ st w ⟨.la slot 1, [(slot, .arr 1 sz rows)], ac, ob⟩ run := by
 subst hn
 have hl : slot < μ.length := by rw [h.len]; exact (List.getElem?_eq_some_iff.1 hs).1
 obtain ⟨h1, h2, h3⟩ := (h.drew d).newObj (o := .arr 1 sz rows) (bd := ⟨some w.heap.size, 1, cap, rows.length, sz⟩) (ob := .cells c t) hs rfl rfl
  ⟨by omega, rfl, rfl, rfl, c, t, alloc_heap_new _ _, hsz, hcap, hc.1, hc.2, fun o => Mem.none h.mem (Nat.le_refl _) o⟩
 refine ⟨_, _, M, _, .inl hrun, h1, ?_, h3, .la (List.getElem?_set_self hl) (by omega) (Nat.le_refl _) (fun _ => rfl) rfl⟩
 exact (Stp.drew M μ st w d).trans h2
end Go.Ae
namespace Go.Ae
section
variable {P : Program} (w : World)
theorem run_typeInfo {t : TypeId} {i : TypeInfo} (h : P.info? t = some i) : (typeInfo t).run P w = .ok i w := by simp [typeInfo, h]
theorem run_sizeOf {t : TypeId} {i : TypeInfo} (h : P.info? t = some i) : (sizeOf t).run P w = .ok i.size w := by simp [sizeOf, run_typeInfo w h]
theorem run_zeroValue {t : TypeId} {i : TypeInfo} {z : Value} (h : P.info? t = some i) (hz : i.zero = some z) : (zeroValue t).run P w = .ok z w := by
 simp [zeroValue, run_typeInfo w h, hz]
def aggT (P : Program) (t : TypeId) : Option Bool :=
 match P.underlying t with
 | some (.struct _) => some true
 | some (.array ..) => some true
 | some _ => some false
 | none => none
theorem run_isAgg {t : TypeId} {b : Bool} (h : aggT P t = some b) : (isAgg t).run P w = .ok b w := by
 unfold aggT at h
 cases hu : P.underlying t with
 | none => simp [hu] at h
 | some d => cases d <;> simp_all [isAgg, run_underlying hu]
theorem addr_add (b o n : Nat) : (⟨b, o, none⟩ : Addr).add n = ⟨b, o + n, none⟩ := by
 unfold Addr.add; split <;> simp_all
def szT (P : Program) (t : TypeId) : Option Nat := (P.info? t).map (·.size)
def ldA (P : Program) (t : TypeId) (cs : List AV) (off : Nat) : Option AV :=
 match aggT P t, szT P t with
 | some true, some n => bif Nat.beq ((cs.drop off).take n).length n then some (.agg ((cs.drop off).take n)) else none
 | some false, some _ => cs[off]?
 | _, _ => none
theorem run_loadAt {M : Mem} {μ : List Bd} {t : TypeId} {cs : List AV} {off b o : Nat} {r : AV} (h : ldA P t cs off = some r)
  (hc : ∀ (j : Nat) (a : AV), cs[j]? = some a → ∃ v, w.cell? ⟨b, o + j, none⟩ = some v ∧ RepV M μ a v) :
  ∃ v, (Instr.loadAt t (.pointer (some ⟨b, o + off, none⟩))).run P w = .ok v w ∧ RepV M μ r v := by
 unfold ldA at h
 cases ha : aggT P t with
 | none => simp [ha] at h
 | some agg =>
  cases hs : szT P t with
  | none => cases agg <;> simp [ha, hs] at h
  | some n =>
   obtain ⟨i, hi, rfl⟩ := Option.map_eq_some_iff.1 hs
   cases agg with
   | false =>
    simp only [ha, hs] at h
    obtain ⟨v, h1, h2⟩ := hc off r h
    exact ⟨v, by simp [Instr.loadAt, Instr.sureAddr, loadVar, run_isAgg w ha, h1], h2⟩
   | true =>
    simp only [ha, hs] at h
    cases hb : Nat.beq ((cs.drop off).take i.size).length i.size with
    | false => rw [hb] at h; cases h
    | true =>
     rw [hb] at h
     cases h
     have hl := Nat.eq_of_beq_eq_true hb
     have hget : ∀ j, j < i.size → ∃ a, cs[off + j]? = some a ∧ ((cs.drop off).take i.size)[j]? = some a := fun j hj => by
      have : j < ((cs.drop off).take i.size).length := by omega
      refine ⟨_, ?_, List.getElem?_eq_getElem this⟩
      have e := List.getElem?_eq_getElem this
      rw [List.getElem?_take, if_pos hj, List.getElem?_drop] at e
      exact e
     let f : Nat → Value := fun j => (w.cell? ⟨b, o + (off + j), none⟩).getD undef
     have hf : ∀ j, j < i.size → w.cell? ((⟨b, o + off, none⟩ : Addr).add j) = some (f j) := fun j hj => by
      obtain ⟨a, e1, _⟩ := hget j hj
      obtain ⟨v, h1, _⟩ := hc _ a e1
      rw [addr_add, show o + off + j = o + (off + j) by omega, h1]
      simp [f, h1]
     refine ⟨_, by simp [Instr.loadAt, Instr.sureAddr, loadVar, run_isAgg w ha, run_sizeOf w hi, run_loadCells w _ _ f hf]; rfl, ?_⟩
     refine .agg (by rw [hl]; simp) fun j a u e1 e2 => ?_
     have hj : j < i.size := by
      have := (List.getElem?_eq_some_iff.1 e2).1
      simpa using this
     obtain ⟨a', e3, e4⟩ := hget j hj
     rw [e4] at e1
     cases e1
     obtain ⟨v, h1, h2⟩ := hc _ a e3
     rw [List.getElem?_map, List.getElem?_range hj] at e2
     simp only [Option.map_some, Option.some.injEq] at e2
     subst e2
     simp only [f, h1, Option.getD_some]
     exact h2
def putA (c : Array Value) (off : Nat) : List Value → Array Value
 | [] => c
 | v :: vs => putA (c.setIfInBounds off v) (off + 1) vs
theorem putA_size : ∀ (vs : List Value) (c : Array Value) (off : Nat), (putA c off vs).size = c.size
 | [], _, _ => rfl
 | v :: vs, c, off => by rw [putA, putA_size vs]; simp
theorem putA_get : ∀ (vs : List Value) (c : Array Value) (off j : Nat), off + vs.length ≤ c.size →
  (putA c off vs)[j]? = if off ≤ j ∧ j < off + vs.length then vs[j - off]? else c[j]?
 | [], c, off, j, _ => by rw [putA, if_neg (by simp only [List.length_nil]; omega)]
 | v :: vs, c, off, j, h => by
  simp only [List.length_cons] at h ⊢
  rw [putA, putA_get vs _ _ _ (by simp; omega)]
  by_cases h1 : off + 1 ≤ j ∧ j < off + 1 + vs.length
  ·rw [if_pos h1, if_pos (by omega), show j - off = (j - (off + 1)) + 1 by omega]
   simp
  ·rw [if_neg h1, Array.getElem?_setIfInBounds]
   by_cases h2 : off = j
   ·subst h2
    rw [if_pos rfl, if_pos (by omega), if_pos (by omega)]
    simp
   ·rw [if_neg h2, if_neg (by omega)]
theorem setCell_heap_same {b o : Nat} {v : Value} {c : Array Value} {t : TypeId} {fr : Nat × Nat} (h : w.heap[b]? = some (.cells c t fr)) :
  (w.setCell ⟨b, o, none⟩ v).heap[b]? = some (.cells (c.setIfInBounds o v) t fr) := by
 simp [World.setCell, Array.getElem?_modify, h]
theorem setCell_heap_other {b o b' : Nat} {v : Value} (h : b' ≠ b) : (w.setCell ⟨b, o, none⟩ v).heap[b']? = w.heap[b']? := by
 simp only [World.setCell, Array.getElem?_modify]
 rw [if_neg (by omega)]
structure Put (w w' : World) (b : Nat) (c : Array Value) (t : TypeId) : Prop where
 os : w'.os = w.os
 tape : w'.tape = w.tape
 output : w'.output = w.output
 drawn : w'.drawn = w.drawn
 size : w'.heap.size = w.heap.size
 here : w'.heap[b]? = some (.cells c t (0, 0))
 other : ∀ b', b' ≠ b → w'.heap[b']? = w.heap[b']?
theorem run_storeCells (b off : Nat) (t : TypeId) : ∀ (vs : List Value) (k : Nat) (w : World) (c : Array Value), w.heap[b]? = some (.cells c t (0, 0)) → off + k + vs.length ≤ c.size →
  (∀ v ∈ vs, v.oneCell' = true) → ∃ w', (storeCells ⟨b, off, none⟩ vs k).run P w = .ok () w' ∧ Put w w' b (putA c (off + k) vs) t
 | [], k, w, c, h, _, _ => ⟨w, by simp [storeCells], ⟨rfl, rfl, rfl, rfl, rfl, h, fun _ _ => rfl⟩⟩
 | v :: vs, k, w, c, h, hl, hv => by
  simp only [List.length_cons] at hl
  have hcell : w.cell? ⟨b, off + k, none⟩ = some c[off + k] := by
   rw [cell_of_heap h, Array.getElem?_eq_getElem (by omega)]
  have hfr : w.frozen? ⟨b, off + k, none⟩ = false := by simp [World.frozen?, h]
  have h1 : (store ⟨b, off + k, none⟩ v).run P w = .ok () (w.setCell ⟨b, off + k, none⟩ v) := by
   rw [run_store P w _ v _ (hv v (by simp)), hcell]
   simp [hfr]
  have h2 := setCell_heap_same w (o := off + k) (v := v) h
  obtain ⟨w', h3, h4⟩ := run_storeCells b off t vs (k + 1) _ _ h2 (by simp; omega) (fun u hu => hv u (by simp [hu]))
  refine ⟨w', by simp [storeCells, addr_add, h1, h3], ?_⟩
  exact ⟨h4.os, h4.tape, h4.output, h4.drawn, by rw [h4.size]; simp, h4.here, fun b' hb => by rw [h4.other b' hb, setCell_heap_other w hb]⟩
theorem run_storeAt {t : TypeId} {i : TypeInfo} {b off : Nat} {ty : TypeId} {v : Value} {c : Array Value} (hi : P.info? t = some i) (hsz : v.cells.size = i.size)
  (h : w.heap[b]? = some (.cells c ty (0, 0))) (hl : off + v.cells.size ≤ c.size) (hv : ∀ u ∈ v.cells.toList, u.oneCell' = true) :
  ∃ w', (Instr.storeAt t (.pointer (some ⟨b, off, none⟩)) v).run P w = .ok () w' ∧ Put w w' b (putA c off v.cells.toList) ty := by
 obtain ⟨w', h1, h2⟩ := run_storeCells (P := P) b off ty v.cells.toList 0 w c h (by simpa using hl) hv
 exact ⟨w', by simp [Instr.storeAt, Instr.sureAddr, storeVar, run_sizeOf w hi, hsz, h1], by simpa using h2⟩
def putL (cs : List AV) (off : Nat) (vs : List AV) : List AV := cs.take off ++ vs ++ cs.drop (off + vs.length)
theorem putL_length {cs vs : List AV} {off : Nat} (h : off + vs.length ≤ cs.length) : (putL cs off vs).length = cs.length := by
 simp [putL]; omega
theorem putL_get {cs vs : List AV} {off j : Nat} (h : off + vs.length ≤ cs.length) :
  (putL cs off vs)[j]? = if off ≤ j ∧ j < off + vs.length then vs[j - off]? else cs[j]? := by
 unfold putL
 have h1 : (cs.take off).length = off := by simp; omega
 by_cases ha : j < off
 ·rw [List.getElem?_append_left (by simp; omega), List.getElem?_append_left (by omega), if_neg (by omega), List.getElem?_take, if_pos ha]
 ·by_cases hb : j < off + vs.length
  ·rw [List.getElem?_append_left (by simp; omega), List.getElem?_append_right (by omega), if_pos (by omega), h1]
  ·rw [List.getElem?_append_right (by simp; omega), if_neg (by omega), List.getElem?_drop]
   congr 1
   simp; omega
theorem RL.put {M : Mem} {μ : List Bd} {cs vs : List AV} {c : Array Value} {us : Array Value} {off : Nat} (h : RL M μ cs c) (k : RL M μ vs us) (hl : off + vs.length ≤ cs.length) :
  RL M μ (putL cs off vs) (putA c off us.toList) := by
 have hu : us.toList.length = vs.length := by simpa using k.1
 refine ⟨by rw [putA_size, putL_length hl]; exact h.1, fun j a e => ?_⟩
 rw [putL_get hl] at e
 rw [putA_get _ _ _ _ (by rw [hu, h.1]; exact hl), hu]
 split at e
 ·rename_i hc
  rw [if_pos hc, Array.getElem?_toList]
  exact k.2 _ a e
 ·rename_i hc
  rw [if_neg hc]
  exact h.2 j a e
theorem RL.one {M : Mem} {μ : List Bd} {cs : List AV} {c : Array Value} (h : RL M μ cs c) : ∀ u ∈ c.toList, u.oneCell' = true := fun u hu => by
 obtain ⟨j, hj, rfl⟩ := List.getElem_of_mem hu
 have hj' : j < cs.length := by rw [← h.1]; simpa using hj
 obtain ⟨v, e1, e2, _⟩ := h.2 j _ (List.getElem?_eq_getElem hj')
 have : c[j]? = some c.toList[j] := by rw [← Array.getElem?_toList, List.getElem?_eq_getElem hj]
 rw [this] at e1
 cases e1
 exact e2
def fillA (place : Nat → Option (Nat × Nat)) : List AV → List (Nat × AV) → Option (List AV)
 | cs, [] => some cs
 | cs, (i, x) :: rest =>
  match place i, cellsOf x with
  | some (off, size), some vs => bif Nat.beq vs.length size && Nat.ble (off + vs.length) cs.length then fillA place (putL cs off vs) rest else none
  | _, _ => none
theorem foldl_put (us : List Value) : ∀ (c : Array Value) (off k : Nat), (us.zipIdx k).foldl (fun cs (p : Value × Nat) => cs.setIfInBounds (off + p.2) p.1) c = putA c (off + k) us := by
 induction us with
 | nil => intro c off k; rfl
 | cons u us ih => intro c off k; rw [List.zipIdx_cons, List.foldl_cons, ih, putA]; rfl
theorem fill_rep {M : Mem} {μ : List Bd} {place : Nat → Option (Nat × Nat)} : ∀ (ps : List (Nat × AV)) (qs : List (Nat × Value)) (cs cs' : List AV) (c : Array Value),
  fillA place cs ps = some cs' → RL M μ cs c → ps.length = qs.length → (∀ (j : Nat) (p : Nat × AV) (q : Nat × Value), ps[j]? = some p → qs[j]? = some q → p.1 = q.1 ∧ RepV M μ p.2 q.2) →
  ∃ c', Instr.fill place c qs = some c' ∧ RL M μ cs' c'
 | [], [], cs, cs', c, h, hc, _, _ => by simp only [fillA, Option.some.injEq] at h; subst h; exact ⟨c, rfl, hc⟩
 | [], _ :: _, _, _, _, _, _, hl, _ => by simp at hl
 | _ :: _, [], _, _, _, _, _, hl, _ => by simp at hl
 | (i, x) :: ps, (i', v) :: qs, cs, cs', c, h, hc, hl, hr => by
  obtain ⟨h1, h2⟩ := hr 0 _ _ rfl rfl
  simp only at h1 h2
  subst h1
  simp only [fillA] at h
  split at h
  ·rename_i off size vs hp hx
   cases hb : (Nat.beq vs.length size && Nat.ble (off + vs.length) cs.length) with
   | false => rw [hb] at h; cases h
   | true =>
    rw [hb] at h
    simp only [cond_true] at h
    simp only [Bool.and_eq_true] at hb
    have hs : vs.length = size := Nat.eq_of_beq_eq_true hb.1
    have ho : off + vs.length ≤ cs.length := Nat.le_of_ble_eq_true hb.2
    have hv := cellsOf_rep hx h2
    obtain ⟨c', k1, k2⟩ := fill_rep ps qs _ cs' _ h (hc.put hv ho) (by simpa using hl) (fun j p q e1 e2 => hr (j + 1) p q (by simpa using e1) (by simpa using e2))
    refine ⟨c', ?_, k2⟩
    rw [Instr.fill, hp]
    simp only
    have hn : ¬ ((decide (v.cells.size ≠ size) || decide (off + v.cells.size > c.size)) = true) := by
     rw [hv.1, hc.1]; simp [hs]; omega
    rw [if_neg hn, ← k1]
    congr 1
    rw [← Array.foldl_toList]
    have := foldl_put v.cells.toList c off 0
    rw [Nat.add_zero] at this
    rw [← this]
    simp [Array.toList_zipIdx]
  ·cases h
end
end Go.Ae

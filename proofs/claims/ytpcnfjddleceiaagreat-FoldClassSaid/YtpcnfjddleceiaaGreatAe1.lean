/- The abstract executor, part 1: states, and what may be forgotten of them: renaming, freezing, a slice without elements taken for a row. -/
import Derived.Test.YtpcnfjddleceiaaGreatAe0
namespace Go.Ae

/-- An abstract state: what the temporaries hold, and the objects. -/
structure ASt where
  tm : Nat → AV
  st : List AObj

def lookT : List (Nat × AV) → Nat → AV
  | [], _ => .any
  | (k, v) :: r, t => bif Nat.beq t k then v else lookT r t

def putT (tm : Nat → AV) (d : Nat) (v : AV) : Nat → AV := fun t => bif Nat.beq t d then v else tm t

/-- The state stands for this frame in this world. -/
structure Rel (N : Nat) (M : Mem) (μ : List Bd) (s : ASt) (a : Act) (w : World) : Prop where
  size : a.tmps.size = N
  defers : a.defers = []
  tm : ∀ t, RepV M μ (s.tm t) (a.tmps.getD t undef)
  st : StoreOk M μ s.st w

def Weak (N m : Nat) (s s2 : ASt) : Prop := ∀ M μ a w, Rel N M μ s a w →
  ∃ M2 μ2, Rel N M2 μ2 s2 a w ∧ Stp M μ s.st w M2 μ2 s2.st w ∧ EvoTo m μ μ2

theorem Weak.refl (N m : Nat) (s : ASt) : Weak N m s s := fun M μ _ w h => ⟨M, μ, h, .refl M μ s.st w, .refl m μ⟩
theorem Weak.trans {N m : Nat} {s s1 s2 : ASt} (h : Weak N m s s1) (k : Weak N m s1 s2) : Weak N m s s2 := fun M μ a w hr => by
  obtain ⟨M1, μ1, r1, p1, e1⟩ := h M μ a w hr
  obtain ⟨M2, μ2, r2, p2, e2⟩ := k M1 μ1 a w r1
  exact ⟨M2, μ2, r2, p1.trans p2, e1.trans e2⟩

/-! ### data: no object is named -/
def dataB : Nat → AV → Bool
  | 0, _ => false
  | n + 1, a => match a with
    | .lp .. => false
    | .le .. => false
    | .la .. => false
    | .mp _ => false
    | .fn _ caps => caps.all (dataB n)
    | .ifc _ x => dataB n x
    | .agg cs => cs.all (dataB n)
    | .tup cs => cs.all (dataB n)
    | _ => true

theorem RepV.ofData {M : Mem} {μ : List Bd} {a : AV} {v : Value} (h : RepV M μ a v) : ∀ n, dataB n a = true → RepV M [] a v := by
  induction h with
  | any => exact fun _ _ => .any
  | sc => exact fun _ _ => .sc
  | nil => exact fun _ _ => .nil
  | sl0 => exact fun _ _ => .sl0
  | sl0f => exact fun _ _ => .sl0f
  | sl f hne hc hf hz hm hr _ => exact fun _ _ => .sl f hne hc hf hz hm hr
  | ip f hm hr _ => exact fun _ _ => .ip f hm hr
  | lp => intro n h; cases n <;> simp [dataB] at h
  | le => intro n h; cases n <;> simp [dataB] at h
  | la => intro n h; cases n <;> simp [dataB] at h
  | mp => intro n h; cases n <;> simp [dataB] at h
  | fn hl hr ih =>
    intro n h
    cases n with
    | zero => simp [dataB] at h
    | succ n =>
      simp only [dataB, List.all_eq_true] at h
      exact .fn hl (fun j a u h1 h2 => ih j a u h1 h2 n (h a (List.mem_of_getElem? h1)))
  | ifc hr ih =>
    intro n h
    cases n with
    | zero => simp [dataB] at h
    | succ n => simp only [dataB] at h; exact .ifc (ih n h)
  | agg hl hr ih =>
    intro n h
    cases n with
    | zero => simp [dataB] at h
    | succ n =>
      simp only [dataB, List.all_eq_true] at h
      exact .agg hl (fun j a u e1 e2 => ih j a u e1 e2 n (h a (List.mem_of_getElem? e1)))
  | tup hl hr ih =>
    intro n h
    cases n with
    | zero => simp [dataB] at h
    | succ n =>
      simp only [dataB, List.all_eq_true] at h
      exact .tup hl (fun j a u e1 e2 => ih j a u e1 e2 n (h a (List.mem_of_getElem? e1)))

/-! ### tidy: what a slice's capacity is, is forgotten -/
/-- A pointer into a row: only the n cells from it on are told. -/
def winV (n : Nat) (cs : List AV) (off : Nat) : AV := bif Nat.beq off 0 then .ip cs 0 else .ip ((cs.drop off).take n) 0

def tidyL : List (Option Nat) → List AV → List AV
  | [], cs => cs
  | _ :: _, [] => []
  | some k :: ks, .nil :: cs => .sl k [] false :: tidyL ks cs
  | some _ :: ks, .sl s xs _ :: cs => .sl s xs false :: tidyL ks cs
  | some k :: ks, .ip as off :: cs => winV k as off :: tidyL ks cs
  | _ :: ks, c :: cs => c :: tidyL ks cs

def tidyV (ks : List (Option Nat)) : AV → AV
  | .agg cs => .agg (tidyL ks cs)
  | .nil => match ks with
    | some k :: _ => .sl k [] false
    | _ => .nil
  | .sl s xs f => match ks with
    | some _ :: _ => .sl s xs false
    | _ => .sl s xs f
  | .ip cs off => match ks with
    | some n :: _ => winV n cs off
    | _ => .ip cs off
  | a => a

theorem RepV.nilSl {M : Mem} {μ : List Bd} {v : Value} (h : RepV M μ .nil v) (k : Nat) : RepV M μ (.sl k [] false) v := by
  cases h; exact .sl0
theorem RepV.unfull {M : Mem} {μ : List Bd} {s : Nat} {xs : List (List AV)} {f : Bool} {v : Value} (h : RepV M μ (.sl s xs f) v) : RepV M μ (.sl s xs false) v := by
  cases h with
  | sl0 => exact .sl0
  | sl0f => exact .sl0
  | sl f hne hc hf hz hm hr => exact .sl f hne hc (by simp) hz hm hr

theorem RepV.win {M : Mem} {μ : List Bd} {cs : List AV} {off : Nat} {v : Value} (h : RepV M μ (.ip cs off) v) (n : Nat) : RepV M μ (winV n cs off) v := by
  unfold winV
  cases hb : Nat.beq off 0 with
  | true => rw [Nat.eq_of_beq_eq_true hb] at h; exact h
  | false =>
    cases h with
    | @ip _ _ _ b o f hm hr =>
      refine .ip (b := b) (o := o + off) (off := 0) (fun j => f (off + j)) (fun j a e => ?_) (fun j a e => ?_)
      · have : cs[off + j]? = some a := by
          rw [List.getElem?_take] at e
          split at e
          · rwa [List.getElem?_drop] at e
          · cases e
        rw [Nat.add_assoc]
        exact hm _ a this
      · have : cs[off + j]? = some a := by
          rw [List.getElem?_take] at e
          split at e
          · rwa [List.getElem?_drop] at e
          · cases e
        exact hr _ a this

theorem tidyL_length : ∀ (ks : List (Option Nat)) (cs : List AV), (tidyL ks cs).length = cs.length := by
  intro ks cs
  induction ks, cs using tidyL.induct <;> simp_all [tidyL]

theorem tidyL_rep {M : Mem} {μ : List Bd} : ∀ (ks : List (Option Nat)) (cs : List AV) (us : List Value),
    (∀ (j : Nat) (a : AV) (u : Value), cs[j]? = some a → us[j]? = some u → RepV M μ a u) →
    ∀ (j : Nat) (a : AV) (u : Value), (tidyL ks cs)[j]? = some a → us[j]? = some u → RepV M μ a u := by
  intro ks cs
  induction ks, cs using tidyL.induct with
  | case1 cs => intro us h; simpa [tidyL] using h
  | case2 => intro us h j a u h1; simp [tidyL] at h1
  | case3 k ks cs ih =>
    intro us h j a u h1 h2
    cases j with
    | zero => simp [tidyL] at h1; subst h1; exact (h 0 _ u (by simp) h2).nilSl k
    | succ j =>
      cases us with
      | nil => simp at h2
      | cons x us => exact ih us (fun j a u e1 e2 => h (j + 1) a u (by simpa using e1) (by simpa using e2)) j a u (by simpa [tidyL] using h1) (by simpa using h2)
  | case4 k ks s xs f cs ih =>
    intro us h j a u h1 h2
    cases j with
    | zero => simp [tidyL] at h1; subst h1; exact (h 0 (.sl s xs f) u (by simp) h2).unfull
    | succ j =>
      cases us with
      | nil => simp at h2
      | cons x us => exact ih us (fun j a u e1 e2 => h (j + 1) a u (by simpa using e1) (by simpa using e2)) j a u (by simpa [tidyL] using h1) (by simpa using h2)
  | case5 k ks as off cs ih =>
    intro us h j a u h1 h2
    cases j with
    | zero => simp [tidyL] at h1; subst h1; exact (h 0 (.ip as off) u (by simp) h2).win k
    | succ j =>
      cases us with
      | nil => simp at h2
      | cons x us => exact ih us (fun j a u e1 e2 => h (j + 1) a u (by simpa using e1) (by simpa using e2)) j a u (by simpa [tidyL] using h1) (by simpa using h2)
  | case6 o ks c cs h3 h4 h5 ih =>
    intro us h j a u h1 h2
    rw [tidyL] at h1
    · cases j with
      | zero => simp at h1; subst h1; exact h 0 _ u (by simp) h2
      | succ j =>
        cases us with
        | nil => simp at h2
        | cons x us => exact ih us (fun j a u e1 e2 => h (j + 1) a u (by simpa using e1) (by simpa using e2)) j a u (by simpa using h1) (by simpa using h2)
    · exact h3
    · exact h4
    · exact h5

theorem RepV.tidy {M : Mem} {μ : List Bd} {a : AV} {v : Value} (ks : List (Option Nat)) (h : RepV M μ a v) : RepV M μ (tidyV ks a) v := by
  cases a with
  | agg cs =>
    cases h with
    | agg hl hr => exact .agg (by rw [tidyL_length]; exact hl) (tidyL_rep ks cs _ hr)
  | nil =>
    simp only [tidyV]
    split
    · exact h.nilSl _
    · exact h
  | sl s xs f =>
    simp only [tidyV]
    split
    · exact h.unfull
    · exact h
  | ip cs off =>
    simp only [tidyV]
    split
    · exact h.win _
    · exact h
  | _ => exact h

/-! ### renaming -/
/-- An object's new number, its generation, its new generation. -/
abbrev Ren := Nat → Option (Nat × Nat × Nat)

def renV (ρ : Ren) : Nat → AV → AV
  | 0, _ => .any
  | n + 1, a => match a with
    | .lp l o => match ρ l with
      | some (l', _, _) => .lp l' o
      | none => .any
    | .le l g i o => match ρ l with
      | some (l', c, nw) => bif Nat.beq g c then .le l' nw i o else .any
      | none => .any
    | .la l g => match ρ l with
      | some (l', c, nw) => bif Nat.beq g c then .la l' nw else .any
      | none => .any
    | .mp l => match ρ l with
      | some (l', _, _) => .mp l'
      | none => .any
    | .fn f caps => .fn f (caps.map (renV ρ n))
    | .ifc t x => .ifc t (renV ρ n x)
    | .agg cs => .agg (cs.map (renV ρ n))
    | .tup cs => .tup (cs.map (renV ρ n))
    | .any => .any
    | .sc v => .sc v
    | .nil => .nil
    | .sl s xs f => .sl s xs f
    | .ip cs o => .ip cs o

/-- The new object lies where the old one did. -/
def Bd.moved (a b : Bd) (c nw : Nat) : Prop := b.b = a.b ∧ b.n = a.n ∧ b.k = a.k ∧ b.sz = a.sz ∧ (a.g = 0 → b.g = 0) ∧ (0 < a.g → a.g = c ∧ b.g = nw ∧ 0 < nw)

def RenOk (ρ : Ren) (μ μ' : List Bd) : Prop := ∀ l l' c nw bd, ρ l = some (l', c, nw) → μ[l]? = some bd → ∃ bd', μ'[l']? = some bd' ∧ bd.moved bd' c nw

theorem Bd.moved_at {b : Nat} {x : Bd} {c nw : Nat} (h : (Bd.at b).moved x c nw) : x = Bd.at b := by
  obtain ⟨h1, h2, h3, h4, h5, _⟩ := h
  cases x; simp_all [Bd.at]

theorem RepV.ren {M : Mem} {μ μ' : List Bd} {ρ : Ren} (hρ : RenOk ρ μ μ') {a : AV} {v : Value} (h : RepV M μ a v) : ∀ n, RepV M μ' (renV ρ n a) v := by
  induction h generalizing μ' ρ with
  | any => intro n; cases n <;> exact .any
  | sc => intro n; cases n <;> first | exact .sc | exact .any
  | nil => intro n; cases n <;> first | exact .nil | exact .any
  | sl0 => intro n; cases n <;> first | exact .sl0 | exact .any
  | sl0f => intro n; cases n <;> first | exact .sl0f | exact .any
  | sl f hne hc hf hz hm hr _ => intro n; cases n <;> first | exact .sl f hne hc hf hz hm hr | exact .any
  | ip f hm hr _ => intro n; cases n <;> first | exact .ip f hm hr | exact .any
  | @lp μ l off b h =>
    intro n
    cases n with
    | zero => exact .any
    | succ n =>
      simp only [renV]
      split
      · rename_i l' c nw e
        obtain ⟨bd', e', hm⟩ := hρ _ _ _ _ _ e h
        exact .lp (by rw [e', Bd.moved_at hm])
      · exact .any
  | @mp μ l b h =>
    intro n
    cases n with
    | zero => exact .any
    | succ n =>
      simp only [renV]
      split
      · rename_i l' c nw e
        obtain ⟨bd', e', hm⟩ := hρ _ _ _ _ _ e h
        exact .mp (by rw [e', Bd.moved_at hm])
      · exact .any
  | @le μ l g i off v bd h hg hl hv h1c =>
    intro n
    cases n with
    | zero => exact .any
    | succ n =>
      simp only [renV]
      split
      · rename_i l' c nw e
        obtain ⟨bd', e', h1, h2, h3, h4, h5, h6⟩ := hρ _ _ _ _ _ e h
        obtain ⟨h7, h8, h9⟩ := h6 (by omega)
        cases hb : Nat.beq g c with
        | false => exact .any
        | true =>
          have := Nat.eq_of_beq_eq_true hb
          subst this
          refine .le e' h9 (by omega) (fun _ => ?_) h1c
          obtain ⟨b, e1, e2⟩ := hv h7
          exact ⟨b, by rw [h1, e1], by rw [h4]; exact e2⟩
      · exact .any
  | @la μ l g v bd h hg hl hv h1c =>
    intro n
    cases n with
    | zero => exact .any
    | succ n =>
      simp only [renV]
      split
      · rename_i l' c nw e
        obtain ⟨bd', e', h1, h2, h3, h4, h5, h6⟩ := hρ _ _ _ _ _ e h
        obtain ⟨h7, h8, h9⟩ := h6 (by omega)
        cases hb : Nat.beq g c with
        | false => exact .any
        | true =>
          have := Nat.eq_of_beq_eq_true hb
          subst this
          refine .la e' h9 (by omega) (fun _ => ?_) h1c
          have := hv h7
          unfold LaOk at *
          rw [h1, h2, h3]
          exact this
      · exact .any
  | fn hl hr ih =>
    intro n
    cases n with
    | zero => exact .any
    | succ n =>
      refine .fn (by simpa using hl) fun j a u h1 h2 => ?_
      rw [List.getElem?_map] at h1
      obtain ⟨a0, e0, rfl⟩ := Option.map_eq_some_iff.1 h1
      exact ih j a0 u e0 h2 hρ n
  | ifc h ih =>
    intro n
    cases n with
    | zero => exact .any
    | succ n => exact .ifc (ih hρ n)
  | agg hl hr ih =>
    intro n
    cases n with
    | zero => exact .any
    | succ n =>
      refine .agg (by simpa using hl) (fun j a u e1 e2 => ?_)
      rw [List.getElem?_map] at e1
      obtain ⟨a0, e0, rfl⟩ := Option.map_eq_some_iff.1 e1
      exact ih j a0 u e0 e2 hρ n
  | tup hl hr ih =>
    intro n
    cases n with
    | zero => exact .any
    | succ n =>
      refine .tup (by simpa using hl) fun j a u e1 e2 => ?_
      rw [List.getElem?_map] at e1
      obtain ⟨a0, e0, rfl⟩ := Option.map_eq_some_iff.1 e1
      exact ih j a0 u e0 e2 hρ n

/-- The object under its new number: its generation, what it names. -/
def renO (ρ : Ren) (nw : Nat) : AObj → AObj
  | .gone => .gone
  | .cells cs ro => .cells (cs.map (renV ρ 6)) ro
  | .arr _ sz rows => .arr nw sz rows
  | .map es => .map es

theorem renO_here (ρ : Ren) (nw : Nat) (o : AObj) : (renO ρ nw o).here = o.here := by cases o <;> rfl

theorem RepO.ren {M : Mem} {μ μ' : List Bd} {ρ : Ren} (hρ : RenOk ρ μ μ') {w : World} {o : AObj} {bd bd' : Bd} {nw : Nat} (h : RepO M μ w o bd)
    (hm : bd.moved bd' o.gen nw) : RepO M μ' w (renO ρ nw o) bd' := by
  cases o with
  | gone => trivial
  | cells cs ro =>
    obtain ⟨b, c, t, rfl, h2, h3, h4, h5⟩ := h
    refine ⟨b, c, t, Bd.moved_at hm, h2, by simpa using h3, fun j a e => ?_, h5⟩
    rw [List.getElem?_map] at e
    obtain ⟨a0, e0, rfl⟩ := Option.map_eq_some_iff.1 e
    obtain ⟨v, e1, e3, e2⟩ := h4 j a0 e0
    exact ⟨v, e1, e3, e2.ren hρ _⟩
  | arr g sz rows =>
    obtain ⟨h1, h2, h3, h4, h5⟩ := h
    obtain ⟨m1, m2, m3, m4, m5, m6⟩ := hm
    obtain ⟨m7, m8, m9⟩ := m6 (by omega)
    refine ⟨m9, m8, m4.trans h3, m3.trans h4, ?_⟩
    rw [m1, m2]
    exact h5
  | map es =>
    obtain ⟨b, ms, k, rfl, h2, h3, h4, h5⟩ := h
    exact ⟨b, ms, k, Bd.moved_at hm, h2, h3, h4, h5⟩

end Go.Ae

/- The abstract executor, part 23: from a row's reading of its arguments to abstract values; the frame. .. (Ae23, Ae24, Ae25) -/
import Derived.Test.YtcmlbbgbfgikaaaDoorT3
import Derived.Carry
import Derived.WideShapes
set_option linter.unusedSimpArgs false
set_option linter.unusedVariables false
/- The abstract executor, part 23: from a row's reading of its arguments to abstract values; the frame. -/
namespace Go.Ae
open Go.RowKit

/-- All cells of the world, taken for cells that never change. -/
def memOf (W : World) : Mem := fun b o => (W.cell? ⟨b, o, none⟩).filter (·.oneCell')

theorem memOf_some {W : World} {b o : Nat} {v : Value} (h : W.cell? ⟨b, o, none⟩ = some v) (h1 : v.oneCell' = true) : memOf W b o = some v := filter_some.2 ⟨h, h1⟩

theorem storeAll (W : World) : StoreOk (memOf W) [] [] W :=
  ⟨rfl, fun l o bd h => by simp at h, fun l o bd h => by simp at h, fun i j x y p q b _ h => by simp at h, fun b o v h => filter_some.1 h⟩

theorem Stp.below {M M' : Mem} {μ' : List Bd} {σ' : List AObj} {W W' : World} (h : Stp M [] [] W M' μ' σ' W') : Below W.heap.size W W' :=
  ⟨h.os, h.tape, h.output, h.size, fun k hk => h.keep k hk (by rintro ⟨l, o, bd, e, _⟩; simp at e)⟩

/-- These cells stand for this row. -/
def Rd (W : World) (cs : List Value) (row : List AV) : Prop :=
  cs.length = row.length ∧ ∀ (j : Nat) (a : AV) (v : Value), row[j]? = some a → cs[j]? = some v → v.oneCell' = true ∧ RepV (memOf W) [] a v

theorem Rd.one {W : World} {a : AV} {v : Value} (h1 : v.oneCell' = true) (h : RepV (memOf W) [] a v) : Rd W [v] [a] := by
  refine ⟨rfl, fun j x u e1 e2 => ?_⟩
  cases j with
  | zero => simp at e1 e2; subst e1; subst e2; exact ⟨h1, h⟩
  | succ j => simp at e1

theorem Rd.append {W : World} {cs : List Value} {r1 r2 : List AV} {n : Nat} (h1 : Rd W (cs.take n) r1) (h2 : Rd W (cs.drop n) r2) (hn : n ≤ cs.length) : Rd W cs (r1 ++ r2) := by
  have e1 := h1.1
  have e2 := h2.1
  simp at e1 e2
  refine ⟨by simp; omega, fun j a v k1 k2 => ?_⟩
  by_cases hj : j < r1.length
  · rw [List.getElem?_append_left hj] at k1
    exact h1.2 j a v k1 (by rw [List.getElem?_take, if_pos (by omega)]; exact k2)
  · rw [List.getElem?_append_right (by omega)] at k1
    refine h2.2 (j - r1.length) a v k1 ?_
    rw [List.getElem?_drop, show n + (j - r1.length) = j by omega]
    exact k2

section
variable {H : Type} (enc : TypeId × Value → H) (P : Program) (W : World) (base : Nat) (sp : Nat → Bool) (hd : Bool)

/-- Whatever reads as a value of type t stands for a row of this kind. -/
def RdF (F : Nat) (t : TypeId) (R : List AV → Prop) : Prop := ∀ fuel, fuel ≤ F → ∀ cs x, DataW.trod enc P W base sp hd fuel t cs = some x → (∀ n ∈ x.1.weights P t, n ≤ reachBytes) → ∃ row, R row ∧ Rd W cs row
end

theorem mapM_get {α β : Type} {f : α → Option β} : ∀ {l : List α} {ys : List β}, l.mapM f = some ys → ys.length = l.length ∧ ∀ (i : Nat) (x : α), l[i]? = some x → ∃ y, ys[i]? = some y ∧ f x = some y
  | [], ys, h => by simp at h; subst h; exact ⟨rfl, by simp⟩
  | a :: l, ys, h => by
    rw [List.mapM_cons] at h
    simp only [Option.bind_eq_bind, Option.bind_eq_some_iff, Option.pure_def, Option.some.injEq] at h
    obtain ⟨y, hy, zs, hz, rfl⟩ := h
    obtain ⟨h1, h2⟩ := mapM_get hz
    refine ⟨by simp [h1], fun i x e => ?_⟩
    cases i with
    | zero => simp at e; subst e; exact ⟨y, rfl, hy⟩
    | succ i => exact h2 i x (by simpa using e)

theorem exists_list {α : Type} (p : Nat → α → Prop) : ∀ n, (∀ i, i < n → ∃ a, p i a) → ∃ l : List α, l.length = n ∧ ∀ i a, l[i]? = some a → p i a
  | 0, _ => ⟨[], rfl, by simp⟩
  | n + 1, h => by
    obtain ⟨l, h1, h2⟩ := exists_list p n fun i hi => h i (by omega)
    obtain ⟨a, ha⟩ := h n (by omega)
    refine ⟨l ++ [a], by simp [h1], fun i x e => ?_⟩
    by_cases hi : i < l.length
    · rw [List.getElem?_append_left hi] at e; exact h2 i x e
    · rw [List.getElem?_append_right (by omega)] at e
      have : i - l.length = 0 := by
        have := (List.getElem?_eq_some_iff.1 e).1
        simp at this; omega
      rw [this] at e
      simp at e
      subst e
      rw [show i = n by omega]
      exact ha

theorem weightsAll_mem {H : Type} {P : Program} {e : TypeId} {d : DataW H} : ∀ {l : List (DataW H)}, d ∈ l → ∀ n ∈ d.weights P e, n ∈ DataW.weightsAll P e l
  | x :: l, h, n, hn => by
    rw [DataW.weightsAll, List.mem_append]
    rcases List.mem_cons.1 h with rfl | h
    · exact .inl hn
    · exact .inr (weightsAll_mem h n hn)

theorem addr_add0 (a : Addr) : a.add 0 = a := by simp [Addr.add]
theorem addr_at {a : Addr} (h : a.spot = none) (k : Nat) : a.add k = ⟨a.block, a.off + k, none⟩ := by
  obtain ⟨b, o, s⟩ := a
  simp at h
  subst h
  unfold Addr.add
  split
  · rename_i e; subst e; rfl
  · rfl
theorem spot_of {W : World} {a : Addr} {v : Value} (h : W.cell? a = some v) : a.spot = none := by
  unfold World.cell? at h
  split at h
  · split at h
    · cases h
    · rename_i hs; simpa using hs
  · cases h

section
variable {H : Type} {enc : TypeId × Value → H} {P : Program} {W : World} {base : Nat} {sp : Nat → Bool} {hd : Bool} {F : Nat} {t e : TypeId} {R : List AV → Prop}

theorem RdF.mono {F' : Nat} (h : RdF enc P W base sp hd F t R) (hF : F' ≤ F) : RdF enc P W base sp hd F' t R := fun fuel hf => h fuel (Nat.le_trans hf hF)
theorem RdF.imp {R' : List AV → Prop} (h : RdF enc P W base sp hd F t R) (hR : ∀ row, R row → R' row) : RdF enc P W base sp hd F t R' := fun fuel hf cs x hx hw => by
  obtain ⟨row, h1, h2⟩ := h fuel hf cs x hx hw
  exact ⟨row, hR row h1, h2⟩

theorem rd_int {k : IntKind} (hu : P.underlying t = some (.int k)) : RdF enc P W base sp hd F t (fun row => ∃ n, row = [.sc (.int k n)] ∧ (Lit.int k n).wf = true) := by
  intro fuel _ cs x hx _
  cases fuel with
  | zero => simp [DataW.trod] at hx
  | succ fuel =>
    simp only [DataW.trod, hu] at hx
    split at hx <;> simp_all
    obtain ⟨⟨rfl, hw⟩, _⟩ := hx
    exact ⟨_, ⟨_, rfl, hw⟩, Rd.one rfl .sc⟩

theorem rd_string (hu : P.underlying t = some .string) : RdF enc P W base sp hd F t (fun row => ∃ s : ByteArray, row = [.sc (.string s)] ∧ s.size ≤ reachBytes) := by
  intro fuel _ cs x hx hw
  cases fuel with
  | zero => simp [DataW.trod] at hx
  | succ fuel =>
    simp only [DataW.trod, hu] at hx
    split at hx <;> simp_all
    obtain ⟨_, rfl⟩ := hx
    refine ⟨_, ⟨_, rfl, ?_⟩, Rd.one rfl .sc⟩
    simpa [DataW.weights] using hw

theorem rd_slice {n : Nat} (hu : P.underlying t = some (.slice e)) (hn : P.cellsOf e = n) (h0 : 0 < n) (hb : 1 ≤ P.bytesOf e) (h : RdF enc P W base sp hd F e R) :
    RdF enc P W base sp hd (F + 1) t (fun row => ∃ rows, row = [.sl n rows false] ∧ rows.length * P.bytesOf e ≤ reachBytes ∧ ∀ r ∈ rows, R r) := by
  intro fuel hf cs x hx hw
  cases fuel with
  | zero => simp [DataW.trod] at hx
  | succ fuel =>
    simp only [DataW.trod, hu] at hx
    split at hx
    all_goals first | (cases hx; done) | (rename_i heq; cases heq; done) | (rename_i heq _; cases heq; done) | skip
    · rename_i heq
      cases heq
      exact ⟨_, ⟨[], rfl, by simp, by simp⟩, Rd.one rfl .sl0⟩
    · rename_i a len cap heq
      cases heq
      split at hx
      · rename_i hc
        simp only [Option.bind_eq_some_iff, Option.map_eq_some_iff] at hx
        obtain ⟨elems, hel, rest, hrest, rfl⟩ := hx
        obtain ⟨g1, g2⟩ := mapM_get hel
        simp only [List.length_range] at g1
        simp only [DataW.weights, hu, List.mem_cons, List.mem_append, List.length_map] at hw
        have hrow : ∀ i, i < len → ∃ row, R row ∧ ∃ csi, W.cells? base (a.add (i * n)) n = some csi ∧ Rd W csi row := fun i hi => by
          obtain ⟨y, k1, k2⟩ := g2 i i (by simp [hi])
          rw [hn] at k2
          obtain ⟨csi, k3, k4⟩ := Option.bind_eq_some_iff.1 k2
          obtain ⟨row, r1, r2⟩ := h fuel (by omega) csi y k4 (fun m hm => hw m (.inr (.inl (weightsAll_mem (List.mem_map.2 ⟨y, List.mem_of_getElem? k1, rfl⟩) m hm))))
          exact ⟨row, r1, csi, k3, r2⟩
        obtain ⟨rows, q1, q2⟩ := exists_list _ len hrow
        have hlen : rows.length * P.bytesOf e ≤ reachBytes := by
          have := hw _ (.inl rfl)
          rw [q1, ← g1]
          exact Nat.le_trans (Nat.mul_le_mul_right _ (Nat.le_add_right _ _)) this
        refine ⟨_, ⟨rows, rfl, hlen, fun r hr => ?_⟩, Rd.one rfl ?_⟩
        · obtain ⟨i, hi⟩ := List.getElem?_of_mem hr
          exact (q2 i r hi).1
        · by_cases hz : len = 0
          · subst hz
            have : rows = [] := List.eq_nil_of_length_eq_zero q1
            subst this
            exact .sl0
          · -- the cells of a row
            have hcell : ∀ (i : Nat) (row : List AV), rows[i]? = some row → row.length = n ∧ ∀ (j : Nat) (x : AV), row[j]? = some x → ∃ v, W.cell? ((a.add (i * n)).add j) = some v ∧ v.oneCell' = true ∧ RepV (memOf W) [] x v := fun i row hi => by
              obtain ⟨_, csi, k3, k4⟩ := q2 i row hi
              unfold World.cells? at k3
              split at k3
              · obtain ⟨l1, l2⟩ := mapM_get k3
                simp only [List.length_range] at l1
                refine ⟨by rw [← k4.1, l1], fun j x hx => ?_⟩
                have hj : j < n := by rw [← l1, k4.1]; exact (List.getElem?_eq_some_iff.1 hx).1
                obtain ⟨v, l3, l4⟩ := l2 j j (by simp [hj])
                exact ⟨v, l4, k4.2 j x v hx l3⟩
              · cases k3
            have hspot : a.spot = none := by
              obtain ⟨row, hr⟩ : ∃ row, rows[0]? = some row := ⟨_, List.getElem?_eq_getElem (by omega)⟩
              obtain ⟨l1, l2⟩ := hcell 0 row hr
              obtain ⟨v, l3, _⟩ := l2 0 _ (List.getElem?_eq_getElem (by omega))
              rw [Nat.zero_mul, addr_add0, addr_add0] at l3
              exact spot_of l3
            have hat : ∀ i j, (a.add (i * n)).add j = ⟨a.block, a.off + i * n + j, none⟩ := fun i j => by
              rw [addr_at hspot, addr_at rfl]
            obtain ⟨b, o, s⟩ := a
            simp only at hspot
            subst hspot
            rw [← q1]
            refine .sl (fun i j => (W.cell? ⟨b, o + i * n + j, none⟩).getD undef) (fun e => hz (by rw [← q1, e]; rfl)) (by rw [q1]; exact hc.2.1) (by simp) (fun i row hi => (hcell i row hi).1) (fun i row j x hi hx => ?_) (fun i row j x hi hx => ?_)
            · obtain ⟨v, l3, l4, _⟩ := (hcell i row hi).2 j x hx
              rw [hat] at l3
              rw [l3]
              exact memOf_some l3 l4
            · obtain ⟨v, l3, _, l5⟩ := (hcell i row hi).2 j x hx
              rw [hat] at l3
              rw [l3]
              exact l5
      · cases hx
end

end Go.Ae

/- The abstract executor, part 24: from a row's reading to abstract values: structs. -/
namespace Go.Ae
open Go.RowKit

/-- A row that is made of parts. -/
def RowsOf : List (List AV → Prop) → List AV → Prop
  | [], row => row = []
  | R :: Rs, row => ∃ a b, row = a ++ b ∧ R a ∧ RowsOf Rs b

section
variable {H : Type} (enc : TypeId × Value → H) (P : Program) (W : World) (base : Nat) (sp : Nat → Bool) (hd : Bool)

def endOf (o : Nat) : List Field → Nat
  | [] => o
  | f :: fs => endOf (o + P.cellsOf f.type) fs

/-- Fields, one behind the other. -/
def FldOk (F : Nat) (o : Nat) : List Field → List (List AV → Prop) → Prop
  | [], [] => True
  | f :: fs, R :: Rs => f.offset = o ∧ RdF enc P W base sp hd F f.type R ∧ FldOk F (o + P.cellsOf f.type) fs Rs
  | _, _ => False
end

section
variable {H : Type} {enc : TypeId × Value → H} {P : Program} {W : World} {base : Nat} {sp : Nat → Bool} {hd : Bool} {F : Nat} {t : TypeId}

theorem endOf_le : ∀ (fs : List Field) (o : Nat), o ≤ endOf P o fs
  | [], o => Nat.le_refl _
  | f :: fs, o => Nat.le_trans (Nat.le_add_right _ _) (endOf_le fs _)

theorem Rd.nil : Rd W [] [] := ⟨rfl, fun j a v h => by simp at h⟩

theorem rd_fields {fuel : Nat} (hf : fuel ≤ F) {cs : List Value} : ∀ {fs : List Field} {Rs : List (List AV → Prop)} {o : Nat} {xs : List (DataW H × List MemPlace)}, FldOk enc P W base sp hd F o fs Rs →
    fs.mapM (fun f => DataW.trod enc P W base sp hd fuel f.type ((cs.drop f.offset).take (P.cellsOf f.type))) = some xs →
    (∀ n ∈ DataW.weightsEach P (fs.map (·.type)) (xs.map (·.1)), n ≤ reachBytes) → endOf P o fs = cs.length → ∃ row, RowsOf Rs row ∧ Rd W (cs.drop o) row
  | [], [], o, xs, _, _, _, he => ⟨[], rfl, by
    have : cs.drop o = [] := by rw [List.drop_eq_nil_iff]; simp [endOf] at he; omega
    rw [this]; exact .nil⟩
  | [], _ :: _, o, xs, h, _, _, _ => h.elim
  | _ :: _, [], o, xs, h, _, _, _ => h.elim
  | f :: fs, R :: Rs, o, xs, ⟨h1, h2, h3⟩, hm, hw, he => by
    rw [List.mapM_cons] at hm
    simp only [Option.bind_eq_bind, Option.bind_eq_some_iff, Option.pure_def, Option.some.injEq] at hm
    obtain ⟨y, hy, ys, hys, rfl⟩ := hm
    simp only [List.map_cons, DataW.weightsEach, List.mem_append] at hw
    obtain ⟨row2, k1, k2⟩ := rd_fields hf h3 hys (fun n hn => hw n (.inr hn)) he
    rw [h1] at hy
    obtain ⟨row1, k3, k4⟩ := h2 fuel hf _ y hy (fun n hn => hw n (.inl hn))
    have hle := endOf_le (P := P) fs (o + P.cellsOf f.type)
    simp only [endOf] at he
    refine ⟨row1 ++ row2, ⟨row1, row2, rfl, k3, k1⟩, Rd.append (n := P.cellsOf f.type) k4 ?_ (by simp; omega)⟩
    rw [List.drop_drop]
    exact k2

theorem rd_struct {fs : Array Field} {Rs : List (List AV → Prop)} (hu : P.underlying t = some (.struct fs)) (hsz : endOf P 0 fs.toList = P.cellsOf t) (h : FldOk enc P W base sp hd F 0 fs.toList Rs) :
    RdF enc P W base sp hd (F + 1) t (RowsOf Rs) := by
  intro fuel hf cs x hx hw
  cases fuel with
  | zero => simp [DataW.trod] at hx
  | succ fuel =>
    simp only [DataW.trod, hu] at hx
    split at hx
    · rename_i hl
      obtain ⟨xs, hxs, rfl⟩ := Option.map_eq_some_iff.1 hx
      simp only [DataW.weights, hu] at hw
      obtain ⟨row, k1, k2⟩ := rd_fields (F := F) (by omega) h hxs hw (by rw [hsz, hl])
      exact ⟨row, k1, by simpa using k2⟩
    · cases hx
end

end Go.Ae

/- The abstract executor, part 25: loops that write rows of the caller's: generations are numbered anew at each round. -/
namespace Go.Ae

/-- Every object keeps its number, and gets this generation. -/
def renG (n : Nat) (look : Nat → AObj) (nw : Nat) : Ren := fun l => bif Nat.blt l n then some (l, (look l).gen, nw) else none
def stG (st : List AObj) (nw : Nat) : List AObj := st.map fun o => renO (renG st.length (getO st) nw) nw o
def muG (μ : List Bd) (nw : Nat) : List Bd := μ.map fun b => mvBd b nw
def gensW (ts : List Nat) (nw : Nat) (s : ASt) : ASt := ⟨lookT (ts.map fun t => (t, renV (renG s.st.length (getO s.st) nw) 6 (s.tm t))), stG s.st nw⟩

def EvoL (m : Nat) (μ μ' : List Bd) : Prop := ∀ (l : Nat) (bd : Bd), l < m → μ[l]? = some bd → ∃ bd', μ'[l]? = some bd' ∧ (bd = Bd.zero ∨ bd' = bd ∨ (0 < bd.g ∧ 0 < bd'.g))

theorem EvoTo.loose {m : Nat} {a b : List Bd} (h : EvoTo m a b) : EvoL m a b := fun l bd hl e => by
  obtain ⟨bd', e', k⟩ := h l bd hl e
  refine ⟨bd', e', ?_⟩
  rcases k with k | k | k
  · exact .inl k
  · exact .inr (.inl k)
  · exact .inr (.inr ⟨k.1, by omega⟩)

theorem EvoL.trans {m : Nat} {a b c : List Bd} (h : EvoL m a b) (k : EvoL m b c) : EvoL m a c := fun l bd hl e => by
  obtain ⟨b1, e1, v1⟩ := h l bd hl e
  obtain ⟨b2, e2, v2⟩ := k l b1 hl e1
  refine ⟨b2, e2, ?_⟩
  rcases v1 with v1 | v1 | v1
  · exact .inl v1
  · subst v1; exact v2
  · rcases v2 with v2 | v2 | v2
    · subst v2; simp [Bd.zero] at v1
    · subst v2; exact .inr (.inr v1)
    · exact .inr (.inr ⟨v1.1, v2.2⟩)

theorem StoreOk.gens {M : Mem} {μ : List Bd} {σ : List AObj} {w : World} (hst : StoreOk M μ σ w) {nw : Nat} (hnw : 0 < nw) :
    StoreOk M (muG μ nw) (stG σ nw) w ∧ RenOk (renG σ.length (getO σ) nw) μ (muG μ nw) ∧ (∀ b, Own (muG μ nw) (stG σ nw) b → Own μ σ b) := by
  have hmv : ∀ (l : Nat) (bd : Bd), μ[l]? = some bd → bd.moved (mvBd bd nw) (getO σ l).gen nw := fun l bd e => by
    have g1 := mu_gen hst e
    unfold mvBd
    split
    · rename_i hz; exact ⟨rfl, rfl, rfl, rfl, fun _ => hz, fun hp => by omega⟩
    · rename_i hz
      exact ⟨rfl, rfl, rfl, rfl, fun h => absurd h hz, fun hp => ⟨g1, rfl, hnw⟩⟩
  have hρ : RenOk (renG σ.length (getO σ) nw) μ (muG μ nw) := fun l l' c nw' bd e1 e2 => by
    simp only [renG] at e1
    cases hb : Nat.blt l σ.length with
    | false => rw [hb] at e1; cases e1
    | true =>
      rw [hb] at e1
      cases e1
      exact ⟨mvBd bd nw, by simp [muG, e2], hmv l bd e2⟩
  have hget : ∀ (i : Nat) (o : AObj) (bd : Bd), (stG σ nw)[i]? = some o → (muG μ nw)[i]? = some bd → ∃ o0 bd0, σ[i]? = some o0 ∧ μ[i]? = some bd0 ∧ o = renO (renG σ.length (getO σ) nw) nw o0 ∧ bd = mvBd bd0 nw := fun i o bd e1 e2 => by
    simp only [stG, muG, List.getElem?_map] at e1 e2
    obtain ⟨o0, k1, k2⟩ := Option.map_eq_some_iff.1 e1
    obtain ⟨b0, k3, k4⟩ := Option.map_eq_some_iff.1 e2
    exact ⟨o0, b0, k1, k3, k2.symm, k4.symm⟩
  have hgo : ∀ (i : Nat) (o : AObj), σ[i]? = some o → getO σ i = o := fun i o e => by simp [getO, List.getD_eq_getElem?_getD, e]
  refine ⟨⟨by simp [muG, stG, hst.len], fun i o bd e1 e2 => ?_, fun i o bd e1 e2 hx => ?_, fun i j x y p q b hij e1 e2 hx hy e3 e4 hp => ?_, hst.mem⟩, hρ, fun b ⟨i, o, bd, e1, hx, e2, e3⟩ => ?_⟩
  · obtain ⟨o0, b0, k1, k2, rfl, rfl⟩ := hget i o bd e1 e2
    have := hmv i b0 k2
    rw [hgo i o0 k1] at this
    exact (hst.rep i o0 b0 k1 k2).ren hρ this
  · obtain ⟨o0, b0, k1, k2, rfl, rfl⟩ := hget i o bd e1 e2
    rw [renO_here] at hx
    have := hst.dead i o0 b0 k1 k2 hx
    subst this
    rfl
  · obtain ⟨o0, b0, k1, k2, rfl, rfl⟩ := hget i x p e1 e3
    obtain ⟨o1, b1, k3, k4, rfl, rfl⟩ := hget j y q e2 e4
    rw [renO_here] at hx hy
    rw [mvBd_b] at hp ⊢
    exact hst.apart i j o0 o1 b0 b1 b hij k1 k3 hx hy k2 k4 hp
  · obtain ⟨o0, b0, k1, k2, rfl, rfl⟩ := hget i o bd e1 e2
    rw [renO_here] at hx
    rw [mvBd_b] at e3
    exact ⟨i, o0, b0, k1, hx, k2, e3⟩

theorem gensW_rel {N : Nat} {M : Mem} {μ : List Bd} {s : ASt} {a : Act} {w : World} (h : Rel N M μ s a w) (ts : List Nat) {nw : Nat} (hnw : 0 < nw) :
    Rel N M (muG μ nw) (gensW ts nw s) a w ∧ Stp M μ s.st w M (muG μ nw) (gensW ts nw s).st w := by
  obtain ⟨hsize, hdef, htm, hst⟩ := h
  obtain ⟨h1, h2, h3⟩ := hst.gens hnw
  refine ⟨⟨hsize, hdef, ?_, h1⟩, ⟨rfl, rfl, rfl, Nat.le_refl _, fun _ _ _ => rfl, .refl M, fun b o v h k => by simp [h] at k, fun b ho => .inr (h3 b ho)⟩⟩
  refine lookT_rep _ fun k v hm => ?_
  obtain ⟨t, _, ht⟩ := List.mem_map.1 hm
  simp only [Prod.mk.injEq] at ht
  obtain ⟨rfl, rfl⟩ := ht
  exact (htm t).ren h2 6

theorem muG_loose {m : Nat} (μ : List Bd) {nw : Nat} (hnw : 0 < nw) : EvoL m μ (muG μ nw) := fun l bd _ e => by
  refine ⟨mvBd bd nw, by simp [muG, e], ?_⟩
  unfold mvBd
  split
  · exact .inr (.inl rfl)
  · exact .inr (.inr ⟨by omega, hnw⟩)

section
variable {P : Program} {N m : Nat} {c : Code} {s s1 s' : ASt} {e : Exit}

def Lp0 (P : Program) (N m : Nat) (c : Code) (s : ASt) (e : Exit) (s' : ASt) : Prop := ∃ n, ∀ (M : Mem) (μ : List Bd) (a : Act) (w : World), Rel N M μ s a w → ∀ Q : Exit → Act → World → Prop,
  (∀ a' w' M' μ', Rel N M' μ' s' a' w' → Stp M μ s.st w M' μ' s'.st w' → EvoL m μ μ' → Q e a' w') → Code.rounds P c Q n a w

theorem Lp0.stop (ts : List Nat) (h : T P N m c s e s1) (he : e ≠ .normal) (hg : gensW ts 1 s1 = s') : Lp0 P N m c s e s' := ⟨1, fun M μ a w hR Q hQ => by
  subst hg
  rw [rounds_succ]
  refine h M μ a w hR _ fun a1 w1 M1 μ1 r1 p1 e1 => ?_
  obtain ⟨r2, p2⟩ := gensW_rel r1 ts (nw := 1) (by omega)
  have := hQ a1 w1 M1 _ r2 (p1.trans p2) (e1.loose.trans (muG_loose μ1 (by omega)))
  cases e <;> first | exact absurd rfl he | exact this⟩

theorem Lp0.more (ts : List Nat) {s2 : ASt} (h : T P N m c s .normal s1) (hg : gensW ts 1 s1 = s2) (k : Lp0 P N m c s2 e s') : Lp0 P N m c s e s' := by
  subst hg
  obtain ⟨n, k⟩ := k
  exact ⟨n + 1, fun M μ a w hR Q hQ => by
    rw [rounds_succ]
    refine h M μ a w hR _ fun a1 w1 M1 μ1 r1 p1 e1 => ?_
    obtain ⟨r2, p2⟩ := gensW_rel r1 ts (nw := 1) (by omega)
    exact k M1 _ a1 w1 r2 Q fun a' w' M' μ' r p ev => hQ a' w' M' μ' r ((p1.trans p2).trans p) ((e1.loose.trans (muG_loose μ1 (by omega))).trans ev)⟩

/-- Rows that came in with the first generation leave with the second one. -/
theorem Lp0.to (ts : List Nat) {s2 : ASt} (h : Lp0 P N m c s e s') (hm : (List.range m).all (fun l => Nat.ble (getO s.st l).gen 1) = true) (hg : gensW ts 2 s' = s2) : Lp P N m c s e s2 := by
  subst hg
  obtain ⟨n, h⟩ := h
  refine ⟨n, fun M μ a w hR Q hQ => h M μ a w hR Q fun a' w' M' μ' r p ev => ?_⟩
  obtain ⟨r2, p2⟩ := gensW_rel r ts (nw := 2) (by omega)
  refine hQ a' w' M' _ r2 (p.trans p2) fun l bd hl e => ?_
  have hg1 : bd.g ≤ 1 := by
    rw [mu_gen hR.st e]
    exact Nat.le_of_ble_eq_true (List.all_eq_true.1 hm l (List.mem_range.2 hl))
  obtain ⟨bd', e', k⟩ := ev l bd hl e
  refine ⟨mvBd bd' 2, by simp [muG, e'], ?_⟩
  unfold mvBd
  split
  · rename_i hz
    rcases k with k | k | k
    · exact .inl k
    · exact .inr (.inl k)
    · omega
  · rename_i hz
    rcases k with k | k | k
    · exact .inl k
    · subst k; exact .inr (.inr ⟨by omega, by simp only; omega⟩)
    · exact .inr (.inr ⟨k.1, by simp only; omega⟩)
end

/-- The same for a function: its rows leave with the second generation. -/
theorem SoundCall.gens {P : Program} {f : FuncId} {args : List AV} {σ σ' : List AObj} {r : AV} (h : SoundCall P f args σ r σ') (hm : (List.range σ.length).all (fun l => Nat.ble (getO σ l).gen 1) = true) {r2 : AV} {σ2 : List AObj}
    (hr : renV (renG σ'.length (getO σ') 2) 6 r = r2) (hs : stG σ' 2 = σ2) : SoundCall P f args σ r2 σ2 := by
  subst hr; subst hs
  obtain ⟨h1, h2, h3⟩ := h
  refine ⟨h1, by simpa [stG] using h2, fun M μ w vs hst hl ha => Calls.mono (h3 M μ w vs hst hl ha) fun e w' he => ?_⟩
  obtain ⟨v, M', μ', rfl, k1, k2, k3, k4⟩ := he
  obtain ⟨q1, q2, q3⟩ := k1.gens (nw := 2) (by omega)
  refine ⟨v, M', muG μ' 2, rfl, q1, k2.trans ⟨rfl, rfl, rfl, Nat.le_refl _, fun _ _ _ => rfl, .refl M', fun b o v h k => by simp [h] at k, fun b ho => .inr (q3 b ho)⟩, fun l bd hl e => ?_, k4.ren q2 6⟩
  have hg1 : bd.g ≤ 1 := by
    rw [mu_gen hst e]
    exact Nat.le_of_ble_eq_true (List.all_eq_true.1 hm l (List.mem_range.2 hl))
  obtain ⟨bd', e', k⟩ := k3 l bd hl e
  refine ⟨mvBd bd' 2, by simp [muG, e'], ?_⟩
  unfold mvBd
  split
  · rename_i hz
    rcases k with k | k | k
    · exact .inl k
    · exact .inr (.inl k)
    · omega
  · rename_i hz
    rcases k with k | k | k
    · exact .inl k
    · subst k; exact .inr (.inr ⟨by omega, by simp only; omega⟩)
    · exact .inr (.inr ⟨by omega, by simp only; omega⟩)

end Go.Ae

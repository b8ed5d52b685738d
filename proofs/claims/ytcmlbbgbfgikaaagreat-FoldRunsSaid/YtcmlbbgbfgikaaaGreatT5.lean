/- Part 5 of the proof: Ae23, Ae24. -/
import Derived.Test.YtcmlbbgbfgikaaaGreatT4
import Derived.Carry
import Derived.WideShapes
set_option linter.unusedSimpArgs false
set_option linter.unusedVariables false
namespace Go.Ae
open Go.RowKit
def memOf (W : World) : Mem := fun b o => (W.cell? ⟨b, o, none⟩).filter (·.oneCell')
theorem memOf_some {W : World} {b o : Nat} {v : Value} (h : W.cell? ⟨b, o, none⟩ = some v) (h1 : v.oneCell' = true) : memOf W b o = some v := filter_some.2 ⟨h, h1⟩
theorem storeAll (W : World) : StoreOk (memOf W) [] [] W :=
 ⟨rfl, fun l o bd h => by simp at h, fun l o bd h => by simp at h, fun i j x y p q b _ h => by simp at h, fun b o v h => filter_some.1 h⟩
theorem Stp.below {M M' : Mem} {μ' : List Bd} {σ' : List AObj} {W W' : World} (h : Stp M [] [] W M' μ' σ' W') : Below W.heap.size W W' :=
 ⟨h.os, h.tape, h.output, h.size, fun k hk => h.keep k hk (by rintro ⟨l, o, bd, e, _⟩; simp at e)⟩
def Rd (W : World) (cs : List Value) (row : List AV) : Prop :=
 cs.length = row.length ∧ ∀ (j : Nat) (a : AV) (v : Value), row[j]? = some a → cs[j]? = some v → v.oneCell' = true ∧ RepV (memOf W) [] a v
theorem Rd.one {W : World} {a : AV} {v : Value} (h1 : v.oneCell' = true) (h : RepV (memOf W) [] a v) : Rd W [v] [a] := by
 refine ⟨rfl, fun j x u e1 e2 => ?_⟩
 cases j with
 | zero => simp at e1 e2; subst e1; subst e2; exact ⟨h1, h⟩
 | succ j => simp at e1
theorem Rd.append {W : World} {cs : List Value} {r1 r2 : List AV} {n : Nat} (h1 : Rd W (cs.take n) r1) (h2 : Rd W (cs.drop n) r2) (hn : n ≤ cs.length) : Rd W cs (r1 ++ r2) := by
 have e1 := h1.1
 have e2 := h2.1
 simp at e1 e2
 refine ⟨by simp; omega, fun j a v k1 k2 => ?_⟩
 by_cases hj : j < r1.length
 ·rw [List.getElem?_append_left hj] at k1
  exact h1.2 j a v k1 (by rw [List.getElem?_take, if_pos (by omega)]; exact k2)
 ·rw [List.getElem?_append_right (by omega)] at k1
  refine h2.2 (j - r1.length) a v k1 ?_
  rw [List.getElem?_drop, show n + (j - r1.length) = j by omega]
  exact k2
section
variable {H : Type} (enc : TypeId × Value → H) (P : Program) (W : World) (base : Nat) (sp : Nat → Bool) (hd : Bool)
def RdF (F : Nat) (t : TypeId) (R : List AV → Prop) : Prop := ∀ fuel, fuel ≤ F → ∀ cs x, DataW.trod enc P W base sp hd fuel t cs = some x → (∀ n ∈ x.1.weights P t, n ≤ reachBytes) → ∃ row, R row ∧ Rd W cs row
end
theorem mapM_get {α β : Type} {f : α → Option β} : ∀ {l : List α} {ys : List β}, l.mapM f = some ys → ys.length = l.length ∧ ∀ (i : Nat) (x : α), l[i]? = some x → ∃ y, ys[i]? = some y ∧ f x = some y
 | [], ys, h => by simp at h; subst h; exact ⟨rfl, by simp⟩
 | a :: l, ys, h => by
  rw [List.mapM_cons] at h
  simp only [Option.bind_eq_bind, Option.bind_eq_some_iff, Option.pure_def, Option.some.injEq] at h
  obtain ⟨y, hy, zs, hz, rfl⟩ := h
  obtain ⟨h1, h2⟩ := mapM_get hz
  refine ⟨by simp [h1], fun i x e => ?_⟩
  cases i with
  | zero => simp at e; subst e; exact ⟨y, rfl, hy⟩
  | succ i => exact h2 i x (by simpa using e)
theorem exists_list {α : Type} (p : Nat → α → Prop) : ∀ n, (∀ i, i < n → ∃ a, p i a) → ∃ l : List α, l.length = n ∧ ∀ i a, l[i]? = some a → p i a
 | 0, _ => ⟨[], rfl, by simp⟩
 | n + 1, h => by
  obtain ⟨l, h1, h2⟩ := exists_list p n fun i hi => h i (by omega)
  obtain ⟨a, ha⟩ := h n (by omega)
  refine ⟨l ++ [a], by simp [h1], fun i x e => ?_⟩
  by_cases hi : i < l.length
  ·rw [List.getElem?_append_left hi] at e; exact h2 i x e
  ·rw [List.getElem?_append_right (by omega)] at e
   have : i - l.length = 0 := by
    have := (List.getElem?_eq_some_iff.1 e).1
    simp at this; omega
   rw [this] at e
   simp at e
   subst e
   rw [show i = n by omega]
   exact ha
theorem weightsAll_mem {H : Type} {P : Program} {e : TypeId} {d : DataW H} : ∀ {l : List (DataW H)}, d ∈ l → ∀ n ∈ d.weights P e, n ∈ DataW.weightsAll P e l
 | x :: l, h, n, hn => by
  rw [DataW.weightsAll, List.mem_append]
  rcases List.mem_cons.1 h with rfl | h
  ·exact .inl hn
  ·exact .inr (weightsAll_mem h n hn)
theorem addr_add0 (a : Addr) : a.add 0 = a := by simp [Addr.add]
theorem addr_at {a : Addr} (h : a.spot = none) (k : Nat) : a.add k = ⟨a.block, a.off + k, none⟩ := by
 obtain ⟨b, o, s⟩ := a
 simp at h
 subst h
 unfold Addr.add
 split
 ·rename_i e; subst e; rfl
 ·rfl
theorem spot_of {W : World} {a : Addr} {v : Value} (h : W.cell? a = some v) : a.spot = none := by
 unfold World.cell? at h
 split at h
 ·split at h
  ·cases h
  ·rename_i hs; simpa using hs
 ·cases h
section
variable {H : Type} {enc : TypeId × Value → H} {P : Program} {W : World} {base : Nat} {sp : Nat → Bool} {hd : Bool} {F : Nat} {t e : TypeId} {R : List AV → Prop}
theorem RdF.mono {F' : Nat} (h : RdF enc P W base sp hd F t R) (hF : F' ≤ F) : RdF enc P W base sp hd F' t R := fun fuel hf => h fuel (Nat.le_trans hf hF)
theorem RdF.imp {R' : List AV → Prop} (h : RdF enc P W base sp hd F t R) (hR : ∀ row, R row → R' row) : RdF enc P W base sp hd F t R' := fun fuel hf cs x hx hw => by
 obtain ⟨row, h1, h2⟩ := h fuel hf cs x hx hw
 exact ⟨row, hR row h1, h2⟩
theorem rd_int {k : IntKind} (hu : P.underlying t = some (.int k)) : RdF enc P W base sp hd F t (fun row => ∃ n, row = [.sc (.int k n)] ∧ (Lit.int k n).wf = true) := by
 intro fuel _ cs x hx _
 cases fuel with
 | zero => simp [DataW.trod] at hx
 | succ fuel =>
  simp only [DataW.trod, hu] at hx
  split at hx <;> simp_all
  obtain ⟨⟨rfl, hw⟩, _⟩ := hx
  exact ⟨_, ⟨_, rfl, hw⟩, Rd.one rfl .sc⟩
theorem rd_string (hu : P.underlying t = some .string) : RdF enc P W base sp hd F t (fun row => ∃ s : ByteArray, row = [.sc (.string s)] ∧ s.size ≤ reachBytes) := by
 intro fuel _ cs x hx hw
 cases fuel with
 | zero => simp [DataW.trod] at hx
 | succ fuel =>
  simp only [DataW.trod, hu] at hx
  split at hx <;> simp_all
  obtain ⟨_, rfl⟩ := hx
  refine ⟨_, ⟨_, rfl, ?_⟩, Rd.one rfl .sc⟩
  simpa [DataW.weights] using hw
theorem rd_slice {n : Nat} (hu : P.underlying t = some (.slice e)) (hn : P.cellsOf e = n) (h0 : 0 < n) (hb : 1 ≤ P.bytesOf e) (h : RdF enc P W base sp hd F e R) :
  RdF enc P W base sp hd (F + 1) t (fun row => ∃ rows, row = [.sl n rows false] ∧ rows.length * P.bytesOf e ≤ reachBytes ∧ ∀ r ∈ rows, R r) := by
 intro fuel hf cs x hx hw
 cases fuel with
 | zero => simp [DataW.trod] at hx
 | succ fuel =>
  simp only [DataW.trod, hu] at hx
  split at hx
  all_goals first | (cases hx; done) | (rename_i heq; cases heq; done) | (rename_i heq _; cases heq; done) | skip
  ·rename_i heq
   cases heq
   exact ⟨_, ⟨[], rfl, by simp, by simp⟩, Rd.one rfl .sl0⟩
  ·rename_i a len cap heq
   cases heq
   split at hx
   ·rename_i hc
    simp only [Option.bind_eq_some_iff, Option.map_eq_some_iff] at hx
    obtain ⟨elems, hel, rest, hrest, rfl⟩ := hx
    obtain ⟨g1, g2⟩ := mapM_get hel
    simp only [List.length_range] at g1
    simp only [DataW.weights, hu, List.mem_cons, List.mem_append, List.length_map] at hw
    have hrow : ∀ i, i < len → ∃ row, R row ∧ ∃ csi, W.cells? base (a.add (i * n)) n = some csi ∧ Rd W csi row := fun i hi => by
     obtain ⟨y, k1, k2⟩ := g2 i i (by simp [hi])
     rw [hn] at k2
     obtain ⟨csi, k3, k4⟩ := Option.bind_eq_some_iff.1 k2
     obtain ⟨row, r1, r2⟩ := h fuel (by omega) csi y k4 (fun m hm => hw m (.inr (.inl (weightsAll_mem (List.mem_map.2 ⟨y, List.mem_of_getElem? k1, rfl⟩) m hm))))
     exact ⟨row, r1, csi, k3, r2⟩
    obtain ⟨rows, q1, q2⟩ := exists_list _ len hrow
    have hlen : rows.length * P.bytesOf e ≤ reachBytes := by
     have := hw _ (.inl rfl)
     rw [q1, ← g1]
     exact Nat.le_trans (Nat.mul_le_mul_right _ (Nat.le_add_right _ _)) this
    refine ⟨_, ⟨rows, rfl, hlen, fun r hr => ?_⟩, Rd.one rfl ?_⟩
    ·obtain ⟨i, hi⟩ := List.getElem?_of_mem hr
     exact (q2 i r hi).1
    ·by_cases hz : len = 0
     ·subst hz
      have : rows = [] := List.eq_nil_of_length_eq_zero q1
      subst this
      exact .sl0
     ·-- the cells of a row
      have hcell : ∀ (i : Nat) (row : List AV), rows[i]? = some row → row.length = n ∧ ∀ (j : Nat) (x : AV), row[j]? = some x → ∃ v, W.cell? ((a.add (i * n)).add j) = some v ∧ v.oneCell' = true ∧ RepV (memOf W) [] x v := fun i row hi => by
       obtain ⟨_, csi, k3, k4⟩ := q2 i row hi
       unfold World.cells? at k3
       split at k3
       ·obtain ⟨l1, l2⟩ := mapM_get k3
        simp only [List.length_range] at l1
        refine ⟨by rw [← k4.1, l1], fun j x hx => ?_⟩
        have hj : j < n := by rw [← l1, k4.1]; exact (List.getElem?_eq_some_iff.1 hx).1
        obtain ⟨v, l3, l4⟩ := l2 j j (by simp [hj])
        exact ⟨v, l4, k4.2 j x v hx l3⟩
       ·cases k3
      have hspot : a.spot = none := by
       obtain ⟨row, hr⟩ : ∃ row, rows[0]? = some row := ⟨_, List.getElem?_eq_getElem (by omega)⟩
       obtain ⟨l1, l2⟩ := hcell 0 row hr
       obtain ⟨v, l3, _⟩ := l2 0 _ (List.getElem?_eq_getElem (by omega))
       rw [Nat.zero_mul, addr_add0, addr_add0] at l3
       exact spot_of l3
      have hat : ∀ i j, (a.add (i * n)).add j = ⟨a.block, a.off + i * n + j, none⟩ := fun i j => by
       rw [addr_at hspot, addr_at rfl]
      obtain ⟨b, o, s⟩ := a
      simp only at hspot
      subst hspot
      rw [← q1]
      refine .sl (fun i j => (W.cell? ⟨b, o + i * n + j, none⟩).getD undef) (fun e => hz (by rw [← q1, e]; rfl)) (by rw [q1]; exact hc.2.1) (by simp) (fun i row hi => (hcell i row hi).1) (fun i row j x hi hx => ?_) (fun i row j x hi hx => ?_)
      ·obtain ⟨v, l3, l4, _⟩ := (hcell i row hi).2 j x hx
       rw [hat] at l3
       rw [l3]
       exact memOf_some l3 l4
      ·obtain ⟨v, l3, _, l5⟩ := (hcell i row hi).2 j x hx
       rw [hat] at l3
       rw [l3]
       exact l5
   ·cases hx
end
end Go.Ae
namespace Go.Ae
open Go.RowKit
def RowsOf : List (List AV → Prop) → List AV → Prop
 | [], row => row = []
 | R :: Rs, row => ∃ a b, row = a ++ b ∧ R a ∧ RowsOf Rs b
section
variable {H : Type} (enc : TypeId × Value → H) (P : Program) (W : World) (base : Nat) (sp : Nat → Bool) (hd : Bool)
def endOf (o : Nat) : List Field → Nat
 | [] => o
 | f :: fs => endOf (o + P.cellsOf f.type) fs
def FldOk (F : Nat) (o : Nat) : List Field → List (List AV → Prop) → Prop
 | [], [] => True
 | f :: fs, R :: Rs => f.offset = o ∧ RdF enc P W base sp hd F f.type R ∧ FldOk F (o + P.cellsOf f.type) fs Rs
 | _, _ => False
end
section
variable {H : Type} {enc : TypeId × Value → H} {P : Program} {W : World} {base : Nat} {sp : Nat → Bool} {hd : Bool} {F : Nat} {t : TypeId}
theorem endOf_le : ∀ (fs : List Field) (o : Nat), o ≤ endOf P o fs
 | [], o => Nat.le_refl _
 | f :: fs, o => Nat.le_trans (Nat.le_add_right _ _) (endOf_le fs _)
theorem Rd.nil : Rd W [] [] := ⟨rfl, fun j a v h => by simp at h⟩
theorem rd_fields {fuel : Nat} (hf : fuel ≤ F) {cs : List Value} : ∀ {fs : List Field} {Rs : List (List AV → Prop)} {o : Nat} {xs : List (DataW H × List MemPlace)}, FldOk enc P W base sp hd F o fs Rs →
  fs.mapM (fun f => DataW.trod enc P W base sp hd fuel f.type ((cs.drop f.offset).take (P.cellsOf f.type))) = some xs →
  (∀ n ∈ DataW.weightsEach P (fs.map (·.type)) (xs.map (·.1)), n ≤ reachBytes) → endOf P o fs = cs.length → ∃ row, RowsOf Rs row ∧ Rd W (cs.drop o) row
 | [], [], o, xs, _, _, _, he => ⟨[], rfl, by
  have : cs.drop o = [] := by rw [List.drop_eq_nil_iff]; simp [endOf] at he; omega
  rw [this]; exact .nil⟩
 | [], _ :: _, o, xs, h, _, _, _ => h.elim
 | _ :: _, [], o, xs, h, _, _, _ => h.elim
 | f :: fs, R :: Rs, o, xs, ⟨h1, h2, h3⟩, hm, hw, he => by
  rw [List.mapM_cons] at hm
  simp only [Option.bind_eq_bind, Option.bind_eq_some_iff, Option.pure_def, Option.some.injEq] at hm
  obtain ⟨y, hy, ys, hys, rfl⟩ := hm
  simp only [List.map_cons, DataW.weightsEach, List.mem_append] at hw
  obtain ⟨row2, k1, k2⟩ := rd_fields hf h3 hys (fun n hn => hw n (.inr hn)) he
  rw [h1] at hy
  obtain ⟨row1, k3, k4⟩ := h2 fuel hf _ y hy (fun n hn => hw n (.inl hn))
  have hle := endOf_le (P := P) fs (o + P.cellsOf f.type)
  simp only [endOf] at he
  refine ⟨row1 ++ row2, ⟨row1, row2, rfl, k3, k1⟩, Rd.append (n := P.cellsOf f.type) k4 ?_ (by simp; omega)⟩
  rw [List.drop_drop]
  exact k2
theorem rd_struct {fs : Array Field} {Rs : List (List AV → Prop)} (hu : P.underlying t = some (.struct fs)) (hsz : endOf P 0 fs.toList = P.cellsOf t) (h : FldOk enc P W base sp hd F 0 fs.toList Rs) :
  RdF enc P W base sp hd (F + 1) t (RowsOf Rs) := by
 intro fuel hf cs x hx hw
 cases fuel with
 | zero => simp [DataW.trod] at hx
 | succ fuel =>
  simp only [DataW.trod, hu] at hx
  split at hx
  ·rename_i hl
   obtain ⟨xs, hxs, rfl⟩ := Option.map_eq_some_iff.1 hx
   simp only [DataW.weights, hu] at hw
   obtain ⟨row, k1, k2⟩ := rd_fields (F := F) (by omega) h hxs hw (by rw [hsz, hl])
   exact ⟨row, k1, by simpa using k2⟩
  ·cases hx
end
end Go.Ae

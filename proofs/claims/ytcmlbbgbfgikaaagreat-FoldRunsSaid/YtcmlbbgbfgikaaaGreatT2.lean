/- Part 2 of the proof: Ae10, Ae11, Ae12, Ae13. -/
import Derived.Test.YtcmlbbgbfgikaaaGreatT1
set_option linter.unusedSimpArgs false
set_option linter.unusedVariables false
namespace Go.Ae
section
variable {P : Program} {M : Mem} {μ : List Bd} {st : List AObj} {w : World} {ρ : Operand → AV} {ρc : Operand → Value} {o : Oper} {en : Ent} {slot : Nat}
def Fits (n k bytes : Nat) : Prop := ∀ cap, k ≤ cap → cap < n → Builtin.nextslicecap n cap * bytes ≤ 281474976710656
theorem growBy_le (n : Nat) : ∀ (r c : Nat), c ≤ n + (n + 768) / 4 → Builtin.growBy n r c ≤ n + (n + 768) / 4
 | 0, c, h => h
 | r + 1, c, h => by
  simp only [Builtin.growBy]
  split
  ·exact h
  ·exact growBy_le n r _ (by omega)
theorem next_le (n cap : Nat) (h : cap < n) : Builtin.nextslicecap n cap ≤ 2 * n := by
 unfold Builtin.nextslicecap
 split
 ·omega
 ·split
  ·omega
  ·have := growBy_le n 4 cap (by omega)
   omega
theorem Fits.of {n k bytes : Nat} (h : n * bytes ≤ 140737488355328) : Fits n k bytes := fun cap _ hc => by
 have h1 := next_le n cap hc
 calc Builtin.nextslicecap n cap * bytes ≤ 2 * n * bytes := Nat.mul_le_mul_right _ h1
  _ = 2 * (n * bytes) := by rw [Nat.mul_assoc]
  _ ≤ 281474976710656 := by omega
def rowsA (look : Nat → AObj) (n : Nat) : AV → Option (List (List AV) × List (Nat × Bool))
 | .nil => some ([], [])
 | .sl sz ys _ => bif Nat.beq sz n then some (ys, []) else none
 | .la l g => match look l with
  | .arr c sz rows => bif Nat.beq g c && Nat.beq sz n then some (rows, [(l, false)]) else none
  | _ => none
 | .sc v => match v with
  | .string s => bif Nat.beq n 1 then some (bytesL s.data.toList, []) else none
  | _ => none
 | _ => none
theorem run_rows {n b o : Nat} (hn : 1 ≤ n) {ys : List (List AV)} (hz : ∀ (i : Nat) (row : List AV), ys[i]? = some row → row.length = n)
  (hc : ∀ (i : Nat) (row : List AV) (j : Nat) (a : AV), ys[i]? = some row → row[j]? = some a → ∃ v, w.cell? ⟨b, o + i * n + j, none⟩ = some v ∧ v.oneCell' = true ∧ RepV M [] a v) :
  ∃ arr, (∀ d, (loadCells ⟨b, o, none⟩ (ys.length * n)).run P { w with drawn := d } = .ok arr { w with drawn := d }) ∧ arr.size = ys.length * n ∧ RowsIn M n ys arr ∧ ∀ u ∈ arr.toList, u.oneCell' = true := by
 let f : Nat → Value := fun k => (w.cell? ⟨b, o + k, none⟩).getD undef
 have hk : ∀ k, k < ys.length * n → ∃ v, w.cell? ⟨b, o + k, none⟩ = some v ∧ v.oneCell' = true := fun k hk => by
  have hi : k / n < ys.length := Nat.div_lt_of_lt_mul (by rw [Nat.mul_comm]; exact hk)
  have hj : k % n < n := Nat.mod_lt _ hn
  have e1 := List.getElem?_eq_getElem hi
  have hl := hz _ _ e1
  have e2 := List.getElem?_eq_getElem (show k % n < (ys[k / n]).length by omega)
  obtain ⟨v, h1, h2, _⟩ := hc _ _ _ _ e1 e2
  refine ⟨v, ?_, h2⟩
  have : o + k / n * n + k % n = o + k := by
   have := Nat.div_add_mod k n
   rw [Nat.mul_comm] at this
   omega
  rwa [this] at h1
 have hf : ∀ k, k < ys.length * n → w.cell? ((⟨b, o, none⟩ : Addr).add k) = some (f k) := fun k h => by
  obtain ⟨v, h1, _⟩ := hk k h
  rw [addr_add, h1]; simp [f, h1]
 have hget : ∀ k, k < ys.length * n → (((List.range (ys.length * n)).map f).toArray)[k]? = some (f k) := fun k h => by
  simp [h]
 refine ⟨_, fun d => run_loadCells { w with drawn := d } _ _ f hf, by simp, ⟨hz, fun i row j a e1 e2 => ?_⟩, fun u hu => ?_⟩
 ·obtain ⟨v, h1, h2, h3⟩ := hc i row j a e1 e2
  have hi : i < ys.length := (List.getElem?_eq_some_iff.1 e1).1
  have hj : j < n := by rw [← hz i row e1]; exact (List.getElem?_eq_some_iff.1 e2).1
  have hlt : i * n + j < ys.length * n := by
   have : i * n + n ≤ ys.length * n := by rw [← Nat.succ_mul]; exact Nat.mul_le_mul_right n hi
   omega
  refine ⟨v, ?_, h2, h3⟩
  rw [hget _ hlt]
  simp only [f]
  rw [← Nat.add_assoc, h1]; rfl
 ·simp only [List.mem_map, List.mem_range] at hu
  obtain ⟨k, hk1, rfl⟩ := hu
  obtain ⟨v, h1, h2⟩ := hk k hk1
  simp only [f, h1, Option.getD_some]
  exact h2
theorem rowsA_spec (hst : StoreOk M μ st w) {n : Nat} (hn : 1 ≤ n) {y : AV} {ys : List (List AV)} {ac : List (Nat × Bool)} {v : Value} (h : rowsA (getO st) n y = some (ys, ac)) (hr : RepV M μ y v) :
  ∃ arr, (∀ w, (Builtin.lenOf v).run P w = .ok ys.length w) ∧ (∀ d, (Builtin.firstCells n ys.length v).run P { w with drawn := d } = .ok arr { w with drawn := d }) ∧ arr.size = ys.length * n ∧ RowsIn M n ys arr ∧ ∀ u ∈ arr.toList, u.oneCell' = true := by
 have hemp : ∀ A c (w : World), (Builtin.firstCells n 0 (.slice A 0 c)).run P w = .ok #[] w := fun A c w => by
  cases A <;> simp [Builtin.firstCells, loadCells, loadCellsFrom]
 have hnil : ∀ A c, v = .slice A 0 c → ys = [] → ∃ arr, (∀ w, (Builtin.lenOf v).run P w = .ok ys.length w) ∧ (∀ d, (Builtin.firstCells n ys.length v).run P { w with drawn := d } = .ok arr { w with drawn := d }) ∧ arr.size = ys.length * n ∧ RowsIn M n ys arr ∧ ∀ u ∈ arr.toList, u.oneCell' = true := fun A c e e2 => by
  subst e2
  exact ⟨#[], fun w => by rw [e]; rfl, fun d => by rw [e]; exact hemp A c _, by simp, ⟨by simp, by simp⟩, by simp⟩
 cases y with
 | nil =>
  simp only [rowsA, Option.some.injEq, Prod.mk.injEq] at h
  cases hr
  exact hnil _ _ rfl h.1.symm
 | sl sz xs f =>
  simp only [rowsA] at h
  cases hb : Nat.beq sz n with
  | false => rw [hb] at h; cases h
  | true =>
   rw [hb] at h
   cases h
   have := Nat.eq_of_beq_eq_true hb
   subst this
   cases hr with
   | sl0 => exact hnil _ _ rfl rfl
   | sl0f => exact hnil _ _ rfl rfl
   | @sl _ _ _ _ b o c fv hne hc hf hz hm hrep =>
    obtain ⟨arr, h1, h2, h3, h4⟩ := run_rows (P := P) (w := w) (M := M) (b := b) (o := o) hn hz (fun i row j a e1 e2 => by
     obtain ⟨z1, z2⟩ := hst.mem _ _ _ (hm i row j a e1 e2)
     exact ⟨_, z1, z2, hrep i row j a e1 e2⟩)
    exact ⟨arr, fun w => rfl, fun d => by simpa [Builtin.firstCells] using h1 d, h2, h3, h4⟩
 | la l g =>
  simp only [rowsA] at h
  split at h
  ·rename_i c sz rows hl
   cases hb : (Nat.beq g c && Nat.beq sz n) with
   | false => rw [hb] at h; cases h
   | true =>
    rw [hb] at h
    cases h
    simp only [Bool.and_eq_true] at hb
    have := Nat.eq_of_beq_eq_true hb.2
    subst this
    obtain ⟨bd, e1, e2, e3, e4, e5, e6, h7⟩ := hr.laCur hst hl hb.1
    rcases h7 with ⟨_, rfl, _, A, hv⟩ | ⟨b, cc, ty, k1, hv, k2, k3, k4, k5, k6⟩
    ·exact hnil _ _ hv rfl
    ·obtain ⟨arr, h1, h2, h3, h4⟩ := run_rows (P := P) (w := w) (M := M) (b := b) (o := 0) hn k5.1 (fun i row j a e1 e2 => by
      obtain ⟨v, z1, z2, z3⟩ := k5.2 i row j a e1 e2
      exact ⟨v, by rw [cell_of_heap k2, Nat.zero_add]; exact z1, z2, z3⟩)
     exact ⟨arr, fun w => by rw [hv]; rfl, fun d => by rw [hv]; simpa [Builtin.firstCells] using h1 d, h2, h3, h4⟩
  ·cases h
 | sc u =>
  simp only [rowsA] at h
  split at h
  ·rename_i s
   cases hb : Nat.beq n 1 with
   | false => rw [hb] at h; cases h
   | true =>
    rw [hb] at h
    cases h
    have := Nat.eq_of_beq_eq_true hb
    subst this
    have hv := hr.scv
    subst hv
    have hlen : (bytesL s.data.toList).length = s.size := by rw [bytesL_eq, List.length_map]; rfl
    have hs : s.data.size = s.size := rfl
    refine ⟨s.data.map fun b => Value.int .u8 b.toNat, fun w => by rw [hlen]; rfl, fun d => ?_, by rw [Array.size_map, hlen, hs, Nat.mul_one], ⟨fun i row e1 => ?_, fun i row j a e1 e2 => ?_⟩, fun u hu => ?_⟩
    ·have hx : (s.extract 0 s.size) = s := by simp
     rw [hlen]
     simp only [Builtin.firstCells, hx]
     rfl
    ·rw [bytesL_eq, List.getElem?_map] at e1
     obtain ⟨b, _, rfl⟩ := Option.map_eq_some_iff.1 e1
     rfl
    ·rw [bytesL_eq, List.getElem?_map] at e1
     obtain ⟨b, hb, rfl⟩ := Option.map_eq_some_iff.1 e1
     cases j with
     | zero =>
      simp at e2
      subst e2
      refine ⟨.int .u8 b.toNat, ?_, rfl, .sc⟩
      have hb' : s.data[i]? = some b := by rw [← Array.getElem?_toList]; exact hb
      rw [Nat.mul_one, Nat.add_zero, Array.getElem?_map, hb']
      rfl
     | succ j => simp at e2
    ·rw [Array.toList_map, List.mem_map] at hu
     obtain ⟨b, _, rfl⟩ := hu
     rfl
  ·cases h
 | _ => simp [rowsA] at h
theorem RowsIn.app {n : Nat} {xs ys : List (List AV)} {c1 c2 c3 : Array Value} (h1 : RowsIn M n xs c1) (h2 : RowsIn M n ys c2) (hl : c1.size = xs.length * n) (_hl2 : c2.size = ys.length * n) :
  RowsIn M n (xs ++ ys) (c1 ++ c2 ++ c3) := by
 have hget : ∀ (i : Nat) (row : List AV), (xs ++ ys)[i]? = some row → (i < xs.length ∧ xs[i]? = some row) ∨ (xs.length ≤ i ∧ ys[i - xs.length]? = some row) := fun i row e => by
  by_cases hi : i < xs.length
  ·rw [List.getElem?_append_left hi] at e; exact .inl ⟨hi, e⟩
  ·rw [List.getElem?_append_right (by omega)] at e; exact .inr ⟨by omega, e⟩
 refine ⟨fun i row e => ?_, fun i row j a e1 e2 => ?_⟩
 ·rcases hget i row e with ⟨_, e⟩ | ⟨_, e⟩
  ·exact h1.1 i row e
  ·exact h2.1 _ row e
 ·rcases hget i row e1 with ⟨hi, e⟩ | ⟨hi, e⟩
  ·obtain ⟨v, z1, z2, z3⟩ := h1.2 i row j a e e2
   have : i * n + j < c1.size := (Array.getElem?_eq_some_iff.1 z1).1
   refine ⟨v, ?_, z2, z3⟩
   rw [Array.append_assoc, Array.getElem?_append_left this]
   exact z1
  ·obtain ⟨v, z1, z2, z3⟩ := h2.2 _ row j a e e2
   have hlt : (i - xs.length) * n + j < c2.size := (Array.getElem?_eq_some_iff.1 z1).1
   have hidx : i * n + j = c1.size + ((i - xs.length) * n + j) := by
    rw [hl]
    have : i * n = xs.length * n + (i - xs.length) * n := by rw [← Nat.add_mul]; congr 1; omega
    omega
   refine ⟨v, ?_, z2, z3⟩
   rw [Array.append_assoc, hidx, Array.getElem?_append_right (by omega), Nat.add_sub_cancel_left, Array.getElem?_append_left hlt]
   exact z1
theorem zeroCells_size (zero : Array Value) (n : Nat) : (Builtin.zeroCells zero n).size = n * zero.size := by simp [Builtin.zeroCells]
def okT2 (P : Program) (t2 : TypeId) : Bool :=
 match P.underlying t2 with
 | some (.slice _) => true
 | some .string => true
 | _ => false
theorem run_append {t t2 e : TypeId} {i : TypeInfo} {z : Value} {ty : TypeId} (ht : P.underlying t = some (.slice e)) (ht2' : okT2 P t2 = true) (hi : P.info? e = some i) (hz : i.zero = some z)
  (hb : 1 ≤ i.bytes) {base : Option Addr} {k cap m : Nat} {y : Value} (hlen' : ∀ w, (Builtin.lenOf y).run P w = .ok m w) {new : Array Value} (hnew' : ∀ d, (Builtin.firstCells i.size m y).run P { w with drawn := d } = .ok new { w with drawn := d }) :
  (k + m ≤ cap → ∀ w', (∀ a, base = some a → (storeCells (a.add (k * i.size)) new.toList).run P w = .ok () w') → (base = none → w' = w) →
   (Builtin.append_ #[t, t2] ty #[.slice base k cap, y]).run P w = .ok (.slice base (k + m) cap) w') ∧
  (cap < k + m → k ≤ cap → Fits (k + m) k i.bytes → ∀ old, (∀ d, (Builtin.firstCells i.size k (.slice base k cap)).run P { w with drawn := d } = .ok old { w with drawn := d }) →
   ∃ c, k + m ≤ c ∧ (Builtin.append_ #[t, t2] ty #[.slice base k cap, y]).run P w =
    .ok (.slice (some ⟨w.heap.size, 0, none⟩) (k + m) c) ({ w with drawn := w.drawn + 1 }.alloc (.cells (old ++ new ++ Builtin.zeroCells z.cells (c - (k + m))) e))) := by
 have hlen : (Builtin.lenOf y).run P w = .ok m w := hlen' w
 obtain ⟨dt, ht2, hdt⟩ : ∃ dt, P.underlying t2 = some dt ∧ ((∃ e2, dt = .slice e2) ∨ dt = .string) := by
  unfold okT2 at ht2'
  split at ht2'
  ·rename_i e2 h2; exact ⟨_, h2, .inl ⟨e2, rfl⟩⟩
  ·rename_i h2; exact ⟨_, h2, .inr rfl⟩
  ·cases ht2'
 have hnew : (Builtin.firstCells i.size m y).run P w = .ok new w := hnew' w.drawn
 refine ⟨fun hc w' hw1 hw2 => ?_, fun hc hkc hfit old hold' => ?_⟩
 ·cases base with
  | none =>
   rw [hw2 rfl]
   rcases hdt with ⟨e2, rfl⟩ | rfl <;> simp [Builtin.append_, run_underlying ht, run_underlying ht2, run_sizeOf w hi, hlen, hnew, hc]
  | some a =>
   have := hw1 a rfl
   rcases hdt with ⟨e2, rfl⟩ | rfl <;> simp [Builtin.append_, run_underlying ht, run_underlying ht2, run_sizeOf w hi, hlen, hnew, hc, this]
 ·have hn : Builtin.nextslicecap (k + m) cap * i.bytes ≤ 281474976710656 := hfit cap hkc hc
  let c := (Question.appendCap (k + m) cap e).cut (w.tape w.drawn (.appendCap (k + m) cap e))
  have hck : k + m ≤ c := Nat.le_add_right _ _
  refine ⟨c, hck, ?_⟩
  have hnc : ¬ (k + m ≤ cap) := by omega
  have hb0 : ¬ (i.bytes = 0) := by omega
  have hbig : ¬ (281474976710656 < Builtin.nextslicecap (k + m) cap * i.bytes) := by omega
  have hfo : (Question.appendCap (k + m) cap e).forced = false := rfl
  have ho1 : (Builtin.firstCells i.size k (.slice base k cap)).run P w.drew = .ok old w.drew := hold' _
  have hn1 : (Builtin.firstCells i.size m y).run P w.drew = .ok new w.drew := hnew' _
  rcases hdt with ⟨e2, rfl⟩ | rfl <;> simp [Builtin.append_, run_underlying ht, run_underlying ht2, run_sizeOf w hi, hlen, hnc, run_typeInfo w hi, hb0, hbig, hfo, ho1, hn1, run_typeInfo w.drew hi, run_zeroValue w.drew hi hz, newRow, c]
def appendA (P : Program) (slot : Nat) (look : Nat → AObj) (en : Ent) (t t2 : TypeId) (x y : AV) : Option Res :=
 match P.underlying t, okT2 P t2 with
 | some (.slice e), true => match P.info? e with
  | some i => match i.zero with
   | some z => bif Nat.ble 1 i.size && Nat.ble 1 i.bytes && Nat.beq z.cells.size i.size then (match rowsA look i.size y with
    | some (ys, ac) => match x with
     | .nil => match en with
      | .loc => some ⟨.la slot 1, [(slot, .arr 1 i.size ys)], (slot, true) :: ac, [Fits (0 + ys.length) 0 i.bytes]⟩
      | _ => some ⟨.sl i.size ys false, [], ac, [Fits (0 + ys.length) 0 i.bytes]⟩
     | .sl sz xs f => match f with
      | true => bif Nat.beq sz i.size then (match en with
       | .loc => match xs with
        | [] => some ⟨.la slot 1, [(slot, .arr 1 i.size ys)], (slot, true) :: ac, [Fits (0 + ys.length) 0 i.bytes]⟩
        | _ :: _ => match ys with
         | [] => none
         | _ :: _ => some ⟨.la slot 1, [(slot, .arr 1 i.size (xs ++ ys))], (slot, true) :: ac, [Fits (xs.length + ys.length) xs.length i.bytes]⟩
       | _ => some ⟨.sl sz (xs ++ ys) false, [], ac, [Fits (xs.length + ys.length) xs.length i.bytes]⟩) else none
      | false => none
     | .la l g => match look l with
      | .arr c sz rows => bif Nat.beq g c && Nat.beq sz i.size then
        some ⟨.la l (g + 1), [(l, .arr (g + 1) sz (rows ++ ys))], (l, true) :: ac, [Fits (rows.length + ys.length) rows.length i.bytes]⟩ else none
      | _ => none
     | _ => none
    | none => none) else none
   | none => none
  | none => none
 | _, _ => none
theorem ok_append (hst : StoreOk M μ st w) (hs : st[slot]? = some .gone) (hρ : ∀ x, RepV M μ (ρ x) (ρc x)) {t t2 : TypeId} {x y : Operand} (ho : o.op = .call { callee := .builtin .append, args := #[x, y], argTypes := #[t, t2] }) {res : Res}
  (h : appendA P slot (getO st) en t t2 (ρ x) (ρ y) = some res) (hob : AllP res.ob) : OpOk M μ st w res ((execOp ρc o).run P w) := by
 have hx := hρ x
 have hy := hρ y
 obtain ⟨cns, hex⟩ := exec_builtin (ρc := ρc) ho
 have key : ∀ v w', (Builtin.append_ #[t, t2] o.type #[ρc x, ρc y]).run P w = .ok v w' → (execOp ρc o).run P w = .ok (.value v) w' := fun v w' hv => by
  rw [hex]; simp only [builtin]; exact exec_v (by simpa using hv)
 unfold appendA at h
 split at h
 ·rename_i e hu hu2
  split at h
  ·rename_i i hi
   split at h
   ·rename_i z hz
    cases hb : (Nat.ble 1 i.size && Nat.ble 1 i.bytes && Nat.beq z.cells.size i.size) with
    | false => rw [hb] at h; cases h
    | true =>
     rw [hb] at h
     simp only [cond_true] at h
     simp only [Bool.and_eq_true] at hb
     have hs1 : 1 ≤ i.size := Nat.le_of_ble_eq_true hb.1.1
     have hb1 : 1 ≤ i.bytes := Nat.le_of_ble_eq_true hb.1.2
     have hz1 : z.cells.size = i.size := Nat.eq_of_beq_eq_true hb.2
     split at h
     ·rename_i ys ac hrows
      obtain ⟨new, hyv, hnew, hnsz, hnr, hn1⟩ := rowsA_spec (P := P) hst hs1 hrows hy
      have empty : ∀ B, ρc x = .slice B 0 0 → Fits (0 + ys.length) 0 i.bytes →
        (ys = [] ∧ (execOp ρc o).run P w = .ok (.value (.slice B 0 0)) w) ∨
        ∃ c d arr, 0 + ys.length ≤ c ∧ RowsIn M i.size ys arr ∧ arr.size = c * i.size ∧ (execOp ρc o).run P w = .ok (.value (.slice (some ⟨w.heap.size, 0, none⟩) ys.length c)) ({ w with drawn := d }.alloc (.cells arr e)) := by
       intro B hv hfit
       obtain ⟨r1, r2⟩ := run_append (P := P) (ty := o.type) hu hu2 hi hz hb1 (base := B) (k := 0) (cap := 0) hyv hnew
       by_cases h0 : ys = []
       ·subst h0
        refine .inl ⟨rfl, key _ _ ?_⟩
        have hnil : new.toList = [] := by
         have : new.size = 0 := by simpa using hnsz
         simpa using this
        have := r1 (by simp) w (fun a _ => by rw [hnil]; simp [storeCells]) (fun _ => rfl)
        rw [hv]
        exact this
       ·have hpos : 0 < ys.length := List.length_pos_iff.2 h0
        obtain ⟨c, hc1, hc2⟩ := r2 (by omega) (Nat.le_refl 0) hfit #[] (fun d => by cases B <;> simp [Builtin.firstCells, loadCells, loadCellsFrom])
        refine .inr ⟨c, w.drawn + 1, #[] ++ new ++ Builtin.zeroCells z.cells (c - (0 + ys.length)), hc1, ?_, ?_, key _ _ ?_⟩
        ·have := RowsIn.app (M := M) (n := i.size) (xs := []) (ys := ys) (c1 := #[]) (c2 := new) (c3 := Builtin.zeroCells z.cells (c - (0 + ys.length))) ⟨by simp, by simp⟩ hnr (by simp) hnsz
         simpa using this
        ·simp only [Array.size_append, zeroCells_size, hnsz, hz1, List.size_toArray, List.length_nil, Nat.zero_add]
         rw [← Nat.add_mul]; congr 1; omega
        ·rw [hv]
         rw [hc2]
         simp
      have loc : ∀ B, ρc x = .slice B 0 0 → Fits (0 + ys.length) 0 i.bytes → OpOk M μ st w ⟨.la slot 1, [(slot, .arr 1 i.size ys)], (slot, true) :: ac, [Fits (0 + ys.length) 0 i.bytes]⟩ ((execOp ρc o).run P w) := by
       intro B hv hfit
       rcases empty B hv hfit with ⟨rfl, hrun⟩ | ⟨c, d, arr, h1, h2, h3, hrun⟩
       ·have hl : slot < μ.length := by rw [hst.len]; exact (List.getElem?_eq_some_iff.1 hs).1
        have hl' : slot < st.length := (List.getElem?_eq_some_iff.1 hs).1
        have hzr : ∀ p, μ[slot]? = some p → p.evo ⟨none, 1, 0, 0, i.size⟩ := fun p e => .inl (hst.dead slot _ p hs e rfl)
        refine ⟨_, w, M, μ.set slot ⟨none, 1, 0, 0, i.size⟩, .inl hrun, ?_, ?_, EvoAll.set hzr, .la (List.getElem?_set_self hl) (by omega) (Nat.le_refl _) (fun _ => ⟨B, rfl⟩) rfl⟩
        ·exact hst.update hl' (.refl M) hzr (fun _ _ _ => ⟨rfl, fun _ h => h⟩) (fun _ _ _ _ e1 hx e2 e3 => hst.lt e1 hx e2 e3) ⟨by omega, rfl, rfl, rfl, rfl, rfl⟩ (fun e => by cases e) (fun b e => by cases e) hst.mem
        ·refine ⟨rfl, rfl, rfl, Nat.le_refl _, fun _ _ _ => rfl, .refl M, fun b o v e k => by simp [e] at k, fun b ⟨j, q, p, e1, hq, e2, e3⟩ => .inr ?_⟩
         by_cases hj : j = slot
         ·subst hj
          rw [List.getElem?_set_self hl] at e2
          cases e2; cases e3
         ·simp only [applyWr, List.foldl_cons, List.foldl_nil] at e1
          rw [List.getElem?_set_ne (Ne.symm hj)] at e1 e2
          exact ⟨j, q, p, e1, hq, e2, e3⟩
       ·exact OpOk.newArr hst hs h2 rfl (by omega) h3 hrun
      have frz : ∀ B, ρc x = .slice B 0 0 → Fits (0 + ys.length) 0 i.bytes → ∀ obs, OpOk M μ st w ⟨.sl i.size ys false, [], ac, obs⟩ ((execOp ρc o).run P w) := by
       intro B hv hfit obs
       rcases empty B hv hfit with ⟨rfl, hrun⟩ | ⟨c, d, arr, h1, h2, h3, hrun⟩
       ·exact OpOk.val hst hrun .sl0
       ·exact OpOk.newRow hst h2 rfl (by omega) (by simp) hrun
      cases hax : ρ x with
      | nil =>
       rw [hax] at h hx
       have hv : ∃ B, ρc x = .slice B 0 0 := by generalize ρc x = v at hx; cases hx; exact ⟨_, rfl⟩
       obtain ⟨B, hv⟩ := hv
       cases en <;> cases h <;> simp only [AllP, and_true] at hob <;> first | exact loc B hv hob | exact frz B hv hob _
      | sl sz xs f =>
       rw [hax] at h hx
       cases f with
       | false => cases h
       | true =>
        simp only at h
        cases hsz : Nat.beq sz i.size with
        | false => rw [hsz] at h; cases h
        | true =>
         rw [hsz] at h
         have := Nat.eq_of_beq_eq_true hsz
         subst this
         simp only [cond_true] at h
         have hfull : ∀ obs, Fits (xs.length + ys.length) xs.length i.bytes → OpOk M μ st w ⟨.sl i.size (xs ++ ys) false, [], ac, obs⟩ ((execOp ρc o).run P w) := by
          intro obs hfit
          by_cases hxe : xs = []
          ·subst hxe
           have hv : ∃ B, ρc x = .slice B 0 0 := by
            generalize ρc x = v at hx
            cases hx with
            | sl0f => exact ⟨_, rfl⟩
            | sl f hne => exact absurd rfl hne
           obtain ⟨B, hv⟩ := hv
           exact frz B hv hfit obs
          ·generalize hxv : ρc x = v at hx
           cases hx with
           | sl0f => exact absurd rfl hxe
           | @sl _ _ _ _ b o' c fv hne hc hf hz' hm hr =>
            have := hf rfl
            subst this
            obtain ⟨r1, r2⟩ := run_append (P := P) (ty := o.type) hu hu2 hi hz hb1 (base := some ⟨b, o', none⟩) (k := xs.length) (cap := xs.length) hyv hnew
            by_cases h0 : ys = []
            ·subst h0
             have hnil : new.toList = [] := by
              have : new.size = 0 := by simpa using hnsz
              simpa using this
             have := r1 (by simp) w (fun a _ => by rw [hnil]; simp [storeCells]) (fun e => by cases e)
             rw [← hxv] at this
             refine OpOk.val hst (key _ _ this) ?_
             rw [List.append_nil]
             exact (RepV.sl fv hne hc hf hz' hm hr).unfull
            ·have hpos : 0 < ys.length := List.length_pos_iff.2 h0
             obtain ⟨old, q1, q2, q3, q4⟩ := run_rows (P := P) (w := w) (M := M) (b := b) (o := o') hs1 hz' (fun i row j a e1 e2 => by
              obtain ⟨z1, z2⟩ := hst.mem _ _ _ (hm i row j a e1 e2)
              exact ⟨_, z1, z2, hr i row j a e1 e2⟩)
             obtain ⟨c, hc1, hc2⟩ := r2 (by omega) (Nat.le_refl _) hfit old (fun d => by simpa [Builtin.firstCells] using q1 d)
             rw [← hxv] at hc2
             refine OpOk.newRow hst (RowsIn.app q3 hnr q2 hnsz) ?_ hc1 (by simp) (key _ _ hc2)
             simp
         have grown : xs ≠ [] → ys ≠ [] → Fits (xs.length + ys.length) xs.length i.bytes → OpOk M μ st w ⟨.la slot 1, [(slot, .arr 1 i.size (xs ++ ys))], (slot, true) :: ac, [Fits (xs.length + ys.length) xs.length i.bytes]⟩ ((execOp ρc o).run P w) := by
          intro hxe hye hob
          have hpos : 0 < ys.length := List.length_pos_iff.2 hye
          generalize hxv : ρc x = v at hx
          cases hx with
          | sl0f => exact absurd rfl hxe
          | @sl _ _ _ _ b o' c fv hne hc hf hz' hm hr =>
           have := hf rfl
           subst this
           obtain ⟨r1, r2⟩ := run_append (P := P) (ty := o.type) hu hu2 hi hz hb1 (base := some ⟨b, o', none⟩) (k := xs.length) (cap := xs.length) hyv hnew
           obtain ⟨old, q1, q2, q3, q4⟩ := run_rows (P := P) (w := w) (M := M) (b := b) (o := o') hs1 hz' (fun i row j a e1 e2 => by
            obtain ⟨z1, z2⟩ := hst.mem _ _ _ (hm i row j a e1 e2)
            exact ⟨_, z1, z2, hr i row j a e1 e2⟩)
           obtain ⟨c, hc1, hc2⟩ := r2 (by omega) (Nat.le_refl _) hob old (fun d => by simpa [Builtin.firstCells] using q1 d)
           rw [← hxv] at hc2
           have hrun := key _ _ hc2
           refine OpOk.newArr (d := w.drawn + 1) hst hs (RowsIn.app q3 hnr q2 hnsz) (by simp) (by simpa using hc1) ?_ hrun
           simp only [Array.size_append, zeroCells_size, q2, hnsz, hz1]
           rw [← Nat.add_mul, ← Nat.add_mul]
           congr 1
           omega
         cases en with
         | loc =>
          cases xs with
          | nil =>
           have hv : ∃ B, ρc x = .slice B 0 0 := by
            generalize ρc x = v at hx
            cases hx with
            | sl0f => exact ⟨_, rfl⟩
            | sl f hne => exact absurd rfl hne
           obtain ⟨B, hv⟩ := hv
           cases h
           simp only [AllP, and_true] at hob
           exact loc B hv hob
          | cons x0 xs0 =>
           simp only at h
           split at h
           ·cases h
           ·cases h
            simp only [AllP, and_true] at hob
            exact grown (by simp) (by simp) hob
         | _ => cases h; simp only [AllP, and_true] at hob; exact hfull _ hob
      | la l g =>
       rw [hax] at h hx
       simp only at h
       split at h
       ·rename_i cg sz rows hlk
        cases hsz : (Nat.beq g cg && Nat.beq sz i.size) with
        | false => rw [hsz] at h; cases h
        | true =>
         rw [hsz] at h
         cases h
         simp only [Bool.and_eq_true] at hsz
         have := Nat.eq_of_beq_eq_true hsz.2
         subst this
         simp only [AllP, and_true] at hob
         obtain ⟨bd, e1, e2, e3, e4, e5, e6, h7⟩ := hx.laCur hst hlk hsz.1
         have hl' : l < st.length := (List.getElem?_eq_some_iff.1 e1).1
         have hl : l < μ.length := by rw [hst.len]; exact hl'
         have upd : ∀ (bd' : Bd) (w' : World), bd'.g = g + 1 → (bd'.b = bd.b ∨ ∃ q, bd'.b = some q ∧ w.heap.size ≤ q) → w'.os = w.os → w'.tape = w.tape → w'.output = w.output → w.heap.size ≤ w'.heap.size →
           (∀ q, q < w.heap.size → bd.b ≠ some q → w'.heap[q]? = w.heap[q]?) → (∀ q, bd.b = some q → ∀ z, M q z = none) →
           RepO M (μ.set l bd') w' (.arr (g + 1) i.size (rows ++ ys)) bd' →
           StoreOk M (μ.set l bd') (st.set l (.arr (g + 1) i.size (rows ++ ys))) w' ∧ Stp M μ st w M (μ.set l bd') (st.set l (.arr (g + 1) i.size (rows ++ ys))) w' ∧ EvoAll μ (μ.set l bd') := by
          intro bd' w' k1 k2 g1 g2 g3 g4 g5 g6 k3
          have hev : ∀ p, μ[l]? = some p → p.evo bd' := fun p e => by
           rw [e2] at e; cases e
           exact .inr (.inr ⟨by omega, by omega⟩)
          refine ⟨hst.update hl' (.refl M) hev (fun b hb ⟨j, q, p, hj, z1, hq, z2, z3⟩ => ⟨g5 b hb (fun e => hst.apart l j _ q bd p b (Ne.symm hj) e1 z1 rfl hq e2 z2 e z3), fun _ h => h⟩)
           (fun i x p b z1 hx z2 z3 => hst.lt z1 hx z2 z3) k3 (fun e => by cases e) (fun b hb _ j q p hj z1 hq z2 z3 => ?_) (fun b z u e => ?_), ⟨g1, g2, g3, g4, fun b hb hown => g5 b hb (fun e => hown ⟨l, _, bd, e1, rfl, e2, e⟩), .refl M, fun b o v e k => by simp [e] at k, fun b ⟨j, q, p, z1, hq, z2, z3⟩ => ?_⟩, EvoAll.set hev⟩
          ·rcases k2 with k2 | ⟨q', k2, k4⟩
           ·rw [k2] at hb
            exact hst.apart l j _ q bd p b (Ne.symm hj) e1 z1 rfl hq e2 z2 hb z3
           ·rw [k2] at hb
            cases hb
            have := hst.lt z1 hq z2 z3
            omega
          ·obtain ⟨m1, m2⟩ := hst.mem b z u e
           refine ⟨?_, m2⟩
           have hlt := Mem.lt hst.mem e
           have hne : bd.b ≠ some b := fun e' => by rw [g6 b e' z] at e; cases e
           simp only [World.cell?, g5 b hlt hne] at m1 ⊢
           exact m1
          ·by_cases hj : j = l
           ·subst hj
            rw [List.getElem?_set_self hl] at z2
            cases z2
            rcases k2 with k2 | ⟨q', k2, k4⟩
            ·exact .inr ⟨j, _, bd, e1, rfl, e2, by rw [← k2]; exact z3⟩
            ·rw [k2] at z3; cases z3; exact .inl k4
           ·rw [List.getElem?_set_ne (Ne.symm hj)] at z1 z2
            exact .inr ⟨j, q, p, z1, hq, z2, z3⟩
         rcases h7 with ⟨k0, rfl, k2, B, hv⟩ | ⟨b, cc, ty, k0, hv, k2, k3, k4, k5, k6⟩
         ·rcases empty B hv hob with ⟨rfl, hrun⟩ | ⟨c, d, arr, h1, h2, h3, hrun⟩
          ·obtain ⟨u1, u2, u3⟩ := upd ⟨none, g + 1, 0, 0, i.size⟩ w rfl (.inl k0.symm) rfl rfl rfl (Nat.le_refl _) (fun _ _ _ => rfl) (fun q e => by rw [k0] at e; cases e) ⟨by omega, rfl, rfl, rfl, rfl, rfl⟩
           exact ⟨_, w, M, _, .inl hrun, u1, u2, u3, .la (List.getElem?_set_self hl) (by omega) (Nat.le_refl _) (fun _ => ⟨B, rfl⟩) rfl⟩
          ·obtain ⟨u1, u2, u3⟩ := upd ⟨some w.heap.size, g + 1, c, ys.length, i.size⟩ ({ w with drawn := d }.alloc (.cells arr e)) rfl (.inr ⟨_, rfl, Nat.le_refl _⟩) rfl rfl rfl (by simp)
            (fun q hq _ => alloc_heap_old _ _ hq) (fun q e => by rw [k0] at e; cases e)
            ⟨by omega, rfl, rfl, by simp, arr, e, alloc_heap_new _ _, h3, by simpa using h1, by simpa using h2.1, by simpa using h2.2, fun z => Mem.none hst.mem (Nat.le_refl _) z⟩
           exact ⟨_, _, M, _, .inl hrun, u1, u2, u3, .la (List.getElem?_set_self hl) (by omega) (Nat.le_refl _) (fun _ => rfl) rfl⟩
         ·obtain ⟨r1, r2⟩ := run_append (P := P) (ty := o.type) hu hu2 hi hz hb1 (base := some ⟨b, 0, none⟩) (k := rows.length) (cap := bd.n) hyv hnew
          by_cases hroom : rows.length + ys.length ≤ bd.n
          ·have hnl : new.toList.length = ys.length * i.size := by simpa using hnsz
           have hfitc : rows.length * i.size + new.toList.length ≤ cc.size := by
            rw [hnl, k3, ← Nat.add_mul]
            exact Nat.mul_le_mul_right _ hroom
           obtain ⟨w', g1, g2⟩ := run_storeCells (P := P) b (rows.length * i.size) ty new.toList 0 w cc k2 (by simpa using hfitc) hn1
           rw [Nat.add_zero] at g2
           have hrun := r1 hroom w' (fun a e => by cases e; simpa [addr_add] using g1) (fun e => by cases e)
           rw [← hv] at hrun
           have hrows : RowsIn M i.size (rows ++ ys) (putA cc (rows.length * i.size) new.toList) := by
            have hget : ∀ (k : Nat) (row : List AV), (rows ++ ys)[k]? = some row → (k < rows.length ∧ rows[k]? = some row) ∨ (rows.length ≤ k ∧ ys[k - rows.length]? = some row) := fun k row e => by
             by_cases hi : k < rows.length
             ·rw [List.getElem?_append_left hi] at e; exact .inl ⟨hi, e⟩
             ·rw [List.getElem?_append_right (by omega)] at e; exact .inr ⟨by omega, e⟩
            refine ⟨fun k row e => ?_, fun k row j a z1 z2 => ?_⟩
            ·rcases hget k row e with ⟨_, e⟩ | ⟨_, e⟩
             ·exact k5.1 k row e
             ·exact hnr.1 _ row e
            ·rw [putA_get _ _ _ _ hfitc]
             rcases hget k row z1 with ⟨hk, e⟩ | ⟨hk, e⟩
             ·have hj : j < i.size := by rw [← k5.1 k row e]; exact (List.getElem?_eq_some_iff.1 z2).1
              have : k * i.size + i.size ≤ rows.length * i.size := by rw [← Nat.succ_mul]; exact Nat.mul_le_mul_right _ hk
              rw [if_neg (by omega)]
              exact k5.2 k row j a e z2
             ·obtain ⟨v, q1, q2, q3⟩ := hnr.2 _ row j a e z2
              have hlt : (k - rows.length) * i.size + j < new.size := (Array.getElem?_eq_some_iff.1 q1).1
              have hidx : k * i.size + j = rows.length * i.size + ((k - rows.length) * i.size + j) := by
               have : k * i.size = rows.length * i.size + (k - rows.length) * i.size := by rw [← Nat.add_mul]; congr 1; omega
               omega
              rw [hidx, if_pos (by rw [hnl, ← hnsz]; omega), Nat.add_sub_cancel_left, Array.getElem?_toList]
              exact ⟨v, q1, q2, q3⟩
           obtain ⟨u1, u2, u3⟩ := upd ⟨some b, g + 1, bd.n, rows.length + ys.length, i.size⟩ w' rfl (.inl k0.symm) g2.os g2.tape g2.output (by rw [g2.size]; exact Nat.le_refl _)
            (fun q _ hne => g2.other q (fun e => hne (by rw [k0, e]))) (fun q e => by rw [k0] at e; cases e; exact k6)
            ⟨by omega, rfl, rfl, by simp, _, ty, g2.here, by rw [putA_size]; exact k3, by simpa using hroom, hrows.1, hrows.2, k6⟩
           exact ⟨_, w', M, _, .inl (key _ _ hrun), u1, u2, u3, .la (List.getElem?_set_self hl) (by omega) (Nat.le_refl _) (fun _ => rfl) rfl⟩
          ·obtain ⟨old, q1, q2, q3, q4⟩ := run_rows (P := P) (w := w) (M := M) (b := b) (o := 0) hs1 k5.1 (fun i row j a e1 e2 => by
            obtain ⟨v, z1, z2, z3⟩ := k5.2 i row j a e1 e2
            exact ⟨v, by rw [cell_of_heap k2, Nat.zero_add]; exact z1, z2, z3⟩)
           obtain ⟨c, hc1, hc2⟩ := r2 (by omega) k4 hob old (fun d => by simpa [Builtin.firstCells] using q1 d)
           rw [← hv] at hc2
           have hrows : RowsIn M i.size (rows ++ ys) (old ++ new ++ Builtin.zeroCells z.cells (c - (rows.length + ys.length))) := RowsIn.app q3 hnr q2 hnsz
           have hsize : (old ++ new ++ Builtin.zeroCells z.cells (c - (rows.length + ys.length))).size = c * i.size := by
            simp only [Array.size_append, zeroCells_size, q2, hnsz, hz1]
            rw [← Nat.add_mul, ← Nat.add_mul]; congr 1; omega
           obtain ⟨u1, u2, u3⟩ := upd ⟨some w.heap.size, g + 1, c, rows.length + ys.length, i.size⟩ ({ w with drawn := w.drawn + 1 }.alloc (.cells (old ++ new ++ Builtin.zeroCells z.cells (c - (rows.length + ys.length))) e)) rfl (.inr ⟨_, rfl, Nat.le_refl _⟩) rfl rfl rfl (by simp)
            (fun q hq _ => alloc_heap_old { w with drawn := w.drawn + 1 } (.cells (old ++ new ++ Builtin.zeroCells z.cells (c - (rows.length + ys.length))) e) hq) (fun q e => by rw [k0] at e; cases e; exact k6)
            ⟨by omega, rfl, rfl, by simp, _, e, alloc_heap_new _ _, hsize, by simpa using hc1, hrows.1, hrows.2, fun z => Mem.none hst.mem (Nat.le_refl _) z⟩
           exact ⟨_, _, M, _, .inl (key _ _ hc2), u1, u2, u3, .la (List.getElem?_set_self hl) (by omega) (Nat.le_refl _) (fun _ => rfl) rfl⟩
       ·cases h
      | _ => rw [hax] at h; simp at h
     ·cases h
   ·cases h
  ·cases h
 ·cases h
end
end Go.Ae
namespace Go.Ae
section
variable {P : Program} {M : Mem} {μ : List Bd} {st : List AObj} {w : World} {ρ : Operand → AV} {ρc : Operand → Value} {o : Oper} {en : Ent} {slot : Nat}
def makeSliceA (P : Program) (slot : Nat) (en : Ent) (t : TypeId) (l c : AV) : Option Res :=
 match P.underlying t with
 | some (.slice e) => match P.info? e, zeroA P e with
  | some i, some zs => match l with
   | .sc (.int _ n) => match c with
    | .sc (.int _ m) => match en with
     | .nat k => bif Nat.ble 1 i.size && Nat.ble 1 i.bytes && Nat.beq zs.length i.size && zs.all (dataB 6) then
       some ⟨.la slot 1, [(slot, .arr 1 i.size (List.replicate k zs))], [(slot, true)], [n = (k : Int), (k : Int) ≤ m, m * i.bytes ≤ 281474976710656]⟩ else none
     | _ => none
    | _ => none
   | _ => none
  | _, _ => none
 | _ => none
theorem wrap64_small {n : Int} (h0 : 0 ≤ n) (h1 : n ≤ 281474976710656) : IntKind.i64.wrap n = n := by
 simp only [IntKind.wrap, IntKind.bits]
 have : IntKind.i64.signed = true := rfl
 simp [this]
 omega
theorem ok_makeSlice (hst : StoreOk M μ st w) (hs : st[slot]? = some .gone) (hρ : ∀ x, RepV M μ (ρ x) (ρc x)) {t : TypeId} {l c : Operand} (ho : o.op = .makeSlice t l c) {res : Res}
  (h : makeSliceA P slot en t (ρ l) (ρ c) = some res) (hob : AllP res.ob) : OpOk M μ st w res ((execOp ρc o).run P w) := by
 have hl := hρ l
 have hc := hρ c
 unfold makeSliceA at h
 split at h
 ·rename_i e hu
  split at h
  ·rename_i i zs hi hz
   split at h
   ·rename_i kl n el
    split at h
    ·rename_i kc m ec
     split at h
     ·rename_i k
      cases hb : (Nat.ble 1 i.size && Nat.ble 1 i.bytes && Nat.beq zs.length i.size && zs.all (dataB 6)) with
      | false => rw [hb] at h; cases h
      | true =>
       rw [hb] at h
       cases h
       simp only [Bool.and_eq_true] at hb
       have h1 : 1 ≤ i.size := Nat.le_of_ble_eq_true hb.1.1.1
       have h2 : 1 ≤ i.bytes := Nat.le_of_ble_eq_true hb.1.1.2
       have h3 : zs.length = i.size := Nat.eq_of_beq_eq_true hb.1.2
       have h4 := List.all_eq_true.1 hb.2
       simp only [AllP, and_true] at hob
       obtain ⟨rfl, o2, o3⟩ := hob
       rw [el] at hl
       rw [ec] at hc
       obtain ⟨i', z, hi', hzz, hr⟩ := zeroA_rep hz M μ
       rw [hi] at hi'
       cases hi'
       have hm0 : 0 ≤ m := by omega
       have hmle : m ≤ m * i.bytes := by
        have : m * 1 ≤ m * (i.bytes : Int) := Int.mul_le_mul_of_nonneg_left (by omega) hm0
        omega
       have w1 : IntKind.i64.wrap (k : Int) = (k : Int) := wrap64_small (by omega) (by omega)
       have w2 : IntKind.i64.wrap m = m := wrap64_small hm0 (by omega)
       have hrun : (execOp ρc o).run P w = .ok (.value (.slice (some ⟨w.heap.size, 0, none⟩) k m.toNat)) (({ w with drawn := w.drawn } : World).alloc (.cells ((Array.range (m.toNat * i.size)).map (z.cells[· % z.cells.size]!)) e)) := by
        simp only [execOp, ho, hl.scv, hc.scv]
        refine exec_v ?_
        simp only [Instr.makeSlice, Sem.run_bind, run_underlying hu, Result.andThen_ok, asInt, asIntOf, Sem.run_pure, run_typeInfo w hi, w1, w2]
        have a0 : ¬ ((k : Int) < 0) := by omega
        have a1 : ¬ (m < 0) := by omega
        have a2 : ¬ (281474976710656 < (i.bytes : Int) * m) := by rw [Int.mul_comm] at o3; omega
        have a3 : ¬ (m < (k : Int)) := by omega
        by_cases hm1 : m.toNat * i.size = 0
        ·simp [a0, a1, a2, a3, hm1, run_sizeOf w hi, newRow, run_askRoom, Array.range_zero']
        ·simp [a0, a1, a2, a3, hm1, run_sizeOf w hi, newRow, run_askRoom, run_zeroValue w hi hzz]
       refine OpOk.newArr hst hs ⟨fun j row e => ?_, fun j row x a e1 e2 => ?_⟩ (by simp) (by omega) (by simp) hrun
       ·rw [List.getElem?_replicate] at e
        split at e
        ·cases e; exact h3
        ·cases e
       ·rw [List.getElem?_replicate] at e1
        split at e1
        ·rename_i hj
         cases e1
         obtain ⟨v, z1, z2, z3⟩ := hr.2 x a e2
         have hx : x < i.size := by rw [← h3]; exact (List.getElem?_eq_some_iff.1 e2).1
         refine ⟨v, ?_, z2, z3.ofData 6 (h4 a (List.mem_of_getElem? e2))⟩
         have hlt : j * i.size + x < m.toNat * i.size := by
          have : j * i.size + i.size ≤ m.toNat * i.size := by rw [← Nat.succ_mul]; exact Nat.mul_le_mul_right _ (by omega)
          omega
         have hmod : (j * i.size + x) % z.cells.size = x := by rw [hr.1, h3, Nat.mul_comm, Nat.mul_add_mod]; exact Nat.mod_eq_of_lt hx
         rw [Array.getElem?_map, Array.getElem?_range, if_pos hlt]
         simp only [Option.map_some, Option.some.injEq, hmod]
         rw [getElem!_def, z1]
        ·cases e1
     ·cases h
    ·cases h
   ·cases h
  ·cases h
 ·cases h
theorem bbeq (a b : ByteArray) : (a == b) = true ↔ a = b := by
 cases a; cases b
 show ByteArray.beq _ _ = true ↔ _
 simp [ByteArray.beq]
def findM (s : ByteArray) : List (ByteArray × AV) → Option AV
 | [] => none
 | (k, a) :: r => if s == k then some a else findM s r
def setM (s : ByteArray) (a : AV) : List (ByteArray × AV) → List (ByteArray × AV)
 | [] => [(s, a)]
 | (k, b) :: r => if s == k then (s, a) :: r else (k, b) :: setM s a r
theorem find_rep (s : ByteArray) : ∀ (es : List (ByteArray × AV)) (ms : List MapEntry) (i : Nat), ms.length = es.length →
  (∀ (j : Nat) (key : ByteArray) (a : AV), es[j]? = some (key, a) → ∃ e, ms[j]? = some e ∧ e.key = .string key ∧ RepV M [] a e.val) →
  (findM s es = none ∧ Instr.findNow .string (.string s) ms i = some none) ∨
  ∃ j a e, findM s es = some a ∧ Instr.findNow .string (.string s) ms i = some (some (i + j, e.val)) ∧ RepV M [] a e.val ∧ ms[j]? = some e ∧ e.key = .string s ∧
   ∀ b, setM s b es = es.set j (s, b)
 | [], [], i, _, _ => .inl ⟨rfl, rfl⟩
 | [], _ :: _, _, hl, _ => by simp at hl
 | _ :: _, [], _, hl, _ => by simp at hl
 | (k, a) :: es, m :: ms, i, hl, h => by
  obtain ⟨e, h1, h2, h3⟩ := h 0 k a rfl
  simp only [List.getElem?_cons_zero, Option.some.injEq] at h1
  subst h1
  by_cases hk : (s == k) = true
  ·refine .inr ⟨0, a, m, by simp [findM, hk], by simp [Instr.findNow, Instr.sameNow, h2, hk], h3, rfl, ?_, fun b => by simp [setM, hk]⟩
   rw [h2, (bbeq _ _).1 hk]
  ·have hk' : (s == k) = false := by simpa using hk
   rcases find_rep s es ms (i + 1) (by simpa using hl) (fun j key a e => by simpa using h (j + 1) key a (by simpa using e)) with ⟨q1, q2⟩ | ⟨j, a', e, q1, q2, q3, q4, q5, q6⟩
   ·exact .inl ⟨by simp [findM, hk', q1], by simp [Instr.findNow, Instr.sameNow, h2, hk', q2]⟩
   ·exact .inr ⟨j + 1, a', e, by simp [findM, hk', q1], by simp [Instr.findNow, Instr.sameNow, h2, hk', q2]; omega, q3, by simpa using q4, q5, fun b => by simp [setM, hk', q6]⟩
theorem run_checkKey {t : TypeId} (hu : P.underlying t = some .string) (b : Bool) (s : ByteArray) (w : World) : ∀ n, (Instr.checkKey b (n + 1) t (.string s)).run P w = .ok () w := fun n => by
 simp [Instr.checkKey, run_underlying hu]
theorem obj_map (hst : StoreOk M μ st w) {l : Nat} {es : List (ByteArray × AV)} {v : Value} (h : getO st l = .map es) (hr : RepV M μ (.mp l) v) :
  ∃ b ms k, v = .map (some b) ∧ w.heap[b]? = some (.map ms k) ∧ ms.size = es.length ∧
   (∀ (j : Nat) (key : ByteArray) (a : AV), es[j]? = some (key, a) → ∃ e, ms[j]? = some e ∧ e.key = .string key ∧ RepV M [] a e.val) ∧ st[l]? = some (.map es) ∧ μ[l]? = some (Bd.at b) ∧ (∀ x, M b x = none) := by
 have e1 := getO_some h rfl
 cases hr with
 | mp e2 =>
  obtain ⟨b, ms, k, e3, h2, h3, h4, h5⟩ := hst.rep l _ _ e1 e2
  have e4 := congrArg Bd.b e3
  simp only [Bd.at, Option.some.injEq] at e4
  subst e4
  exact ⟨_, ms, k, rfl, h2, h3, h4, e1, e2, h5⟩
def makeMapA (slot : Nat) : Option Res := some ⟨.mp slot, [(slot, .map [])], [(slot, true)], []⟩
theorem ok_makeMap (hst : StoreOk M μ st w) (hs : st[slot]? = some .gone) {t : TypeId} (ho : o.op = .makeMap t none) {res : Res}
  (h : makeMapA slot = some res) : OpOk M μ st w res ((execOp ρc o).run P w) := by
 cases h
 have hl : slot < μ.length := by rw [hst.len]; exact (List.getElem?_eq_some_iff.1 hs).1
 obtain ⟨h1, h2, h3⟩ := hst.newObj (o := .map []) (bd := Bd.at w.heap.size) (ob := .map #[] 0) hs rfl rfl
  ⟨w.heap.size, #[], 0, rfl, alloc_heap_new w _, rfl, by simp, fun x => Mem.none hst.mem (Nat.le_refl _) x⟩
 refine ⟨_, _, M, _, .inl ?_, h1, h2, h3, .mp (List.getElem?_set_self hl)⟩
 simp only [execOp, ho]
 exact exec_v (by simp [Instr.makeMap])
def lookupA (P : Program) (look : Nat → AObj) (en : Ent) (t : TypeId) (m k : AV) (ok : Bool) : Option Res :=
 match P.underlying t with
 | some (.map kt et) => match P.underlying kt with
  | some .string => match P.info? et with
   | some i => match i.zero with
    | some z => match m with
     | .mp l => match look l with
      | .map es => match k with
       | .sc (.string s) => match en with
        | .look r => some ⟨bif ok then .tup [r.getD (cvt z), .sc (.bool r.isSome)] else r.getD (cvt z), [], [(l, false)], [findM s es = r]⟩
        | _ => none
       | _ => none
      | _ => none
     | _ => none
    | none => none
   | none => none
  | _ => none
 | _ => none
theorem ok_lookup (hst : StoreOk M μ st w) (hρ : ∀ x, RepV M μ (ρ x) (ρc x)) {t : TypeId} {m k : Operand} {ok : Bool} (ho : o.op = .lookup t m k ok) {res : Res}
  (h : lookupA P (getO st) en t (ρ m) (ρ k) ok = some res) (hob : AllP res.ob) : OpOk M μ st w res ((execOp ρc o).run P w) := by
 have hm := hρ m
 have hk := hρ k
 unfold lookupA at h
 split at h
 ·rename_i kt et hu
  split at h
  ·rename_i hku
   split at h
   ·rename_i i hi
    split at h
    ·rename_i z hz
     split at h
     ·rename_i l em
      split at h
      ·rename_i es hl
       split at h
       ·rename_i s ek
        split at h
        ·rename_i r
         cases h
         simp only [AllP, and_true] at hob
         rw [em] at hm
         rw [ek] at hk
         obtain ⟨b, ms, kk, hmv, h2, h3, h4, h5, h6, h7⟩ := obj_map hst hl hm
         have hfin : ∀ v, RepV M μ (r.getD (cvt z)) v → (execOp ρc o).run P w = .ok (.value (if ok then .tuple #[v, .bool r.isSome] else v)) w →
           OpOk M μ st w ⟨bif ok then .tup [r.getD (cvt z), .sc (.bool r.isSome)] else r.getD (cvt z), [], [(l, false)], [findM s es = r]⟩ ((execOp ρc o).run P w) := fun v hv hrun => by
          refine OpOk.val hst hrun ?_
          cases ok with
          | false => exact hv
          | true =>
           refine RepV.tup (us := [v, .bool r.isSome]) rfl fun j a u e1 e2 => ?_
           match j with
           | 0 => simp at e1 e2; subst e1; subst e2; exact hv
           | 1 => simp at e1 e2; subst e1; subst e2; exact .sc
           | j + 2 => simp at e1
         have hrun0 : ∀ (r' : Option (Nat × Value)), Instr.findNow .string (.string s) ms.toList 0 = some r' →
           (execOp ρc o).run P w = .ok (.value (if ok then .tuple #[(match r' with | some (_, v) => v | none => z), .bool r'.isSome] else (match r' with | some (_, v) => v | none => z))) w := fun r' hf => by
          simp only [execOp, ho, hmv, hk.scv]
          refine exec_v ?_
          have hg : (getObj b).run P w = .ok (.map ms kk) w := by simp [getObj, Sem.run, h2]
          have hfk : (Instr.findKey kt (.string s) ms.toList).run P w = .ok r' w := by simp [Instr.findKey, run_underlying hku, hf]
          simp only [Instr.lookup, Sem.run_bind, run_underlying hu, Result.andThen_ok, hg, run_checkKey hku _ s w 9999, hfk, Sem.run_pure]
          cases r' with
          | none => simp [run_zeroValue w hi hz]
          | some p => cases p; simp
         rcases find_rep (M := M) s es ms.toList 0 (by simpa using h3) (fun j key a e => by obtain ⟨x, q1, q2, q3⟩ := h4 j key a e; exact ⟨x, by simpa using q1, q2, q3⟩) with ⟨q1, q2⟩ | ⟨j, a, e, q1, q2, q3, _, _, _⟩
         ·rw [q1] at hob
          subst hob
          exact hfin z (cvt_rep M μ z) (hrun0 none q2)
         ·rw [q1] at hob
          subst hob
          exact hfin e.val q3.data (hrun0 (some (0 + j, e.val)) q2)
        ·cases h
       ·cases h
      ·cases h
     ·cases h
    ·cases h
   ·cases h
  ·cases h
 ·cases h
theorem StoreOk.setMap (hst : StoreOk M μ st w) {l b : Nat} {es es' : List (ByteArray × AV)} {ms ms' : Array MapEntry} {k k' : Nat} (e1 : st[l]? = some (.map es)) (e2 : μ[l]? = some (Bd.at b)) (h2 : w.heap[b]? = some (.map ms k))
  (hm : ∀ x, M b x = none) (h3 : ms'.size = es'.length) (h4 : ∀ (j : Nat) (key : ByteArray) (a : AV), es'[j]? = some (key, a) → ∃ e, ms'[j]? = some e ∧ e.key = .string key ∧ RepV M [] a e.val) :
  StoreOk M μ (st.set l (.map es')) { w with heap := w.heap.setIfInBounds b (.map ms' k') } ∧ Stp M μ st w M μ (st.set l (.map es')) { w with heap := w.heap.setIfInBounds b (.map ms' k') } := by
 have hl : l < st.length := (List.getElem?_eq_some_iff.1 e1).1
 have hset : μ.set l (Bd.at b) = μ := by
  apply List.ext_getElem?
  intro j
  by_cases hj : j = l
  ·subst hj; rw [List.getElem?_set_self (by rw [hst.len]; exact hl), e2]
  ·rw [List.getElem?_set_ne (Ne.symm hj)]
 have hbs : b < w.heap.size := (Array.getElem?_eq_some_iff.1 h2).1
 have hother : ∀ b', b' ≠ b → (w.heap.setIfInBounds b (.map ms' k'))[b']? = w.heap[b']? := fun b' hb => Array.getElem?_setIfInBounds_ne (Ne.symm hb)
 have hup : StoreOk M (μ.set l (Bd.at b)) (st.set l (.map es')) { w with heap := w.heap.setIfInBounds b (.map ms' k') } := by
  refine hst.update hl (.refl M) (fun q e => by rw [e2] at e; cases e; exact .refl _) (fun b' _ ⟨j, y, q, hj, z1, hy, z2, z3⟩ => ?_) (fun j y q b' z1 hy z2 z3 => hst.lt z1 hy z2 z3) ?_ (fun e => by cases e) (fun b' e _ j y q hj z1 hy z2 z3 => ?_) (fun b' y u e => ?_)
  ·exact ⟨hother b' (fun e => hst.apart l j _ y _ q b (Ne.symm hj) e1 z1 rfl hy e2 z2 rfl (e ▸ z3)), fun _ h => h⟩
  ·exact ⟨b, ms', k', rfl, by simp [hbs], h3, h4, hm⟩
  ·cases e
   exact hst.apart l j _ y _ q b (Ne.symm hj) e1 z1 rfl hy e2 z2 rfl z3
  ·obtain ⟨m1, m2⟩ := hst.mem b' y u e
   refine ⟨?_, m2⟩
   have hne : b' ≠ b := fun e' => by subst e'; rw [hm y] at e; cases e
   simp only [World.cell?, hother b' hne] at m1 ⊢
   exact m1
 rw [hset] at hup
 refine ⟨hup, rfl, rfl, rfl, by simp, fun b' _ hown => hother b' (fun e => hown ⟨l, _, _, e1, rfl, e2, by rw [e]; rfl⟩), .refl M, fun b' y u e k => by simp [e] at k, fun b' ⟨j, y, q, z1, hy, z2, z3⟩ => .inr ?_⟩
 by_cases hj : j = l
 ·subst hj; exact ⟨j, _, q, e1, rfl, z2, z3⟩
 ·rw [List.getElem?_set_ne (Ne.symm hj)] at z1
  exact ⟨j, y, q, z1, hy, z2, z3⟩
def mapUpdateA (P : Program) (look : Nat → AObj) (en : Ent) (t : TypeId) (m k x : AV) : Option Res :=
 match P.underlying t with
 | some (.map kt _) => match P.underlying kt with
  | some .string => match m with
   | .mp l => match look l with
    | .map es => match k with
     | .sc (.string s) => match en with
      | .look none => bif dataB 6 x then some ⟨.sc undef, [(l, .map (es ++ [(s, x)]))], [(l, true)], [findM s es = none]⟩ else none
      | _ => none
     | _ => none
    | _ => none
   | _ => none
  | _ => none
 | _ => none
theorem ok_mapUpdate (hst : StoreOk M μ st w) (hρ : ∀ x, RepV M μ (ρ x) (ρc x)) {t : TypeId} {m k x : Operand} (ho : o.op = .mapUpdate t m k x) {res : Res}
  (h : mapUpdateA P (getO st) en t (ρ m) (ρ k) (ρ x) = some res) (hob : AllP res.ob) : OpOk M μ st w res ((execOp ρc o).run P w) := by
 have hm := hρ m
 have hk := hρ k
 have hx := hρ x
 unfold mapUpdateA at h
 split at h
 ·rename_i kt et hu
  split at h
  ·rename_i hku
   split at h
   ·rename_i l em
    split at h
    ·rename_i es hl
     split at h
     ·rename_i s ek
      split at h
      ·cases hd : dataB 6 (ρ x) with
       | false => rw [hd] at h; cases h
       | true =>
        rw [hd] at h
        cases h
        simp only [AllP, and_true] at hob
        rw [em] at hm
        rw [ek] at hk
        obtain ⟨b, ms, kk, hmv, h2, h3, h4, h5, h6, h7⟩ := obj_map hst hl hm
        have hf : Instr.findNow .string (.string s) ms.toList 0 = some none := by
         rcases find_rep (M := M) s es ms.toList 0 (by simpa using h3) (fun j key a e => by obtain ⟨x, q1, q2, q3⟩ := h4 j key a e; exact ⟨x, by simpa using q1, q2, q3⟩) with ⟨_, q2⟩ | ⟨j, a, e, q1, _⟩
         ·exact q2
         ·rw [q1] at hob; cases hob
        have hg : (getObj b).run P w = .ok (.map ms kk) w := by simp [getObj, Sem.run, h2]
        have hfk : (Instr.findKey kt (.string s) ms.toList).run P w = .ok none w := by simp [Instr.findKey, run_underlying hku, hf]
        have hso : ∀ o', (setObj b o').run P w = .ok () { w with heap := w.heap.setIfInBounds b o' } := fun o' => by simp [setObj, Sem.run, h2]
        obtain ⟨u1, u2⟩ := hst.setMap (es' := es ++ [(s, ρ x)]) (ms' := ms.push { key := .string s, val := ρc x, born := kk }) (k' := kk + 1) h5 h6 h2 h7 (by simp [h3]) (fun j key a e => by
         by_cases hj : j < es.length
         ·rw [List.getElem?_append_left hj] at e
          obtain ⟨e', q1, q2, q3⟩ := h4 j key a e
          exact ⟨e', by rw [Array.getElem?_push, if_neg (by omega)]; exact q1, q2, q3⟩
         ·rw [List.getElem?_append_right (by omega)] at e
          have : j - es.length = 0 := by have := (List.getElem?_eq_some_iff.1 e).1; simp at this; omega
          rw [this] at e
          simp only [List.getElem?_cons_zero, Option.some.injEq, Prod.mk.injEq] at e
          obtain ⟨rfl, rfl⟩ := e
          exact ⟨_, by rw [Array.getElem?_push, if_pos (by omega)], rfl, hx.ofData 6 hd⟩)
        refine ⟨undef, _, M, μ, .inr ⟨?_, rfl⟩, u1, u2, .refl μ, .sc⟩
        simp only [execOp, ho, hmv, hk.scv]
        refine exec_u ?_
        simp only [Instr.mapUpdate, Sem.run_bind, run_underlying hu, Result.andThen_ok, hg, run_checkKey hku _ s w 9999, hfk, hso]
      ·cases h
     ·cases h
    ·cases h
   ·cases h
  ·cases h
 ·cases h
def clearA (P : Program) (look : Nat → AObj) (t : TypeId) (x : AV) : Option Res :=
 match P.underlying t with
 | some (.map ..) => match x with
  | .mp l => match look l with
   | .map _ => some ⟨.sc (.tuple #[]), [(l, .map [])], [(l, true)], []⟩
   | _ => none
  | _ => none
 | _ => none
theorem ok_clear (hst : StoreOk M μ st w) (hρ : ∀ x, RepV M μ (ρ x) (ρc x)) {t : TypeId} {x : Operand} (ho : o.op = .call { callee := .builtin .clear, args := #[x], argTypes := #[t] }) {res : Res}
  (h : clearA P (getO st) t (ρ x) = some res) : OpOk M μ st w res ((execOp ρc o).run P w) := by
 have hx := hρ x
 obtain ⟨cs, hex⟩ := exec_builtin (ρc := ρc) ho
 unfold clearA at h
 split at h
 ·rename_i kt et hu
  split at h
  ·rename_i l ex
   split at h
   ·rename_i es hl
    cases h
    rw [ex] at hx
    obtain ⟨b, ms, kk, hmv, h2, h3, h4, h5, h6, h7⟩ := obj_map hst hl hx
    obtain ⟨u1, u2⟩ := hst.setMap (es' := []) (ms' := #[]) (k' := kk) h5 h6 h2 h7 rfl (by simp)
    have hg : (getObj b).run P w = .ok (.map ms kk) w := by simp [getObj, Sem.run, h2]
    have hso : ∀ o', (setObj b o').run P w = .ok () { w with heap := w.heap.setIfInBounds b o' } := fun o' => by simp [setObj, Sem.run, h2]
    refine ⟨.tuple #[], _, M, μ, .inl ?_, u1, u2, .refl μ, .sc⟩
    rw [hex]
    simp only [builtin]
    refine exec_v ?_
    have : #[x].map ρc = #[.map (some b)] := by simp [hmv]
    rw [this]
    simp [Builtin.clear_, run_underlying hu, hg, hso]
   ·cases h
  ·cases h
 ·cases h
end
end Go.Ae
namespace Go.Ae
def unN : List (List AV) → Option (List Int)
 | [] => some []
 | r :: rs => match r with
  | [.sc (.int .u8 n)] => match unN rs with
   | some l => some (n :: l)
   | none => none
  | _ => none
def textA (P : Program) (look : Nat → AObj) (s d : TypeId) (x : AV) : Option Res :=
 match P.underlying s, P.underlying d with
 | some (.slice e), some .string => match P.underlying e with
  | some (.int .u8) => match x with
   | .sc _ => none
   | x => match rowsA look 1 x with
    | some (rows, ac) => match unN rows with
     | some ns => some ⟨.sc (.string ⟨(ns.map fun n => UInt8.ofNat n.toNat).toArray⟩), [], ac, []⟩
     | none => none
    | none => none
  | _ => none
 | _, _ => none
def convertB (P : Program) (look : Nat → AObj) (s d : TypeId) (x : AV) : Option Res :=
 match textA P look s d x with
 | some r => some r
 | none => convertA P s d x
theorem unN_spec : ∀ {rows : List (List AV)} {ns : List Int}, unN rows = some ns → rows = ns.map fun n => [AV.sc (.int .u8 n)]
 | [], ns, h => by simp only [unN, Option.some.injEq] at h; subst h; rfl
 | r :: rs, ns, h => by
  simp only [unN] at h
  split at h
  ·rename_i n
   split at h
   ·rename_i l hl
    cases h
    rw [unN_spec hl]; rfl
   ·cases h
  ·cases h
theorem foldl_push_ns : ∀ (l : List Int) (r : ByteArray), l.foldl (fun r n => r.push (UInt8.ofNat n.toNat)) r = ⟨r.data ++ (l.map fun n => UInt8.ofNat n.toNat).toArray⟩
 | [], r => by simp
 | b :: l, r => by
  simp only [List.map_cons, List.foldl_cons]
  rw [foldl_push_ns l]
  simp [ByteArray.push]
section
variable {P : Program} {M : Mem} {μ : List Bd} {st : List AObj} {w : World} {ρ : Operand → AV} {ρc : Operand → Value} {o : Oper} {en : Ent} {slot : Nat}
theorem ok_text (hst : StoreOk M μ st w) (hρ : ∀ x, RepV M μ (ρ x) (ρc x)) {src dst : TypeId} {x : Operand} (ho : o.op = .convert src dst x) {res : Res}
  (h : textA P (getO st) src dst (ρ x) = some res) : OpOk M μ st w res ((execOp ρc o).run P w) := by
 have hx := hρ x
 unfold textA at h
 split at h
 ·rename_i e hs hd
  split at h
  ·rename_i he
   split at h
   ·cases h
   ·rename_i x0 hnsc
    split at h
    ·rename_i rows ac hrows
     split at h
     ·rename_i ns hns
      cases h
      obtain ⟨arr, h1, h2, h3, h4, h5⟩ := rowsA_spec (P := P) hst (Nat.le_refl 1) hrows hx
      have hsl : ∃ A k c, ρc x = .slice A k c := by
       generalize ρ x = a at hrows hx hnsc
       generalize ρc x = v at hx
       cases a with
       | nil => cases hx; exact ⟨_, _, _, rfl⟩
       | sl sz xs f => cases hx <;> exact ⟨_, _, _, rfl⟩
       | la l g =>
        simp only [rowsA] at hrows
        split at hrows
        ·rename_i c sz rows' hl
         cases hb : (Nat.beq g c && Nat.beq sz 1) with
         | false => rw [hb] at hrows; cases hrows
         | true =>
          simp only [Bool.and_eq_true] at hb
          obtain ⟨bd, e1, e2, e3, e4, e5, e6, h7⟩ := hx.laCur hst hl hb.1
          rcases h7 with ⟨_, _, _, A, hv⟩ | ⟨b, cc, ty, k1, hv, _⟩
          ·exact ⟨_, _, _, hv⟩
          ·exact ⟨_, _, _, hv⟩
        ·cases hrows
       | sc u => exact absurd rfl (hnsc u)
       | _ => simp [rowsA] at hrows
      obtain ⟨A, k, c, hv⟩ := hsl
      rw [hv] at h1 h2
      have hk : k = rows.length := by
       have := h1 w
       simp [Builtin.lenOf] at this
       exact this
      subst hk
      have harr : arr = (ns.map (Value.int .u8)).toArray := by
       have hr := unN_spec hns
       have hlen : rows.length = ns.length := by rw [hr]; simp
       apply Array.ext
       ·rw [h3, hlen]; simp
       ·intro i hi1 hi2
        have hi : i < ns.length := by simpa using hi2
        have e1 : rows[i]? = some [AV.sc (.int .u8 ns[i])] := by rw [hr, List.getElem?_map, List.getElem?_eq_getElem hi]; rfl
        obtain ⟨v, g1, _, g2⟩ := h4.2 i _ 0 _ e1 rfl
        have := g2.scv
        subst this
        rw [Nat.mul_one, Nat.add_zero, Array.getElem?_eq_getElem hi1] at g1
        simpa using g1
      refine OpOk.val hst (v := .string ⟨(ns.map fun n => UInt8.ofNat n.toNat).toArray⟩) ?_ .sc
      simp only [execOp, ho, hv]
      refine exec_v ?_
      rw [run_convert_bytes_string w src dst e A rows.length c hs he hd]
      cases A with
      | none =>
       have h2' := h2 w.drawn
       simp [Builtin.firstCells] at h2'
       have hz : ns = [] := by
        have := congrArg Array.size harr
        have h0 : arr.size = 0 := by first | (rw [h2']; rfl) | (rw [← h2']; rfl)
        rw [h0] at this
        simp at this
        exact List.eq_nil_of_length_eq_zero (by first | exact this | exact this.symm | simp [this])
       subst hz
       simp [Conv.bytesToString]
       rfl
      | some a =>
       have h2' := h2 w.drawn
       simp only [Builtin.firstCells, Nat.mul_one] at h2'
       rw [run_bytesToString w a rows.length c ns (by rw [← harr]; exact h2'), foldl_push_ns]
       have he0 : ByteArray.empty.data = #[] := rfl
       rw [he0]
       simp
     ·cases h
    ·cases h
  ·cases h
 ·cases h
theorem ok_convertB (hst : StoreOk M μ st w) (hρ : ∀ x, RepV M μ (ρ x) (ρc x)) {src dst : TypeId} {x : Operand} (ho : o.op = .convert src dst x) {res : Res}
  (h : convertB P (getO st) src dst (ρ x) = some res) : OpOk M μ st w res ((execOp ρc o).run P w) := by
 unfold convertB at h
 split at h
 ·rename_i r hr
  cases h
  exact ok_text hst hρ ho hr
 ·exact ok_convert hst hρ ho h
end
def core (P : Program) (slot : Nat) (ρ : Operand → AV) (look : Nat → AObj) (en : Ent) (o : Oper) : Option Res :=
 match o.op with
 | .move x => some ⟨ρ x, [], [], []⟩
 | .assign x => some ⟨ρ x, [], [], []⟩
 | .pick c a b => pickA (ρ c) (ρ a) (ρ b)
 | .alloc t => allocA P slot t
 | .box _ x => boxA slot (ρ x)
 | .build t ps => buildA P t (partsA ρ ps)
 | .buildSlice t n ps => buildSliceA P slot en t n (partsA ρ ps)
 | .load t x => loadA P look en t (ρ x)
 | .store t p x => storeA P look en t (ρ p) (ρ x)
 | .nilCheck x => nilCheckA look (ρ x)
 | .binOp op t x y _ => binOpB P op t x y ρ
 | .unOp op _ x => unOpA op (ρ x)
 | .convert s d x => convertB P look s d (ρ x)
 | .fieldAddr s x f => fieldAddrA P look s (ρ x) f
 | .field s x f => fieldA P s (ρ x) f
 | .indexAddr t x i => indexAddrA P look en t (ρ x) (ρ i)
 | .index t x i => indexA P en t (ρ x) (ρ i)
 | .extract x i => extractA (ρ x) i
 | .makeInterface t x => ifcA P t (ρ x)
 | .makeFunc fn first caps => fnA fn first (caps.toList.map ρ)
 | .slice t x lo hi mx => sliceA P look t (ρ x) (bndA ρ lo) (bndA ρ hi) (bndA ρ mx)
 | .makeSlice t l c => makeSliceA P slot en t (ρ l) (ρ c)
 | .makeMap _ r => match r with
  | none => makeMapA slot
  | some _ => none
 | .lookup t m k ok => lookupA P look en t (ρ m) (ρ k) ok
 | .mapUpdate t m k x => mapUpdateA P look en t (ρ m) (ρ k) (ρ x)
 | .call c => match c.callee with
  | .builtin b => match b with
   | .len => match c.args.toList with
    | [x] => match c.argTypes.toList with
     | [t] => lenA P look t (ρ x)
     | _ => none
    | _ => none
   | .append => match c.args.toList with
    | [x, y] => match c.argTypes.toList with
     | [t, t2] => appendA P slot look en t t2 (ρ x) (ρ y)
     | _ => none
    | _ => none
   | .max => match c.args.toList with
    | [x, y] => maxA (ρ x) (ρ y)
    | _ => none
   | .min => match c.args.toList with
    | [x, y] => minA (ρ x) (ρ y)
    | _ => none
   | .clear => match c.args.toList with
    | [x] => match c.argTypes.toList with
     | [t] => clearA P look t (ρ x)
     | _ => none
    | _ => none
   | _ => none
  | _ => none
 | _ => none
theorem toList_one {α : Type} {a : Array α} {x : α} (h : a.toList = [x]) : a = #[x] := by
 have : a = a.toList.toArray := by simp
 rw [this, h]
theorem toList_two {α : Type} {a : Array α} {x y : α} (h : a.toList = [x, y]) : a = #[x, y] := by
 have : a = a.toList.toArray := by simp
 rw [this, h]
section
variable {P : Program} {M : Mem} {μ : List Bd} {st : List AObj} {w : World} {ρ : Operand → AV} {ρc : Operand → Value} {o : Oper} {en : Ent} {slot : Nat}
def allocB (o : Oper) : Bool :=
 match o.op with
 | .alloc _ => true
 | .box .. => true
 | .buildSlice .. => true
 | .makeSlice .. => true
 | .makeMap .. => true
 | .call c => match c.callee with
  | .builtin b => match b with
   | .append => true
   | _ => false
  | _ => false
 | _ => false
theorem core_ok (hst : StoreOk M μ st w) (hs0 : allocB o = true → st[slot]? = some .gone) (hρ : ∀ x, RepV M μ (ρ x) (ρc x)) {res : Res}
  (h : core P slot ρ (getO st) en o = some res) (hob : AllP res.ob) : OpOk M μ st w res ((execOp ρc o).run P w) := by
 unfold core at h
 split at h
 ·rename_i x ho; cases h; exact ok_move hst hρ ho
 ·rename_i x ho; cases h; exact ok_assign hst hρ ho
 ·rename_i ho; exact ok_pick hst hρ ho h
 ·rename_i ho; exact ok_alloc hst (hs0 (by simp [allocB, ho])) ho h
 ·rename_i ho; exact ok_box hst (hs0 (by simp [allocB, ho])) hρ ho h
 ·rename_i ho; exact ok_build hst hρ ho h
 ·rename_i ho; exact ok_buildSlice hst (hs0 (by simp [allocB, ho])) hρ ho h
 ·rename_i ho; exact ok_load hst hρ ho h hob
 ·rename_i ho; exact ok_store hst hρ ho h hob
 ·rename_i ho; exact ok_nilCheck hst hρ ho h
 ·rename_i ho; exact ok_binOpB hst hρ ho h hob
 ·rename_i ho; exact ok_unOp hst hρ ho h
 ·rename_i ho; exact ok_convertB hst hρ ho h
 ·rename_i ho; exact ok_fieldAddr hst hρ ho h
 ·rename_i ho; exact ok_field hst hρ ho h
 ·rename_i ho; exact ok_indexAddr hst hρ ho h hob
 ·rename_i ho; exact ok_index hst hρ ho h hob
 ·rename_i ho; exact ok_extract hst hρ ho h
 ·rename_i ho; exact ok_makeInterface hst hρ ho h
 ·rename_i ho; exact ok_makeFunc hst hρ ho h
 ·rename_i ho; exact ok_slice hst hρ ho h hob
 ·rename_i ho; exact ok_makeSlice hst (hs0 (by simp [allocB, ho])) hρ ho h hob
 ·rename_i ho
  split at h
  ·exact ok_makeMap hst (hs0 (by simp [allocB, ho])) ho h
  ·cases h
 ·rename_i ho; exact ok_lookup hst hρ ho h hob
 ·rename_i ho; exact ok_mapUpdate hst hρ ho h hob
 ·rename_i c ho
  obtain ⟨callee, args, argTypes⟩ := c
  simp only at h
  split at h
  ·split at h
   ·split at h
    ·rename_i x hx
     split at h
     ·rename_i t ht
      have := toList_one hx; subst this
      have := toList_one ht; subst this
      exact ok_len hst hρ ho h
     ·cases h
    ·cases h
   ·split at h
    ·rename_i x y hx
     split at h
     ·rename_i t t2 ht
      have := toList_two hx; subst this
      have := toList_two ht; subst this
      exact ok_append hst (hs0 (by simp [allocB, ho])) hρ ho h hob
     ·cases h
    ·cases h
   ·split at h
    ·rename_i x y hx
     have := toList_two hx; subst this
     exact ok_max hst hρ ho h
    ·cases h
   ·split at h
    ·rename_i x y hx
     have := toList_two hx; subst this
     exact ok_min hst hρ ho h
    ·cases h
   ·split at h
    ·rename_i x hx
     split at h
     ·rename_i t ht
      have := toList_one hx; subst this
      have := toList_one ht; subst this
      exact ok_clear hst hρ ho h
     ·cases h
    ·cases h
   ·cases h
  ·cases h
 ·cases h
theorem parts_congr {ρ ρ' : Operand → AV} {ps : Array (Nat × Operand)} (h : ∀ x ∈ (ps.toList.map (·.2)).toArray, ρ' x = ρ x) : partsA ρ' ps = partsA ρ ps := by
 simp only [partsA]
 apply List.map_congr_left
 intro p hp
 rw [h p.2 (by simpa using ⟨p.1, by simpa using hp⟩)]
def SameAt (ac : List (Nat × Bool)) (look look' : Nat → AObj) : Prop := ∀ p ∈ ac, look' p.1 = look p.1
theorem bnd_congr {ρ ρ' : Operand → AV} {x : Option Operand} (h : ∀ y, x = some y → ρ' y = ρ y) : bndA ρ' x = bndA ρ x := by
 cases x with
 | none => rfl
 | some y => simp [bndA, h y rfl]
theorem loadA_loc {look look' : Nat → AObj} {t : TypeId} {p : AV} {res : Res} (h : loadA P look en t p = some res) (hl : SameAt res.ac look look') : loadA P look' en t p = some res := by
 cases p with
 | lp l off =>
  have key : (l, false) ∈ res.ac := by
   simp only [loadA] at h
   split at h
   ·obtain ⟨r, _, rfl⟩ := Option.map_eq_some_iff.1 h; simp
   ·cases h
  have e : look' l = look l := hl _ key
  simp only [loadA] at h ⊢; rw [e]; exact h
 | le l g i off =>
  have key : (l, false) ∈ res.ac := by
   simp only [loadA] at h
   split at h
   ·split at h
    ·rename_i c _ rows _ _ k cs
     cases hg : Nat.beq g c with
     | false => rw [hg] at h; cases h
     | true =>
      rw [hg] at h
      obtain ⟨r, _, rfl⟩ := Option.map_eq_some_iff.1 h; simp
    ·cases h
   ·cases h
  have e : look' l = look l := hl _ key
  simp only [loadA] at h ⊢; rw [e]; exact h
 | ip cs off => cases cs <;> exact h
 | _ => exact h
theorem storeA_loc {look look' : Nat → AObj} {t : TypeId} {p x : AV} {res : Res} (h : storeA P look en t p x = some res) (hl : SameAt res.ac look look') : storeA P look' en t p x = some res := by
 unfold storeA at h ⊢
 split at h
 ·rename_i n vs hn hv
  cases p with
  | lp l off =>
   have key : (l, true) ∈ res.ac := by
    simp only at h
    split at h
    ·generalize (Nat.beq vs.length n && _ && _) = b at h
     cases b <;> cases h
     simp
    ·cases h
   have e : look' l = look l := hl _ key
   simp only at h ⊢; rw [e]; exact h
  | le l g i off =>
   have key : (l, true) ∈ res.ac := by
    simp only at h
    split at h
    ·split at h
     ·generalize (Nat.beq g _ && _ && _ && _) = b at h
      cases b <;> cases h
      simp
     ·cases h
    ·cases h
   have e : look' l = look l := hl _ key
   simp only at h ⊢; rw [e]; exact h
  | _ => cases h
 ·cases h
theorem nilCheckA_loc {look look' : Nat → AObj} {x : AV} {res : Res} (h : nilCheckA look x = some res) (hl : SameAt res.ac look look') : nilCheckA look' x = some res := by
 cases x with
 | le l g i off =>
  have key : (l, false) ∈ res.ac := by
   simp only [nilCheckA] at h
   split at h
   ·generalize Nat.beq g _ = b at h
    cases b <;> cases h
    simp
   ·cases h
  have e : look' l = look l := hl _ key
  simp only [nilCheckA] at h ⊢; rw [e]; exact h
 | _ => exact h
theorem fieldAddrA_loc {look look' : Nat → AObj} {s : TypeId} {x : AV} {f : Nat} {res : Res} (h : fieldAddrA P look s x f = some res) (hl : SameAt res.ac look look') : fieldAddrA P look' s x f = some res := by
 unfold fieldAddrA at h ⊢
 split at h
 ·cases x with
  | le l g i off =>
   have key : (l, false) ∈ res.ac := by
    simp only at h
    split at h
    ·generalize Nat.beq g _ = b at h
     cases b <;> cases h
     simp
    ·cases h
   have e : look' l = look l := hl _ key
   simp only at h ⊢; rw [e]; exact h
  | ip cs off => cases cs <;> exact h
  | _ => exact h
 ·cases h
theorem indexAddrA_loc {look look' : Nat → AObj} {t : TypeId} {x i : AV} {res : Res} (h : indexAddrA P look en t x i = some res) (hl : SameAt res.ac look look') : indexAddrA P look' en t x i = some res := by
 unfold indexAddrA at h ⊢
 split at h
 ·split at h
  ·cases x with
   | la l g =>
    have key : (l, false) ∈ res.ac := by
     simp only at h
     split at h
     ·split at h
      ·generalize (Nat.beq g _ && _) = b at h
       cases b <;> cases h
       simp
      ·cases h
     ·cases h
    have e : look' l = look l := hl _ key
    simp only at h ⊢; rw [e]; exact h
   | _ => exact h
  ·cases h
 ·cases h
theorem sliceA_loc {look look' : Nat → AObj} {t : TypeId} {x : AV} {lo hi mx : Option (Option Int)} {res : Res} (h : sliceA P look t x lo hi mx = some res) (hl : SameAt res.ac look look') : sliceA P look' t x lo hi mx = some res := by
 unfold sliceA at h ⊢
 split at h
 ·split at h
  ·exact h
  ·split at h
   ·cases x with
    | la l g =>
     have key : (l, true) ∈ res.ac := by
      simp only at h
      split at h
      ·split at h
       ·generalize (Nat.beq g _ && _) = b at h
        cases b <;> cases h
        simp
       ·cases h
      ·cases h
     have e : look' l = look l := hl _ key
     simp only at h ⊢; rw [e]; exact h
    | _ => exact h
   ·cases h
  ·cases h
 ·cases h
theorem lenA_loc {look look' : Nat → AObj} {t : TypeId} {x : AV} {res : Res} (h : lenA P look t x = some res) (hl : SameAt res.ac look look') : lenA P look' t x = some res := by
 unfold lenA at h ⊢
 split at h
 ·exact h
 ·cases x with
  | la l g =>
   have key : (l, false) ∈ res.ac := by
    simp only at h
    split at h
    ·generalize Nat.beq g _ = b at h
     cases b <;> cases h
     simp
    ·cases h
   have e : look' l = look l := hl _ key
   simp only at h ⊢; rw [e]; exact h
  | _ => exact h
 ·cases h
theorem rowsA_loc {look look' : Nat → AObj} {n : Nat} {y : AV} {ys : List (List AV)} {ac : List (Nat × Bool)} (h : rowsA look n y = some (ys, ac)) (hl : SameAt ac look look') : rowsA look' n y = some (ys, ac) := by
 cases y with
 | la l g =>
  have key : (l, false) ∈ ac := by
   simp only [rowsA] at h
   split at h
   ·generalize (Nat.beq g _ && _) = b at h
    cases b <;> cases h
    simp
   ·cases h
  have e : look' l = look l := hl _ key
  simp only [rowsA] at h ⊢; rw [e]; exact h
 | _ => exact h
theorem convertB_loc {look look' : Nat → AObj} {src dst : TypeId} {x : AV} {res : Res} (h : convertB P look src dst x = some res) (hl : SameAt res.ac look look') : convertB P look' src dst x = some res := by
 unfold convertB at h ⊢
 cases ht : textA P look src dst x with
 | none =>
  rw [ht] at h
  have ht' : textA P look' src dst x = none ∨ ∃ r, textA P look' src dst x = some r := by cases textA P look' src dst x <;> simp
  unfold convertA at h
  simp only at h
  unfold textA at ht ⊢
  split at h
  ·rename_i hs hd
   rw [hs, hd]
   simp only
   unfold convertA
   rw [hs, hd]
   exact h
  ·rename_i hs hd
   rw [hs, hd]
   simp only
   unfold convertA
   rw [hs, hd]
   exact h
  ·rename_i hs hd
   rw [hs, hd]
   simp only
   unfold convertA
   rw [hs, hd]
   exact h
  ·cases h
 | some r =>
  rw [ht] at h
  cases h
  have : textA P look' src dst x = some res := by
   unfold textA at ht ⊢
   split at ht
   ·split at ht
    ·split at ht
     ·cases ht
     ·split at ht
      ·rename_i rows ac hr
       split at ht
       ·rename_i ns hns
        cases ht
        rw [rowsA_loc hr hl]
        simp only [hns]
       ·cases ht
      ·cases ht
    ·cases ht
   ·cases ht
  rw [this]
theorem appendA_loc {look look' : Nat → AObj} {t t2 : TypeId} {x y : AV} {res : Res} (h : appendA P slot look en t t2 x y = some res) (hl : SameAt res.ac look look') : appendA P slot look' en t t2 x y = some res := by
 unfold appendA at h ⊢
 split at h
 ·split at h
  ·split at h
   ·rename_i i _ _ z _
    generalize (Nat.ble 1 i.size && Nat.ble 1 i.bytes && Nat.beq z.cells.size i.size) = bb at h ⊢
    cases bb with
    | false => cases h
    | true =>
     simp only [cond_true] at h ⊢
     split at h
     ·rename_i ys ac hr
      have hsub : ∀ p ∈ ac, p ∈ res.ac := by
       split at h
       ·split at h <;> cases h <;> simp_all
       ·split at h
        ·generalize Nat.beq _ _ = b at h
         cases b with
         | false => cases h
         | true =>
          simp only [cond_true] at h
          split at h
          ·split at h
           ·cases h; simp_all
           ·split at h
            ·cases h
            ·cases h; simp_all
          ·cases h; simp_all
        ·cases h
       ·split at h
        ·generalize (Nat.beq _ _ && _) = b at h
         cases b <;> cases h
         simp_all
        ·cases h
       ·cases h
      rw [rowsA_loc hr (fun p hp => hl p (hsub p hp))]
      simp only
      cases x with
      | la l g =>
       have key : (l, true) ∈ res.ac := by
        simp only at h
        split at h
        ·generalize (Nat.beq _ _ && _) = b at h
         cases b <;> cases h
         simp
        ·cases h
       have e : look' l = look l := hl _ key
       simp only at h ⊢; rw [e]; exact h
      | _ => exact h
     ·cases h
   ·cases h
  ·cases h
 ·cases h
theorem lookupA_loc {look look' : Nat → AObj} {t : TypeId} {m k : AV} {ok : Bool} {res : Res} (h : lookupA P look en t m k ok = some res) (hl : SameAt res.ac look look') : lookupA P look' en t m k ok = some res := by
 unfold lookupA at h ⊢
 split at h
 ·split at h
  ·split at h
   ·split at h
    ·cases m with
     | mp l =>
      have key : (l, false) ∈ res.ac := by
       simp only at h
       split at h
       ·split at h
        ·split at h
         ·cases h; simp
         ·cases h
        ·cases h
       ·cases h
      have e : look' l = look l := hl _ key
      simp only at h ⊢; rw [e]; exact h
     | _ => exact h
    ·cases h
   ·cases h
  ·cases h
 ·cases h
theorem mapUpdateA_loc {look look' : Nat → AObj} {t : TypeId} {m k x : AV} {res : Res} (h : mapUpdateA P look en t m k x = some res) (hl : SameAt res.ac look look') : mapUpdateA P look' en t m k x = some res := by
 unfold mapUpdateA at h ⊢
 split at h
 ·split at h
  ·cases m with
   | mp l =>
    have key : (l, true) ∈ res.ac := by
     simp only at h
     split at h
     ·split at h
      ·split at h
       ·generalize dataB 6 x = b at h
        cases b <;> cases h
        simp
       ·cases h
      ·cases h
     ·cases h
    have e : look' l = look l := hl _ key
    simp only at h ⊢; rw [e]; exact h
   | _ => exact h
  ·cases h
 ·cases h
theorem clearA_loc {look look' : Nat → AObj} {t : TypeId} {x : AV} {res : Res} (h : clearA P look t x = some res) (hl : SameAt res.ac look look') : clearA P look' t x = some res := by
 unfold clearA at h ⊢
 split at h
 ·cases x with
  | mp l =>
   have key : (l, true) ∈ res.ac := by
    simp only at h
    split at h
    ·cases h; simp
    ·cases h
   have e : look' l = look l := hl _ key
   simp only at h ⊢; rw [e]; exact h
  | _ => exact h
 ·cases h
theorem core_loc {ρ' : Operand → AV} {look look' : Nat → AObj} {res : Res} (h : core P slot ρ look en o = some res) (hρ : ∀ x ∈ o.op.operands, ρ' x = ρ x) (hl : SameAt res.ac look look') :
  core P slot ρ' look' en o = some res := by
 obtain ⟨dst, op, ty, pos, after, guard⟩ := o
 simp only at hρ
 unfold core at h ⊢
 simp only at h ⊢
 cases op <;> simp only [Op.operands] at hρ <;> simp only at h ⊢
 case move x => rw [hρ x (by simp)]; exact h
 case assign x => rw [hρ x (by simp)]; exact h
 case pick c a b => rw [hρ c (by simp), hρ a (by simp), hρ b (by simp)]; exact h
 case alloc t => exact h
 case box t x => rw [hρ x (by simp)]; exact h
 case build t ps => rw [parts_congr hρ]; exact h
 case buildSlice t n ps => rw [parts_congr hρ]; exact h
 case load t x => rw [hρ x (by simp)]; exact loadA_loc h hl
 case store t p x => rw [hρ p (by simp), hρ x (by simp)]; exact storeA_loc h hl
 case nilCheck x => rw [hρ x (by simp)]; exact nilCheckA_loc h hl
 case binOp op t x y yt => unfold binOpB at h ⊢; rw [hρ x (by simp), hρ y (by simp)]; exact h
 case unOp op t x => rw [hρ x (by simp)]; exact h
 case convert s d x => rw [hρ x (by simp)]; exact convertB_loc h hl
 case fieldAddr s x f => rw [hρ x (by simp)]; exact fieldAddrA_loc h hl
 case field s x f => rw [hρ x (by simp)]; exact h
 case indexAddr t x i => rw [hρ x (by simp), hρ i (by simp)]; exact indexAddrA_loc h hl
 case index t x i => rw [hρ x (by simp), hρ i (by simp)]; exact h
 case extract x i => rw [hρ x (by simp)]; exact h
 case makeInterface t x => rw [hρ x (by simp)]; exact h
 case makeFunc fn first caps =>
  have : caps.toList.map ρ' = caps.toList.map ρ := List.map_congr_left fun x hx => hρ x (by simp; exact .inr (by simpa using hx))
  rw [this]; exact h
 case slice t x lo hi mx =>
  rw [hρ x (by simp), bnd_congr (x := lo) (fun y e => hρ y (by simp [e])), bnd_congr (x := hi) (fun y e => hρ y (by simp [e])), bnd_congr (x := mx) (fun y e => hρ y (by simp [e]))]
  exact sliceA_loc h hl
 case makeSlice t l c => rw [hρ l (by simp), hρ c (by simp)]; exact h
 case makeMap t r => exact h
 case lookup t m k ok => rw [hρ m (by simp), hρ k (by simp)]; exact lookupA_loc h hl
 case mapUpdate t m k x => rw [hρ m (by simp), hρ k (by simp), hρ x (by simp)]; exact mapUpdateA_loc h hl
 case call c =>
  obtain ⟨callee, args, argTypes⟩ := c
  simp only [Call.operands] at hρ
  simp only at h ⊢
  split at h
  ·split at h
   ·split at h
    ·rename_i x hx
     have := toList_one hx; subst this
     split at h
     ·rw [hρ x (by simp)]; exact lenA_loc h hl
     ·cases h
    ·cases h
   ·split at h
    ·rename_i x y hx
     have := toList_two hx; subst this
     split at h
     ·rw [hρ x (by simp), hρ y (by simp)]; exact appendA_loc h hl
     ·cases h
    ·cases h
   ·split at h
    ·rename_i x y hx
     have := toList_two hx; subst this
     rw [hρ x (by simp), hρ y (by simp)]; exact h
    ·cases h
   ·split at h
    ·rename_i x y hx
     have := toList_two hx; subst this
     rw [hρ x (by simp), hρ y (by simp)]; exact h
    ·cases h
   ·split at h
    ·rename_i x hx
     have := toList_one hx; subst this
     split at h
     ·rw [hρ x (by simp)]; exact clearA_loc h hl
     ·cases h
    ·cases h
   ·cases h
  ·cases h
 all_goals cases h
end
end Go.Ae
namespace Go.Ae
def SoundCall (P : Program) (f : FuncId) (args : List AV) (σ : List AObj) (r : AV) (σ' : List AObj) : Prop :=
 (∃ fn, P.funcs[f]? = some fn ∧ fn.body.isNone = false ∧ (fn.name == "runtime.NumGoroutine") = false) ∧ σ.length ≤ σ'.length ∧
 ∀ M μ w (vs : List Value), StoreOk M μ σ w → vs.length = args.length → (∀ (j : Nat) (a : AV) (v : Value), args[j]? = some a → vs[j]? = some v → RepV M μ a v) →
  Calls P f vs.toArray w fun e w' => ∃ v M' μ', e = .returned v ∧ StoreOk M' μ' σ' w' ∧ Stp M μ σ w M' μ' σ' w' ∧ EvoTo σ.length μ μ' ∧ RepV M' μ' r v
abbrev Kinds := List (Nat × List (Option Nat))
def kindsOf (K : Kinds) (t : Nat) : List (Option Nat) :=
 match K with
 | [] => []
 | (k, l) :: r => bif Nat.beq k t then l else kindsOf r t
def tidyArgs (K : Kinds) : List TypeId → List AV → List AV
 | [], as => as
 | _ :: _, [] => []
 | t :: ts, a :: as => tidyV (kindsOf K t) a :: tidyArgs K ts as
theorem tidyArgs_rep {M : Mem} {μ : List Bd} (K : Kinds) : ∀ (ts : List TypeId) (as : List AV) (vs : List Value),
  (∀ (j : Nat) (a : AV) (v : Value), as[j]? = some a → vs[j]? = some v → RepV M μ a v) →
  ∀ (j : Nat) (a : AV) (v : Value), (tidyArgs K ts as)[j]? = some a → vs[j]? = some v → RepV M μ a v
 | [], _, _, h => h
 | _ :: _, [], _, _ => by simp [tidyArgs]
 | t :: ts, a :: as, vs, h => fun j x v h1 h2 => by
  cases j with
  | zero => simp [tidyArgs] at h1; subst h1; exact (h 0 a v rfl h2).tidy _
  | succ j =>
   cases vs with
   | nil => simp at h2
   | cons u us => exact tidyArgs_rep K ts as us (fun j a v e1 e2 => h (j + 1) a v (by simpa using e1) (by simpa using e2)) j x v (by simpa [tidyArgs] using h1) (by simpa using h2)
theorem tidyArgs_length (K : Kinds) : ∀ (ts : List TypeId) (as : List AV), (tidyArgs K ts as).length = as.length
 | [], _ => rfl
 | _ :: _, [] => rfl
 | t :: ts, a :: as => by simp [tidyArgs, tidyArgs_length K ts as]
def methodOf (P : Program) (t : TypeId) (name : String) : Option FuncId :=
 match P.underlying t with
 | some (.pointer _) => match P.info? t with
  | some i => match i.methods.find? (·.name == name) with
   | some m => bif m.path.isEmpty then (match m.func with
    | some (g, true) => some g
    | _ => none) else none
   | none => none
  | none => none
 | _ => none
theorem run_methodOf {P : Program} {t : TypeId} {name : String} {g : FuncId} (h : methodOf P t name = some g) (n : Nat) (v : Value) (w : World) : (method (n + 1) t v name).run P w = .ok (g, v) w := by
 unfold methodOf at h
 split at h
 ·rename_i e hu
  split at h
  ·rename_i i hi
   split at h
   ·rename_i m hm
    cases hp : m.path.isEmpty with
    | false => rw [hp] at h; cases h
    | true =>
     rw [hp] at h
     simp only [cond_true] at h
     split at h
     ·rename_i g' hf
      cases h
      have hpe : m.path = #[] := by simpa using hp
      simp only [method, Sem.run_bind, run_typeInfo w hi, Result.andThen_ok, hm, hpe, follow, Sem.run_pure, hf]
      simp [receiverAt, run_underlying hu, Place.get]
     ·cases h
   ·cases h
  ·cases h
 ·cases h
def promo (P : Program) (t : TypeId) (name : String) : Option FuncId :=
 match P.info? t with
 | some i => match i.methods.find? (·.name == name) with
  | some m => match m.path.toList with
   | [s] => match m.func with
    | some (g, true) => bif s.deref then (match P.underlying s.struct with
     | some (.struct fields) => match fields[s.index]? with
      | some f => match P.underlying f.type with
       | some (.struct _) => match P.info? f.type with
        | some fi => bif Nat.beq f.offset 0 && !(Nat.beq fi.size 0) then some g else none
        | none => none
       | _ => none
      | none => none
     | _ => none) else none
    | _ => none
   | _ => none
  | none => none
 | none => none
theorem run_promo {P : Program} {t : TypeId} {name : String} {g : FuncId} (h : promo P t name = some g) (n : Nat) (a : Addr) (w : World) : (method (n + 1) t (.pointer (some a)) name).run P w = .ok (g, .pointer (some a)) w := by
 unfold promo at h
 split at h
 ·rename_i i hi
  split at h
  ·rename_i m hm
   split at h
   ·rename_i s hs
    split at h
    ·rename_i g' hf
     cases hd : s.deref with
     | false => rw [hd] at h; cases h
     | true =>
      rw [hd] at h
      simp only [cond_true] at h
      split at h
      ·rename_i fields hst
       split at h
       ·rename_i f hff
        split at h
        ·rename_i ff hu
         split at h
         ·rename_i fi hfi
          cases hb : (Nat.beq f.offset 0 && !(Nat.beq fi.size 0)) with
          | false => rw [hb] at h; cases h
          | true =>
           rw [hb] at h
           cases h
           simp only [Bool.and_eq_true, Bool.not_eq_true'] at hb
           have h0 : f.offset = 0 := Nat.eq_of_beq_eq_true hb.1
           have h1 : fi.size ≠ 0 := fun e => by rw [e] at hb; exact absurd hb.2 (by decide)
           have hpl : (fieldPlace a f).run P w = .ok a w := by
            simp only [Sem.run_bind, fieldPlace, run_sizeOf w hfi, Result.andThen_ok, h0]
            rw [if_neg h1]
            cases a
            simp [Addr.add]
           simp only [method, Sem.run_bind, run_typeInfo w hi, Result.andThen_ok, hm, hs, follow, run_underlying hst, hff, hd, if_true, Place.get, Sem.run_pure, asAddr, hpl, hf]
           simp [receiverAt, run_underlying hu, Sem.run_bind]
         ·cases h
        ·cases h
       ·cases h
      ·cases h
    ·cases h
   ·cases h
  ·cases h
 ·cases h
def targetA (P : Program) (ρ : Operand → AV) (c : Call) : Option (FuncId × List AV) :=
 match c.callee with
 | .value f => match ρ f with
  | .fn g caps => some (g, c.args.toList.map ρ ++ caps)
  | _ => none
 | .invoke r name => match ρ r with
  | .ifc t x => match methodOf P t name with
   | some g => some (g, x :: c.args.toList.map ρ)
   | none => match x with
    | .lp l off => (promo P t name).map fun g => (g, .lp l off :: c.args.toList.map ρ)
    | _ => none
  | _ => none
 | .builtin _ => none
theorem map_rep {M : Mem} {μ : List Bd} {ρ : Operand → AV} {ρc : Operand → Value} (hρ : ∀ x, RepV M μ (ρ x) (ρc x)) (l : List Operand) :
  ∀ (j : Nat) (a : AV) (v : Value), (l.map ρ)[j]? = some a → (l.map ρc)[j]? = some v → RepV M μ a v := fun j a v e1 e2 => by
 rw [List.getElem?_map] at e1 e2
 obtain ⟨x, e3, rfl⟩ := Option.map_eq_some_iff.1 e1
 rw [e3] at e2
 cases e2
 exact hρ x
theorem targetA_ok {P : Program} {M : Mem} {μ : List Bd} {w : World} {ρ : Operand → AV} {ρc : Operand → Value} {o : Oper} {c : Call} (hρ : ∀ x, RepV M μ (ρ x) (ρc x)) (ho : o.op = .call c) {g : FuncId} {args : List AV}
  (h : targetA P ρ c = some (g, args)) (hg : ∃ fn, P.funcs[g]? = some fn ∧ fn.body.isNone = false ∧ (fn.name == "runtime.NumGoroutine") = false) :
  ∃ vs : List Value, vs.length = args.length ∧ (∀ (j : Nat) (a : AV) (v : Value), args[j]? = some a → vs[j]? = some v → RepV M μ a v) ∧ (execOp ρc o).run P w = .ok (.enter g vs.toArray) w := by
 obtain ⟨fn, hf, hb, hn⟩ := hg
 have hcall : ∀ (as : Array Value), (callFunc g as).run P w = .ok (.enter g as) w := fun as => by
  simp only [callFunc, Sem.run_bind, run_program, Result.andThen_ok, hf, hn, hb, Bool.false_eq_true, if_false, Sem.run_pure]
 unfold targetA at h
 split at h
 ·rename_i f hc
  split at h
  ·rename_i g' caps e
   cases h
   have hx := hρ f
   rw [e] at hx
   generalize hv : ρc f = v at hx
   cases hx with
   | @fn _ _ _ us hl hr =>
    refine ⟨c.args.toList.map ρc ++ us, by simp [hl], fun j a v e1 e2 => ?_, ?_⟩
    ·by_cases hj : j < c.args.toList.length
     ·rw [List.getElem?_append_left (by simpa using hj)] at e1 e2
      exact map_rep hρ c.args.toList j a v e1 e2
     ·rw [List.getElem?_append_right (by simp at hj; simpa using hj)] at e1 e2
      simp only [List.length_map] at e1 e2
      exact hr _ a v e1 e2
    ·simp only [execOp, ho, resolve, hc, hv, Deferred.ofValue]
     have : (#[] ++ c.args.map ρc) ++ us.toArray = (c.args.toList.map ρc ++ us).toArray := by apply Array.ext'; simp
     simp only [Sem.run_bind, Sem.run_pure, Result.andThen_ok, invoke]
     rw [hcall, this]
  ·cases h
 ·rename_i r name hc
  split at h
  ·rename_i t x e
   have key : ∀ (u : Value), RepV M μ x u → ρc r = .iface t u → args = x :: c.args.toList.map ρ → (∀ n, (method (n + 1) t u name).run P w = .ok (g, u) w) →
     ∃ vs : List Value, vs.length = args.length ∧ (∀ (j : Nat) (a : AV) (v : Value), args[j]? = some a → vs[j]? = some v → RepV M μ a v) ∧ (execOp ρc o).run P w = .ok (.enter g vs.toArray) w := fun u hu hv ha hm => by
    subst ha
    refine ⟨u :: c.args.toList.map ρc, by simp, fun j a v e1 e2 => ?_, ?_⟩
    ·cases j with
     | zero => simp at e1 e2; subst e1; subst e2; exact hu
     | succ j =>
      rw [List.getElem?_cons_succ] at e1 e2
      exact map_rep hρ c.args.toList j a v e1 e2
    ·simp only [execOp, ho, resolve, hc, hv]
     have h0 : (#[Value.iface t u] ++ c.args.map ρc)[0]? = some (.iface t u) := by rw [Array.getElem?_append_left (by simp)]; rfl
     have h1 : (#[Value.iface t u] ++ c.args.map ρc).extract 1 (#[Value.iface t u] ++ c.args.map ρc).size = c.args.map ρc := by
      apply Array.ext'; simp [List.take_of_length_le]
     have hfuel : P.types.size + Made.depth = (P.types.size + (Made.depth - 1)) + 1 := by
      have : 1 ≤ Made.depth := by decide
      omega
     have hargs : #[u] ++ c.args.map ρc = (u :: c.args.toList.map ρc).toArray := by apply Array.ext'; simp
     simp only [Sem.run_bind, Sem.run_pure, Result.andThen_ok, invoke, h0, h1, callMethod, run_program]
     rw [hfuel, hm]
     simp only [Result.andThen_ok]
     rw [hcall, hargs]
   have hx := hρ r
   rw [e] at hx
   generalize hv : ρc r = v at hx
   cases hx with
   | @ifc _ _ _ u hu =>
    split at h
    ·rename_i g' hm
     cases h
     exact key u hu hv rfl (fun n => run_methodOf hm n u w)
    ·split at h
     ·rename_i l off
      obtain ⟨g', hm, hgg⟩ := Option.map_eq_some_iff.1 h
      simp only [Prod.mk.injEq] at hgg
      obtain ⟨rfl, rfl⟩ := hgg
      cases hu with
      | lp hb => exact key _ (.lp hb) hv rfl (fun n => run_promo hm n _ w)
     ·cases h
  ·cases h
 ·cases h
end Go.Ae

/- The abstract executor, part 10: append and make. -/
import Derived.Test.YtpcnfjddleceiaaGreatAe9
namespace Go.Ae
section
variable {P : Program} {M : Mem} {μ : List Bd} {st : List AObj} {w : World} {ρ : Operand → AV} {ρc : Operand → Value} {o : Oper} {en : Ent} {slot : Nat}

/-- The model gives memory to a slice that grows to n elements. -/
def Fits (n k bytes : Nat) : Prop := ∀ cap, k ≤ cap → cap < n → Builtin.nextslicecap n cap * bytes ≤ 281474976710656

theorem growBy_le (n : Nat) : ∀ (r c : Nat), c ≤ n + (n + 768) / 4 → Builtin.growBy n r c ≤ n + (n + 768) / 4
  | 0, c, h => h
  | r + 1, c, h => by
    simp only [Builtin.growBy]
    split
    · exact h
    · exact growBy_le n r _ (by omega)

theorem next_le (n cap : Nat) (h : cap < n) : Builtin.nextslicecap n cap ≤ 2 * n := by
  unfold Builtin.nextslicecap
  split
  · omega
  · split
    · omega
    · have := growBy_le n 4 cap (by omega)
      omega

theorem Fits.of {n k bytes : Nat} (h : n * bytes ≤ 140737488355328) : Fits n k bytes := fun cap _ hc => by
  have h1 := next_le n cap hc
  calc Builtin.nextslicecap n cap * bytes ≤ 2 * n * bytes := Nat.mul_le_mul_right _ h1
    _ = 2 * (n * bytes) := by rw [Nat.mul_assoc]
    _ ≤ 281474976710656 := by omega

/-- The rows of a slice that is read. -/
def rowsA (look : Nat → AObj) (n : Nat) : AV → Option (List (List AV) × List (Nat × Bool))
  | .nil => some ([], [])
  | .sl sz ys _ => bif Nat.beq sz n then some (ys, []) else none
  | .la l g => match look l with
    | .arr c sz rows => bif Nat.beq g c && Nat.beq sz n then some (rows, [(l, false)]) else none
    | _ => none
  | _ => none

theorem run_rows {n b o : Nat} (hn : 1 ≤ n) {ys : List (List AV)} (hz : ∀ (i : Nat) (row : List AV), ys[i]? = some row → row.length = n)
    (hc : ∀ (i : Nat) (row : List AV) (j : Nat) (a : AV), ys[i]? = some row → row[j]? = some a → ∃ v, w.cell? ⟨b, o + i * n + j, none⟩ = some v ∧ v.oneCell' = true ∧ RepV M [] a v) :
    ∃ arr, (∀ d, (loadCells ⟨b, o, none⟩ (ys.length * n)).run P { w with drawn := d } = .ok arr { w with drawn := d }) ∧ arr.size = ys.length * n ∧ RowsIn M n ys arr ∧ ∀ u ∈ arr.toList, u.oneCell' = true := by
  let f : Nat → Value := fun k => (w.cell? ⟨b, o + k, none⟩).getD undef
  have hk : ∀ k, k < ys.length * n → ∃ v, w.cell? ⟨b, o + k, none⟩ = some v ∧ v.oneCell' = true := fun k hk => by
    have hi : k / n < ys.length := Nat.div_lt_of_lt_mul (by rw [Nat.mul_comm]; exact hk)
    have hj : k % n < n := Nat.mod_lt _ hn
    have e1 := List.getElem?_eq_getElem hi
    have hl := hz _ _ e1
    have e2 := List.getElem?_eq_getElem (show k % n < (ys[k / n]).length by omega)
    obtain ⟨v, h1, h2, _⟩ := hc _ _ _ _ e1 e2
    refine ⟨v, ?_, h2⟩
    have : o + k / n * n + k % n = o + k := by
      have := Nat.div_add_mod k n
      rw [Nat.mul_comm] at this
      omega
    rwa [this] at h1
  have hf : ∀ k, k < ys.length * n → w.cell? ((⟨b, o, none⟩ : Addr).add k) = some (f k) := fun k h => by
    obtain ⟨v, h1, _⟩ := hk k h
    rw [addr_add, h1]; simp [f, h1]
  have hget : ∀ k, k < ys.length * n → (((List.range (ys.length * n)).map f).toArray)[k]? = some (f k) := fun k h => by
    simp [h]
  refine ⟨_, fun d => run_loadCells { w with drawn := d } _ _ f hf, by simp, ⟨hz, fun i row j a e1 e2 => ?_⟩, fun u hu => ?_⟩
  · obtain ⟨v, h1, h2, h3⟩ := hc i row j a e1 e2
    have hi : i < ys.length := (List.getElem?_eq_some_iff.1 e1).1
    have hj : j < n := by rw [← hz i row e1]; exact (List.getElem?_eq_some_iff.1 e2).1
    have hlt : i * n + j < ys.length * n := by
      have : i * n + n ≤ ys.length * n := by rw [← Nat.succ_mul]; exact Nat.mul_le_mul_right n hi
      omega
    refine ⟨v, ?_, h2, h3⟩
    rw [hget _ hlt]
    simp only [f]
    rw [← Nat.add_assoc, h1]; rfl
  · simp only [List.mem_map, List.mem_range] at hu
    obtain ⟨k, hk1, rfl⟩ := hu
    obtain ⟨v, h1, h2⟩ := hk k hk1
    simp only [f, h1, Option.getD_some]
    exact h2

theorem rowsA_spec (hst : StoreOk M μ st w) {n : Nat} (hn : 1 ≤ n) {y : AV} {ys : List (List AV)} {ac : List (Nat × Bool)} {v : Value} (h : rowsA (getO st) n y = some (ys, ac)) (hr : RepV M μ y v) :
    ∃ A c arr, v = .slice A ys.length c ∧ (∀ d, (Builtin.firstCells n ys.length v).run P { w with drawn := d } = .ok arr { w with drawn := d }) ∧ arr.size = ys.length * n ∧ RowsIn M n ys arr ∧ ∀ u ∈ arr.toList, u.oneCell' = true := by
  have hemp : ∀ A c (w : World), (Builtin.firstCells n 0 (.slice A 0 c)).run P w = .ok #[] w := fun A c w => by
    cases A <;> simp [Builtin.firstCells, loadCells, loadCellsFrom]
  have hnil : ∀ A c, v = .slice A 0 c → ys = [] → ∃ A c arr, v = .slice A ys.length c ∧ (∀ d, (Builtin.firstCells n ys.length v).run P { w with drawn := d } = .ok arr { w with drawn := d }) ∧ arr.size = ys.length * n ∧ RowsIn M n ys arr ∧ ∀ u ∈ arr.toList, u.oneCell' = true := fun A c e e2 => by
    subst e2
    exact ⟨A, c, #[], e, fun d => by rw [e]; exact hemp A c _, by simp, ⟨by simp, by simp⟩, by simp⟩
  cases y with
  | nil =>
    simp only [rowsA, Option.some.injEq, Prod.mk.injEq] at h
    cases hr
    exact hnil _ _ rfl h.1.symm
  | sl sz xs f =>
    simp only [rowsA] at h
    cases hb : Nat.beq sz n with
    | false => rw [hb] at h; cases h
    | true =>
      rw [hb] at h
      cases h
      have := Nat.eq_of_beq_eq_true hb
      subst this
      cases hr with
      | sl0 => exact hnil _ _ rfl rfl
      | sl0f => exact hnil _ _ rfl rfl
      | @sl _ _ _ _ b o c fv hne hc hf hz hm hrep =>
        obtain ⟨arr, h1, h2, h3, h4⟩ := run_rows (P := P) (w := w) (M := M) (b := b) (o := o) hn hz (fun i row j a e1 e2 => by
          obtain ⟨z1, z2⟩ := hst.mem _ _ _ (hm i row j a e1 e2)
          exact ⟨_, z1, z2, hrep i row j a e1 e2⟩)
        exact ⟨_, _, arr, rfl, fun d => by simpa [Builtin.firstCells] using h1 d, h2, h3, h4⟩
  | la l g =>
    simp only [rowsA] at h
    split at h
    · rename_i c sz rows hl
      cases hb : (Nat.beq g c && Nat.beq sz n) with
      | false => rw [hb] at h; cases h
      | true =>
        rw [hb] at h
        cases h
        simp only [Bool.and_eq_true] at hb
        have := Nat.eq_of_beq_eq_true hb.2
        subst this
        obtain ⟨bd, e1, e2, e3, e4, e5, e6, h7⟩ := hr.laCur hst hl hb.1
        rcases h7 with ⟨_, rfl, _, A, hv⟩ | ⟨b, cc, ty, k1, hv, k2, k3, k4, k5, k6⟩
        · exact hnil _ _ hv rfl
        · obtain ⟨arr, h1, h2, h3, h4⟩ := run_rows (P := P) (w := w) (M := M) (b := b) (o := 0) hn k5.1 (fun i row j a e1 e2 => by
            obtain ⟨v, z1, z2, z3⟩ := k5.2 i row j a e1 e2
            exact ⟨v, by rw [cell_of_heap k2, Nat.zero_add]; exact z1, z2, z3⟩)
          exact ⟨_, _, arr, hv, fun d => by rw [hv]; simpa [Builtin.firstCells] using h1 d, h2, h3, h4⟩
    · cases h
  | _ => simp [rowsA] at h

theorem RowsIn.app {n : Nat} {xs ys : List (List AV)} {c1 c2 c3 : Array Value} (h1 : RowsIn M n xs c1) (h2 : RowsIn M n ys c2) (hl : c1.size = xs.length * n) (_hl2 : c2.size = ys.length * n) :
    RowsIn M n (xs ++ ys) (c1 ++ c2 ++ c3) := by
  have hget : ∀ (i : Nat) (row : List AV), (xs ++ ys)[i]? = some row → (i < xs.length ∧ xs[i]? = some row) ∨ (xs.length ≤ i ∧ ys[i - xs.length]? = some row) := fun i row e => by
    by_cases hi : i < xs.length
    · rw [List.getElem?_append_left hi] at e; exact .inl ⟨hi, e⟩
    · rw [List.getElem?_append_right (by omega)] at e; exact .inr ⟨by omega, e⟩
  refine ⟨fun i row e => ?_, fun i row j a e1 e2 => ?_⟩
  · rcases hget i row e with ⟨_, e⟩ | ⟨_, e⟩
    · exact h1.1 i row e
    · exact h2.1 _ row e
  · rcases hget i row e1 with ⟨hi, e⟩ | ⟨hi, e⟩
    · obtain ⟨v, z1, z2, z3⟩ := h1.2 i row j a e e2
      have : i * n + j < c1.size := (Array.getElem?_eq_some_iff.1 z1).1
      refine ⟨v, ?_, z2, z3⟩
      rw [Array.append_assoc, Array.getElem?_append_left this]
      exact z1
    · obtain ⟨v, z1, z2, z3⟩ := h2.2 _ row j a e e2
      have hlt : (i - xs.length) * n + j < c2.size := (Array.getElem?_eq_some_iff.1 z1).1
      have hidx : i * n + j = c1.size + ((i - xs.length) * n + j) := by
        rw [hl]
        have : i * n = xs.length * n + (i - xs.length) * n := by rw [← Nat.add_mul]; congr 1; omega
        omega
      refine ⟨v, ?_, z2, z3⟩
      rw [Array.append_assoc, hidx, Array.getElem?_append_right (by omega), Nat.add_sub_cancel_left, Array.getElem?_append_left hlt]
      exact z1

theorem zeroCells_size (zero : Array Value) (n : Nat) : (Builtin.zeroCells zero n).size = n * zero.size := by simp [Builtin.zeroCells]

/-- append, told what its two operands hold. -/
theorem run_append {t t2 e e2 : TypeId} {i : TypeInfo} {z : Value} {ty : TypeId} (ht : P.underlying t = some (.slice e)) (ht2 : P.underlying t2 = some (.slice e2)) (hi : P.info? e = some i) (hz : i.zero = some z)
    (hb : 1 ≤ i.bytes) {base : Option Addr} {k cap m : Nat} {y : Value} {A : Option Addr} {cy : Nat} (hy : y = .slice A m cy) {new : Array Value} (hnew' : ∀ d, (Builtin.firstCells i.size m y).run P { w with drawn := d } = .ok new { w with drawn := d }) :
    (k + m ≤ cap → ∀ w', (∀ a, base = some a → (storeCells (a.add (k * i.size)) new.toList).run P w = .ok () w') → (base = none → w' = w) →
      (Builtin.append_ #[t, t2] ty #[.slice base k cap, y]).run P w = .ok (.slice base (k + m) cap) w') ∧
    (cap < k + m → k ≤ cap → Fits (k + m) k i.bytes → ∀ old, (∀ d, (Builtin.firstCells i.size k (.slice base k cap)).run P { w with drawn := d } = .ok old { w with drawn := d }) →
      ∃ c, k + m ≤ c ∧ (Builtin.append_ #[t, t2] ty #[.slice base k cap, y]).run P w =
        .ok (.slice (some ⟨w.heap.size, 0, none⟩) (k + m) c) ({ w with drawn := w.drawn + 1 }.alloc (.cells (old ++ new ++ Builtin.zeroCells z.cells (c - (k + m))) e))) := by
  have hlen : (Builtin.lenOf y).run P w = .ok m w := by rw [hy]; rfl
  have hnew : (Builtin.firstCells i.size m y).run P w = .ok new w := hnew' w.drawn
  refine ⟨fun hc w' hw1 hw2 => ?_, fun hc hkc hfit old hold' => ?_⟩
  · cases base with
    | none =>
      rw [hw2 rfl]
      simp [Builtin.append_, run_underlying ht, run_underlying ht2, run_sizeOf w hi, hlen, hnew, hc]
    | some a =>
      have := hw1 a rfl
      simp [Builtin.append_, run_underlying ht, run_underlying ht2, run_sizeOf w hi, hlen, hnew, hc, this]
  · have hn : Builtin.nextslicecap (k + m) cap * i.bytes ≤ 281474976710656 := hfit cap hkc hc
    let c := (Question.appendCap (k + m) cap e).cut (w.tape w.drawn (.appendCap (k + m) cap e))
    have hck : k + m ≤ c := Nat.le_add_right _ _
    refine ⟨c, hck, ?_⟩
    have hnc : ¬ (k + m ≤ cap) := by omega
    have hb0 : ¬ (i.bytes = 0) := by omega
    have hbig : ¬ (281474976710656 < Builtin.nextslicecap (k + m) cap * i.bytes) := by omega
    have hfo : (Question.appendCap (k + m) cap e).forced = false := rfl
    have ho1 : (Builtin.firstCells i.size k (.slice base k cap)).run P w.drew = .ok old w.drew := hold' _
    have hn1 : (Builtin.firstCells i.size m y).run P w.drew = .ok new w.drew := hnew' _
    simp [Builtin.append_, run_underlying ht, run_underlying ht2, run_sizeOf w hi, hlen, hnc, run_typeInfo w hi, hb0, hbig, hfo, ho1, hn1, run_typeInfo w.drew hi, run_zeroValue w.drew hi hz, newRow, c]

/-- append: of a slice without room or without elements (a new slice); of a row of the call's own. -/
def appendA (P : Program) (slot : Nat) (look : Nat → AObj) (en : Ent) (t t2 : TypeId) (x y : AV) : Option Res :=
  match P.underlying t, P.underlying t2 with
  | some (.slice e), some (.slice _) => match P.info? e with
    | some i => match i.zero with
      | some z => bif Nat.ble 1 i.size && Nat.ble 1 i.bytes && Nat.beq z.cells.size i.size then (match rowsA look i.size y with
        | some (ys, ac) => match x with
          | .nil => match en with
            | .loc => some ⟨.la slot 1, [(slot, .arr 1 i.size ys)], (slot, true) :: ac, [Fits (0 + ys.length) 0 i.bytes]⟩
            | _ => some ⟨.sl i.size ys false, [], ac, [Fits (0 + ys.length) 0 i.bytes]⟩
          | .sl sz xs f => match f with
            | true => bif Nat.beq sz i.size then (match en with
              | .loc => match xs with
                | [] => some ⟨.la slot 1, [(slot, .arr 1 i.size ys)], (slot, true) :: ac, [Fits (0 + ys.length) 0 i.bytes]⟩
                | _ :: _ => match ys with
                  | [] => none
                  | _ :: _ => some ⟨.la slot 1, [(slot, .arr 1 i.size (xs ++ ys))], (slot, true) :: ac, [Fits (xs.length + ys.length) xs.length i.bytes]⟩
              | _ => some ⟨.sl sz (xs ++ ys) false, [], ac, [Fits (xs.length + ys.length) xs.length i.bytes]⟩) else none
            | false => none
          | .la l g => match look l with
            | .arr c sz rows => bif Nat.beq g c && Nat.beq sz i.size then
                some ⟨.la l (g + 1), [(l, .arr (g + 1) sz (rows ++ ys))], (l, true) :: ac, [Fits (rows.length + ys.length) rows.length i.bytes]⟩ else none
            | _ => none
          | _ => none
        | none => none) else none
      | none => none
    | none => none
  | _, _ => none

theorem ok_append (hst : StoreOk M μ st w) (hs : st[slot]? = some .gone) (hρ : ∀ x, RepV M μ (ρ x) (ρc x)) {t t2 : TypeId} {x y : Operand} (ho : o.op = .call { callee := .builtin .append, args := #[x, y], argTypes := #[t, t2] }) {res : Res}
    (h : appendA P slot (getO st) en t t2 (ρ x) (ρ y) = some res) (hob : AllP res.ob) : OpOk M μ st w res ((execOp ρc o).run P w) := by
  have hx := hρ x
  have hy := hρ y
  obtain ⟨cns, hex⟩ := exec_builtin (ρc := ρc) ho
  have key : ∀ v w', (Builtin.append_ #[t, t2] o.type #[ρc x, ρc y]).run P w = .ok v w' → (execOp ρc o).run P w = .ok (.value v) w' := fun v w' hv => by
    rw [hex]; simp only [builtin]; exact exec_v (by simpa using hv)
  unfold appendA at h
  split at h
  · rename_i e e2 hu hu2
    split at h
    · rename_i i hi
      split at h
      · rename_i z hz
        cases hb : (Nat.ble 1 i.size && Nat.ble 1 i.bytes && Nat.beq z.cells.size i.size) with
        | false => rw [hb] at h; cases h
        | true =>
          rw [hb] at h
          simp only [cond_true] at h
          simp only [Bool.and_eq_true] at hb
          have hs1 : 1 ≤ i.size := Nat.le_of_ble_eq_true hb.1.1
          have hb1 : 1 ≤ i.bytes := Nat.le_of_ble_eq_true hb.1.2
          have hz1 : z.cells.size = i.size := Nat.eq_of_beq_eq_true hb.2
          split at h
          · rename_i ys ac hrows
            obtain ⟨A, cy, new, hyv, hnew, hnsz, hnr, hn1⟩ := rowsA_spec (P := P) hst hs1 hrows hy
            -- a slice that has neither elements nor room
            have empty : ∀ B, ρc x = .slice B 0 0 → Fits (0 + ys.length) 0 i.bytes →
                (ys = [] ∧ (execOp ρc o).run P w = .ok (.value (.slice B 0 0)) w) ∨
                ∃ c d arr, 0 + ys.length ≤ c ∧ RowsIn M i.size ys arr ∧ arr.size = c * i.size ∧ (execOp ρc o).run P w = .ok (.value (.slice (some ⟨w.heap.size, 0, none⟩) ys.length c)) ({ w with drawn := d }.alloc (.cells arr e)) := by
              intro B hv hfit
              obtain ⟨r1, r2⟩ := run_append (P := P) (ty := o.type) hu hu2 hi hz hb1 (base := B) (k := 0) (cap := 0) hyv hnew
              by_cases h0 : ys = []
              · subst h0
                refine .inl ⟨rfl, key _ _ ?_⟩
                have hnil : new.toList = [] := by
                  have : new.size = 0 := by simpa using hnsz
                  simpa using this
                have := r1 (by simp) w (fun a _ => by rw [hnil]; simp [storeCells]) (fun _ => rfl)
                rw [hv]
                exact this
              · have hpos : 0 < ys.length := List.length_pos_iff.2 h0
                obtain ⟨c, hc1, hc2⟩ := r2 (by omega) (Nat.le_refl 0) hfit #[] (fun d => by cases B <;> simp [Builtin.firstCells, loadCells, loadCellsFrom])
                refine .inr ⟨c, w.drawn + 1, #[] ++ new ++ Builtin.zeroCells z.cells (c - (0 + ys.length)), hc1, ?_, ?_, key _ _ ?_⟩
                · have := RowsIn.app (M := M) (n := i.size) (xs := []) (ys := ys) (c1 := #[]) (c2 := new) (c3 := Builtin.zeroCells z.cells (c - (0 + ys.length))) ⟨by simp, by simp⟩ hnr (by simp) hnsz
                  simpa using this
                · simp only [Array.size_append, zeroCells_size, hnsz, hz1, List.size_toArray, List.length_nil, Nat.zero_add]
                  rw [← Nat.add_mul]; congr 1; omega
                · rw [hv]
                  rw [hc2]
                  simp
            have loc : ∀ B, ρc x = .slice B 0 0 → Fits (0 + ys.length) 0 i.bytes → OpOk M μ st w ⟨.la slot 1, [(slot, .arr 1 i.size ys)], (slot, true) :: ac, [Fits (0 + ys.length) 0 i.bytes]⟩ ((execOp ρc o).run P w) := by
              intro B hv hfit
              rcases empty B hv hfit with ⟨rfl, hrun⟩ | ⟨c, d, arr, h1, h2, h3, hrun⟩
              · have hl : slot < μ.length := by rw [hst.len]; exact (List.getElem?_eq_some_iff.1 hs).1
                have hl' : slot < st.length := (List.getElem?_eq_some_iff.1 hs).1
                have hzr : ∀ p, μ[slot]? = some p → p.evo ⟨none, 1, 0, 0, i.size⟩ := fun p e => .inl (hst.dead slot _ p hs e rfl)
                refine ⟨_, w, M, μ.set slot ⟨none, 1, 0, 0, i.size⟩, .inl hrun, ?_, ?_, EvoAll.set hzr, .la (List.getElem?_set_self hl) (by omega) (Nat.le_refl _) (fun _ => ⟨B, rfl⟩) rfl⟩
                · exact hst.update hl' (.refl M) hzr (fun _ _ _ => ⟨rfl, fun _ h => h⟩) (fun _ _ _ _ e1 hx e2 e3 => hst.lt e1 hx e2 e3) ⟨by omega, rfl, rfl, rfl, rfl, rfl⟩ (fun e => by cases e) (fun b e => by cases e) hst.mem
                · refine ⟨rfl, rfl, rfl, Nat.le_refl _, fun _ _ _ => rfl, .refl M, fun b o v e k => by simp [e] at k, fun b ⟨j, q, p, e1, hq, e2, e3⟩ => .inr ?_⟩
                  by_cases hj : j = slot
                  · subst hj
                    rw [List.getElem?_set_self hl] at e2
                    cases e2; cases e3
                  · simp only [applyWr, List.foldl_cons, List.foldl_nil] at e1
                    rw [List.getElem?_set_ne (Ne.symm hj)] at e1 e2
                    exact ⟨j, q, p, e1, hq, e2, e3⟩
              · exact OpOk.newArr hst hs h2 rfl (by omega) h3 hrun
            have frz : ∀ B, ρc x = .slice B 0 0 → Fits (0 + ys.length) 0 i.bytes → ∀ obs, OpOk M μ st w ⟨.sl i.size ys false, [], ac, obs⟩ ((execOp ρc o).run P w) := by
              intro B hv hfit obs
              rcases empty B hv hfit with ⟨rfl, hrun⟩ | ⟨c, d, arr, h1, h2, h3, hrun⟩
              · exact OpOk.val hst hrun .sl0
              · exact OpOk.newRow hst h2 rfl (by omega) (by simp) hrun
            cases hax : ρ x with
            | nil =>
              rw [hax] at h hx
              have hv : ∃ B, ρc x = .slice B 0 0 := by generalize ρc x = v at hx; cases hx; exact ⟨_, rfl⟩
              obtain ⟨B, hv⟩ := hv
              cases en <;> cases h <;> simp only [AllP, and_true] at hob <;> first | exact loc B hv hob | exact frz B hv hob _
            | sl sz xs f =>
              rw [hax] at h hx
              cases f with
              | false => cases h
              | true =>
                simp only at h
                cases hsz : Nat.beq sz i.size with
                | false => rw [hsz] at h; cases h
                | true =>
                  rw [hsz] at h
                  have := Nat.eq_of_beq_eq_true hsz
                  subst this
                  simp only [cond_true] at h
                  have hfull : ∀ obs, Fits (xs.length + ys.length) xs.length i.bytes → OpOk M μ st w ⟨.sl i.size (xs ++ ys) false, [], ac, obs⟩ ((execOp ρc o).run P w) := by
                    intro obs hfit
                    by_cases hxe : xs = []
                    · subst hxe
                      have hv : ∃ B, ρc x = .slice B 0 0 := by
                        generalize ρc x = v at hx
                        cases hx with
                        | sl0f => exact ⟨_, rfl⟩
                        | sl f hne => exact absurd rfl hne
                      obtain ⟨B, hv⟩ := hv
                      exact frz B hv hfit obs
                    · generalize hxv : ρc x = v at hx
                      cases hx with
                      | sl0f => exact absurd rfl hxe
                      | @sl _ _ _ _ b o' c fv hne hc hf hz' hm hr =>
                        have := hf rfl
                        subst this
                        obtain ⟨r1, r2⟩ := run_append (P := P) (ty := o.type) hu hu2 hi hz hb1 (base := some ⟨b, o', none⟩) (k := xs.length) (cap := xs.length) hyv hnew
                        by_cases h0 : ys = []
                        · subst h0
                          have hnil : new.toList = [] := by
                            have : new.size = 0 := by simpa using hnsz
                            simpa using this
                          have := r1 (by simp) w (fun a _ => by rw [hnil]; simp [storeCells]) (fun e => by cases e)
                          rw [← hxv] at this
                          refine OpOk.val hst (key _ _ this) ?_
                          rw [List.append_nil]
                          exact (RepV.sl fv hne hc hf hz' hm hr).unfull
                        · have hpos : 0 < ys.length := List.length_pos_iff.2 h0
                          obtain ⟨old, q1, q2, q3, q4⟩ := run_rows (P := P) (w := w) (M := M) (b := b) (o := o') hs1 hz' (fun i row j a e1 e2 => by
                            obtain ⟨z1, z2⟩ := hst.mem _ _ _ (hm i row j a e1 e2)
                            exact ⟨_, z1, z2, hr i row j a e1 e2⟩)
                          obtain ⟨c, hc1, hc2⟩ := r2 (by omega) (Nat.le_refl _) hfit old (fun d => by simpa [Builtin.firstCells] using q1 d)
                          rw [← hxv] at hc2
                          refine OpOk.newRow hst (RowsIn.app q3 hnr q2 hnsz) ?_ hc1 (by simp) (key _ _ hc2)
                          simp
                  have grown : xs ≠ [] → ys ≠ [] → Fits (xs.length + ys.length) xs.length i.bytes → OpOk M μ st w ⟨.la slot 1, [(slot, .arr 1 i.size (xs ++ ys))], (slot, true) :: ac, [Fits (xs.length + ys.length) xs.length i.bytes]⟩ ((execOp ρc o).run P w) := by
                    intro hxe hye hob
                    have hpos : 0 < ys.length := List.length_pos_iff.2 hye
                    generalize hxv : ρc x = v at hx
                    cases hx with
                    | sl0f => exact absurd rfl hxe
                    | @sl _ _ _ _ b o' c fv hne hc hf hz' hm hr =>
                      have := hf rfl
                      subst this
                      obtain ⟨r1, r2⟩ := run_append (P := P) (ty := o.type) hu hu2 hi hz hb1 (base := some ⟨b, o', none⟩) (k := xs.length) (cap := xs.length) hyv hnew
                      obtain ⟨old, q1, q2, q3, q4⟩ := run_rows (P := P) (w := w) (M := M) (b := b) (o := o') hs1 hz' (fun i row j a e1 e2 => by
                        obtain ⟨z1, z2⟩ := hst.mem _ _ _ (hm i row j a e1 e2)
                        exact ⟨_, z1, z2, hr i row j a e1 e2⟩)
                      obtain ⟨c, hc1, hc2⟩ := r2 (by omega) (Nat.le_refl _) hob old (fun d => by simpa [Builtin.firstCells] using q1 d)
                      rw [← hxv] at hc2
                      have hrun := key _ _ hc2
                      refine OpOk.newArr (d := w.drawn + 1) hst hs (RowsIn.app q3 hnr q2 hnsz) (by simp) (by simpa using hc1) ?_ hrun
                      simp only [Array.size_append, zeroCells_size, q2, hnsz, hz1]
                      rw [← Nat.add_mul, ← Nat.add_mul]
                      congr 1
                      omega
                  cases en with
                  | loc =>
                    cases xs with
                    | nil =>
                      have hv : ∃ B, ρc x = .slice B 0 0 := by
                        generalize ρc x = v at hx
                        cases hx with
                        | sl0f => exact ⟨_, rfl⟩
                        | sl f hne => exact absurd rfl hne
                      obtain ⟨B, hv⟩ := hv
                      cases h
                      simp only [AllP, and_true] at hob
                      exact loc B hv hob
                    | cons x0 xs0 =>
                      simp only at h
                      split at h
                      · cases h
                      · cases h
                        simp only [AllP, and_true] at hob
                        exact grown (by simp) (by simp) hob
                  | _ => cases h; simp only [AllP, and_true] at hob; exact hfull _ hob
            | la l g =>
              rw [hax] at h hx
              simp only at h
              split at h
              · rename_i cg sz rows hlk
                cases hsz : (Nat.beq g cg && Nat.beq sz i.size) with
                | false => rw [hsz] at h; cases h
                | true =>
                  rw [hsz] at h
                  cases h
                  simp only [Bool.and_eq_true] at hsz
                  have := Nat.eq_of_beq_eq_true hsz.2
                  subst this
                  simp only [AllP, and_true] at hob
                  obtain ⟨bd, e1, e2, e3, e4, e5, e6, h7⟩ := hx.laCur hst hlk hsz.1
                  have hl' : l < st.length := (List.getElem?_eq_some_iff.1 e1).1
                  have hl : l < μ.length := by rw [hst.len]; exact hl'
                  -- how the objects turn
                  have upd : ∀ (bd' : Bd) (w' : World), bd'.g = g + 1 → (bd'.b = bd.b ∨ ∃ q, bd'.b = some q ∧ w.heap.size ≤ q) → w'.os = w.os → w'.tape = w.tape → w'.output = w.output → w.heap.size ≤ w'.heap.size →
                      (∀ q, q < w.heap.size → bd.b ≠ some q → w'.heap[q]? = w.heap[q]?) → (∀ q, bd.b = some q → ∀ z, M q z = none) →
                      RepO M (μ.set l bd') w' (.arr (g + 1) i.size (rows ++ ys)) bd' →
                      StoreOk M (μ.set l bd') (st.set l (.arr (g + 1) i.size (rows ++ ys))) w' ∧ Stp M μ st w M (μ.set l bd') (st.set l (.arr (g + 1) i.size (rows ++ ys))) w' ∧ EvoAll μ (μ.set l bd') := by
                    intro bd' w' k1 k2 g1 g2 g3 g4 g5 g6 k3
                    have hev : ∀ p, μ[l]? = some p → p.evo bd' := fun p e => by
                      rw [e2] at e; cases e
                      exact .inr (.inr ⟨by omega, by omega⟩)
                    refine ⟨hst.update hl' (.refl M) hev (fun b hb ⟨j, q, p, hj, z1, hq, z2, z3⟩ => ⟨g5 b hb (fun e => hst.apart l j _ q bd p b (Ne.symm hj) e1 z1 rfl hq e2 z2 e z3), fun _ h => h⟩)
                      (fun i x p b z1 hx z2 z3 => hst.lt z1 hx z2 z3) k3 (fun e => by cases e) (fun b hb _ j q p hj z1 hq z2 z3 => ?_) (fun b z u e => ?_), ⟨g1, g2, g3, g4, fun b hb hown => g5 b hb (fun e => hown ⟨l, _, bd, e1, rfl, e2, e⟩), .refl M, fun b o v e k => by simp [e] at k, fun b ⟨j, q, p, z1, hq, z2, z3⟩ => ?_⟩, EvoAll.set hev⟩
                    · rcases k2 with k2 | ⟨q', k2, k4⟩
                      · rw [k2] at hb
                        exact hst.apart l j _ q bd p b (Ne.symm hj) e1 z1 rfl hq e2 z2 hb z3
                      · rw [k2] at hb
                        cases hb
                        have := hst.lt z1 hq z2 z3
                        omega
                    · obtain ⟨m1, m2⟩ := hst.mem b z u e
                      refine ⟨?_, m2⟩
                      have hlt := Mem.lt hst.mem e
                      have hne : bd.b ≠ some b := fun e' => by rw [g6 b e' z] at e; cases e
                      simp only [World.cell?, g5 b hlt hne] at m1 ⊢
                      exact m1
                    · by_cases hj : j = l
                      · subst hj
                        rw [List.getElem?_set_self hl] at z2
                        cases z2
                        rcases k2 with k2 | ⟨q', k2, k4⟩
                        · exact .inr ⟨j, _, bd, e1, rfl, e2, by rw [← k2]; exact z3⟩
                        · rw [k2] at z3; cases z3; exact .inl k4
                      · rw [List.getElem?_set_ne (Ne.symm hj)] at z1 z2
                        exact .inr ⟨j, q, p, z1, hq, z2, z3⟩
                  rcases h7 with ⟨k0, rfl, k2, B, hv⟩ | ⟨b, cc, ty, k0, hv, k2, k3, k4, k5, k6⟩
                  · rcases empty B hv hob with ⟨rfl, hrun⟩ | ⟨c, d, arr, h1, h2, h3, hrun⟩
                    · obtain ⟨u1, u2, u3⟩ := upd ⟨none, g + 1, 0, 0, i.size⟩ w rfl (.inl k0.symm) rfl rfl rfl (Nat.le_refl _) (fun _ _ _ => rfl) (fun q e => by rw [k0] at e; cases e) ⟨by omega, rfl, rfl, rfl, rfl, rfl⟩
                      exact ⟨_, w, M, _, .inl hrun, u1, u2, u3, .la (List.getElem?_set_self hl) (by omega) (Nat.le_refl _) (fun _ => ⟨B, rfl⟩) rfl⟩
                    · obtain ⟨u1, u2, u3⟩ := upd ⟨some w.heap.size, g + 1, c, ys.length, i.size⟩ ({ w with drawn := d }.alloc (.cells arr e)) rfl (.inr ⟨_, rfl, Nat.le_refl _⟩) rfl rfl rfl (by simp)
                        (fun q hq _ => alloc_heap_old _ _ hq) (fun q e => by rw [k0] at e; cases e)
                        ⟨by omega, rfl, rfl, by simp, arr, e, alloc_heap_new _ _, h3, by simpa using h1, by simpa using h2.1, by simpa using h2.2, fun z => Mem.none hst.mem (Nat.le_refl _) z⟩
                      exact ⟨_, _, M, _, .inl hrun, u1, u2, u3, .la (List.getElem?_set_self hl) (by omega) (Nat.le_refl _) (fun _ => rfl) rfl⟩
                  · obtain ⟨r1, r2⟩ := run_append (P := P) (ty := o.type) hu hu2 hi hz hb1 (base := some ⟨b, 0, none⟩) (k := rows.length) (cap := bd.n) hyv hnew
                    by_cases hroom : rows.length + ys.length ≤ bd.n
                    · have hnl : new.toList.length = ys.length * i.size := by simpa using hnsz
                      have hfitc : rows.length * i.size + new.toList.length ≤ cc.size := by
                        rw [hnl, k3, ← Nat.add_mul]
                        exact Nat.mul_le_mul_right _ hroom
                      obtain ⟨w', g1, g2⟩ := run_storeCells (P := P) b (rows.length * i.size) ty new.toList 0 w cc k2 (by simpa using hfitc) hn1
                      rw [Nat.add_zero] at g2
                      have hrun := r1 hroom w' (fun a e => by cases e; simpa [addr_add] using g1) (fun e => by cases e)
                      rw [← hv] at hrun
                      have hrows : RowsIn M i.size (rows ++ ys) (putA cc (rows.length * i.size) new.toList) := by
                        have hget : ∀ (k : Nat) (row : List AV), (rows ++ ys)[k]? = some row → (k < rows.length ∧ rows[k]? = some row) ∨ (rows.length ≤ k ∧ ys[k - rows.length]? = some row) := fun k row e => by
                          by_cases hi : k < rows.length
                          · rw [List.getElem?_append_left hi] at e; exact .inl ⟨hi, e⟩
                          · rw [List.getElem?_append_right (by omega)] at e; exact .inr ⟨by omega, e⟩
                        refine ⟨fun k row e => ?_, fun k row j a z1 z2 => ?_⟩
                        · rcases hget k row e with ⟨_, e⟩ | ⟨_, e⟩
                          · exact k5.1 k row e
                          · exact hnr.1 _ row e
                        · rw [putA_get _ _ _ _ hfitc]
                          rcases hget k row z1 with ⟨hk, e⟩ | ⟨hk, e⟩
                          · have hj : j < i.size := by rw [← k5.1 k row e]; exact (List.getElem?_eq_some_iff.1 z2).1
                            have : k * i.size + i.size ≤ rows.length * i.size := by rw [← Nat.succ_mul]; exact Nat.mul_le_mul_right _ hk
                            rw [if_neg (by omega)]
                            exact k5.2 k row j a e z2
                          · obtain ⟨v, q1, q2, q3⟩ := hnr.2 _ row j a e z2
                            have hlt : (k - rows.length) * i.size + j < new.size := (Array.getElem?_eq_some_iff.1 q1).1
                            have hidx : k * i.size + j = rows.length * i.size + ((k - rows.length) * i.size + j) := by
                              have : k * i.size = rows.length * i.size + (k - rows.length) * i.size := by rw [← Nat.add_mul]; congr 1; omega
                              omega
                            rw [hidx, if_pos (by rw [hnl, ← hnsz]; omega), Nat.add_sub_cancel_left, Array.getElem?_toList]
                            exact ⟨v, q1, q2, q3⟩
                      obtain ⟨u1, u2, u3⟩ := upd ⟨some b, g + 1, bd.n, rows.length + ys.length, i.size⟩ w' rfl (.inl k0.symm) g2.os g2.tape g2.output (by rw [g2.size]; exact Nat.le_refl _)
                        (fun q _ hne => g2.other q (fun e => hne (by rw [k0, e]))) (fun q e => by rw [k0] at e; cases e; exact k6)
                        ⟨by omega, rfl, rfl, by simp, _, ty, g2.here, by rw [putA_size]; exact k3, by simpa using hroom, hrows.1, hrows.2, k6⟩
                      exact ⟨_, w', M, _, .inl (key _ _ hrun), u1, u2, u3, .la (List.getElem?_set_self hl) (by omega) (Nat.le_refl _) (fun _ => rfl) rfl⟩
                    · obtain ⟨old, q1, q2, q3, q4⟩ := run_rows (P := P) (w := w) (M := M) (b := b) (o := 0) hs1 k5.1 (fun i row j a e1 e2 => by
                        obtain ⟨v, z1, z2, z3⟩ := k5.2 i row j a e1 e2
                        exact ⟨v, by rw [cell_of_heap k2, Nat.zero_add]; exact z1, z2, z3⟩)
                      obtain ⟨c, hc1, hc2⟩ := r2 (by omega) k4 hob old (fun d => by simpa [Builtin.firstCells] using q1 d)
                      rw [← hv] at hc2
                      have hrows : RowsIn M i.size (rows ++ ys) (old ++ new ++ Builtin.zeroCells z.cells (c - (rows.length + ys.length))) := RowsIn.app q3 hnr q2 hnsz
                      have hsize : (old ++ new ++ Builtin.zeroCells z.cells (c - (rows.length + ys.length))).size = c * i.size := by
                        simp only [Array.size_append, zeroCells_size, q2, hnsz, hz1]
                        rw [← Nat.add_mul, ← Nat.add_mul]; congr 1; omega
                      obtain ⟨u1, u2, u3⟩ := upd ⟨some w.heap.size, g + 1, c, rows.length + ys.length, i.size⟩ ({ w with drawn := w.drawn + 1 }.alloc (.cells (old ++ new ++ Builtin.zeroCells z.cells (c - (rows.length + ys.length))) e)) rfl (.inr ⟨_, rfl, Nat.le_refl _⟩) rfl rfl rfl (by simp)
                        (fun q hq _ => alloc_heap_old { w with drawn := w.drawn + 1 } (.cells (old ++ new ++ Builtin.zeroCells z.cells (c - (rows.length + ys.length))) e) hq) (fun q e => by rw [k0] at e; cases e; exact k6)
                        ⟨by omega, rfl, rfl, by simp, _, e, alloc_heap_new _ _, hsize, by simpa using hc1, hrows.1, hrows.2, fun z => Mem.none hst.mem (Nat.le_refl _) z⟩
                      exact ⟨_, _, M, _, .inl (key _ _ hc2), u1, u2, u3, .la (List.getElem?_set_self hl) (by omega) (Nat.le_refl _) (fun _ => rfl) rfl⟩
              · cases h
            | _ => rw [hax] at h; simp at h
          · cases h
      · cases h
    · cases h
  · cases h

end
end Go.Ae

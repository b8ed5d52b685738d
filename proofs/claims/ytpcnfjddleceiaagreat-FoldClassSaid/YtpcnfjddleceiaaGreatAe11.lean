/- The abstract executor, part 11: make, maps. -/
import Derived.Test.YtpcnfjddleceiaaGreatAe10
namespace Go.Ae
section
variable {P : Program} {M : Mem} {μ : List Bd} {st : List AObj} {w : World} {ρ : Operand → AV} {ρc : Operand → Value} {o : Oper} {en : Ent} {slot : Nat}

/-! ### make([]T, n, c) -/
def makeSliceA (P : Program) (slot : Nat) (en : Ent) (t : TypeId) (l c : AV) : Option Res :=
  match P.underlying t with
  | some (.slice e) => match P.info? e, zeroA P e with
    | some i, some zs => match l with
      | .sc (.int _ n) => match c with
        | .sc (.int _ m) => match en with
          | .nat k => bif Nat.ble 1 i.size && Nat.ble 1 i.bytes && Nat.beq zs.length i.size && zs.all (dataB 6) then
              some ⟨.la slot 1, [(slot, .arr 1 i.size (List.replicate k zs))], [(slot, true)], [n = (k : Int), (k : Int) ≤ m, m * i.bytes ≤ 281474976710656]⟩ else none
          | _ => none
        | _ => none
      | _ => none
    | _, _ => none
  | _ => none

theorem wrap64_small {n : Int} (h0 : 0 ≤ n) (h1 : n ≤ 281474976710656) : IntKind.i64.wrap n = n := by
  simp only [IntKind.wrap, IntKind.bits]
  have : IntKind.i64.signed = true := rfl
  simp [this]
  omega

theorem ok_makeSlice (hst : StoreOk M μ st w) (hs : st[slot]? = some .gone) (hρ : ∀ x, RepV M μ (ρ x) (ρc x)) {t : TypeId} {l c : Operand} (ho : o.op = .makeSlice t l c) {res : Res}
    (h : makeSliceA P slot en t (ρ l) (ρ c) = some res) (hob : AllP res.ob) : OpOk M μ st w res ((execOp ρc o).run P w) := by
  have hl := hρ l
  have hc := hρ c
  unfold makeSliceA at h
  split at h
  · rename_i e hu
    split at h
    · rename_i i zs hi hz
      split at h
      · rename_i kl n el
        split at h
        · rename_i kc m ec
          split at h
          · rename_i k
            cases hb : (Nat.ble 1 i.size && Nat.ble 1 i.bytes && Nat.beq zs.length i.size && zs.all (dataB 6)) with
            | false => rw [hb] at h; cases h
            | true =>
              rw [hb] at h
              cases h
              simp only [Bool.and_eq_true] at hb
              have h1 : 1 ≤ i.size := Nat.le_of_ble_eq_true hb.1.1.1
              have h2 : 1 ≤ i.bytes := Nat.le_of_ble_eq_true hb.1.1.2
              have h3 : zs.length = i.size := Nat.eq_of_beq_eq_true hb.1.2
              have h4 := List.all_eq_true.1 hb.2
              simp only [AllP, and_true] at hob
              obtain ⟨rfl, o2, o3⟩ := hob
              rw [el] at hl
              rw [ec] at hc
              obtain ⟨i', z, hi', hzz, hr⟩ := zeroA_rep hz M μ
              rw [hi] at hi'
              cases hi'
              have hm0 : 0 ≤ m := by omega
              have hmle : m ≤ m * i.bytes := by
                have : m * 1 ≤ m * (i.bytes : Int) := Int.mul_le_mul_of_nonneg_left (by omega) hm0
                omega
              have w1 : IntKind.i64.wrap (k : Int) = (k : Int) := wrap64_small (by omega) (by omega)
              have w2 : IntKind.i64.wrap m = m := wrap64_small hm0 (by omega)
              have hrun : (execOp ρc o).run P w = .ok (.value (.slice (some ⟨w.heap.size, 0, none⟩) k m.toNat)) (({ w with drawn := w.drawn } : World).alloc (.cells ((Array.range (m.toNat * i.size)).map (z.cells[· % z.cells.size]!)) e)) := by
                simp only [execOp, ho, hl.scv, hc.scv]
                refine exec_v ?_
                simp only [Instr.makeSlice, Sem.run_bind, run_underlying hu, Result.andThen_ok, asInt, asIntOf, Sem.run_pure, run_typeInfo w hi, w1, w2]
                have a0 : ¬ ((k : Int) < 0) := by omega
                have a1 : ¬ (m < 0) := by omega
                have a2 : ¬ (281474976710656 < (i.bytes : Int) * m) := by rw [Int.mul_comm] at o3; omega
                have a3 : ¬ (m < (k : Int)) := by omega
                by_cases hm1 : m.toNat * i.size = 0
                · simp [a0, a1, a2, a3, hm1, run_sizeOf w hi, newRow, run_askRoom, Array.range_zero']
                · simp [a0, a1, a2, a3, hm1, run_sizeOf w hi, newRow, run_askRoom, run_zeroValue w hi hzz]
              refine OpOk.newArr hst hs ⟨fun j row e => ?_, fun j row x a e1 e2 => ?_⟩ (by simp) (by omega) (by simp) hrun
              · rw [List.getElem?_replicate] at e
                split at e
                · cases e; exact h3
                · cases e
              · rw [List.getElem?_replicate] at e1
                split at e1
                · rename_i hj
                  cases e1
                  obtain ⟨v, z1, z2, z3⟩ := hr.2 x a e2
                  have hx : x < i.size := by rw [← h3]; exact (List.getElem?_eq_some_iff.1 e2).1
                  refine ⟨v, ?_, z2, z3.ofData 6 (h4 a (List.mem_of_getElem? e2))⟩
                  have hlt : j * i.size + x < m.toNat * i.size := by
                    have : j * i.size + i.size ≤ m.toNat * i.size := by rw [← Nat.succ_mul]; exact Nat.mul_le_mul_right _ (by omega)
                    omega
                  have hmod : (j * i.size + x) % z.cells.size = x := by rw [hr.1, h3, Nat.mul_comm, Nat.mul_add_mod]; exact Nat.mod_eq_of_lt hx
                  rw [Array.getElem?_map, Array.getElem?_range, if_pos hlt]
                  simp only [Option.map_some, Option.some.injEq, hmod]
                  rw [getElem!_def, z1]
                · cases e1
          · cases h
        · cases h
      · cases h
    · cases h
  · cases h

/-! ### maps keyed by strings -/
theorem bbeq (a b : ByteArray) : (a == b) = true ↔ a = b := by
  cases a; cases b
  show ByteArray.beq _ _ = true ↔ _
  simp [ByteArray.beq]

def findM (s : ByteArray) : List (ByteArray × AV) → Option AV
  | [] => none
  | (k, a) :: r => if s == k then some a else findM s r

def setM (s : ByteArray) (a : AV) : List (ByteArray × AV) → List (ByteArray × AV)
  | [] => [(s, a)]
  | (k, b) :: r => if s == k then (s, a) :: r else (k, b) :: setM s a r

theorem find_rep (s : ByteArray) : ∀ (es : List (ByteArray × AV)) (ms : List MapEntry) (i : Nat), ms.length = es.length →
    (∀ (j : Nat) (key : ByteArray) (a : AV), es[j]? = some (key, a) → ∃ e, ms[j]? = some e ∧ e.key = .string key ∧ RepV M [] a e.val) →
    (findM s es = none ∧ Instr.findNow .string (.string s) ms i = some none) ∨
    ∃ j a e, findM s es = some a ∧ Instr.findNow .string (.string s) ms i = some (some (i + j, e.val)) ∧ RepV M [] a e.val ∧ ms[j]? = some e ∧ e.key = .string s ∧
      ∀ b, setM s b es = es.set j (s, b)
  | [], [], i, _, _ => .inl ⟨rfl, rfl⟩
  | [], _ :: _, _, hl, _ => by simp at hl
  | _ :: _, [], _, hl, _ => by simp at hl
  | (k, a) :: es, m :: ms, i, hl, h => by
    obtain ⟨e, h1, h2, h3⟩ := h 0 k a rfl
    simp only [List.getElem?_cons_zero, Option.some.injEq] at h1
    subst h1
    by_cases hk : (s == k) = true
    · refine .inr ⟨0, a, m, by simp [findM, hk], by simp [Instr.findNow, Instr.sameNow, h2, hk], h3, rfl, ?_, fun b => by simp [setM, hk]⟩
      rw [h2, (bbeq _ _).1 hk]
    · have hk' : (s == k) = false := by simpa using hk
      rcases find_rep s es ms (i + 1) (by simpa using hl) (fun j key a e => by simpa using h (j + 1) key a (by simpa using e)) with ⟨q1, q2⟩ | ⟨j, a', e, q1, q2, q3, q4, q5, q6⟩
      · exact .inl ⟨by simp [findM, hk', q1], by simp [Instr.findNow, Instr.sameNow, h2, hk', q2]⟩
      · exact .inr ⟨j + 1, a', e, by simp [findM, hk', q1], by simp [Instr.findNow, Instr.sameNow, h2, hk', q2]; omega, q3, by simpa using q4, q5, fun b => by simp [setM, hk', q6]⟩

theorem run_checkKey {t : TypeId} (hu : P.underlying t = some .string) (b : Bool) (s : ByteArray) (w : World) : ∀ n, (Instr.checkKey b (n + 1) t (.string s)).run P w = .ok () w := fun n => by
  simp [Instr.checkKey, run_underlying hu]

theorem obj_map (hst : StoreOk M μ st w) {l : Nat} {es : List (ByteArray × AV)} {v : Value} (h : getO st l = .map es) (hr : RepV M μ (.mp l) v) :
    ∃ b ms k, v = .map (some b) ∧ w.heap[b]? = some (.map ms k) ∧ ms.size = es.length ∧
      (∀ (j : Nat) (key : ByteArray) (a : AV), es[j]? = some (key, a) → ∃ e, ms[j]? = some e ∧ e.key = .string key ∧ RepV M [] a e.val) ∧ st[l]? = some (.map es) ∧ μ[l]? = some (Bd.at b) ∧ (∀ x, M b x = none) := by
  have e1 := getO_some h rfl
  cases hr with
  | mp e2 =>
    obtain ⟨b, ms, k, e3, h2, h3, h4, h5⟩ := hst.rep l _ _ e1 e2
    have e4 := congrArg Bd.b e3
    simp only [Bd.at, Option.some.injEq] at e4
    subst e4
    exact ⟨_, ms, k, rfl, h2, h3, h4, e1, e2, h5⟩

def makeMapA (slot : Nat) : Option Res := some ⟨.mp slot, [(slot, .map [])], [(slot, true)], []⟩

theorem ok_makeMap (hst : StoreOk M μ st w) (hs : st[slot]? = some .gone) {t : TypeId} (ho : o.op = .makeMap t none) {res : Res}
    (h : makeMapA slot = some res) : OpOk M μ st w res ((execOp ρc o).run P w) := by
  cases h
  have hl : slot < μ.length := by rw [hst.len]; exact (List.getElem?_eq_some_iff.1 hs).1
  obtain ⟨h1, h2, h3⟩ := hst.newObj (o := .map []) (bd := Bd.at w.heap.size) (ob := .map #[] 0) hs rfl rfl
    ⟨w.heap.size, #[], 0, rfl, alloc_heap_new w _, rfl, by simp, fun x => Mem.none hst.mem (Nat.le_refl _) x⟩
  refine ⟨_, _, M, _, .inl ?_, h1, h2, h3, .mp (List.getElem?_set_self hl)⟩
  simp only [execOp, ho]
  exact exec_v (by simp [Instr.makeMap])

def lookupA (P : Program) (look : Nat → AObj) (en : Ent) (t : TypeId) (m k : AV) (ok : Bool) : Option Res :=
  match P.underlying t with
  | some (.map kt et) => match P.underlying kt with
    | some .string => match P.info? et with
      | some i => match i.zero with
        | some z => match m with
          | .mp l => match look l with
            | .map es => match k with
              | .sc (.string s) => match en with
                | .look r => some ⟨bif ok then .tup [r.getD (cvt z), .sc (.bool r.isSome)] else r.getD (cvt z), [], [(l, false)], [findM s es = r]⟩
                | _ => none
              | _ => none
            | _ => none
          | _ => none
        | none => none
      | none => none
    | _ => none
  | _ => none

theorem ok_lookup (hst : StoreOk M μ st w) (hρ : ∀ x, RepV M μ (ρ x) (ρc x)) {t : TypeId} {m k : Operand} {ok : Bool} (ho : o.op = .lookup t m k ok) {res : Res}
    (h : lookupA P (getO st) en t (ρ m) (ρ k) ok = some res) (hob : AllP res.ob) : OpOk M μ st w res ((execOp ρc o).run P w) := by
  have hm := hρ m
  have hk := hρ k
  unfold lookupA at h
  split at h
  · rename_i kt et hu
    split at h
    · rename_i hku
      split at h
      · rename_i i hi
        split at h
        · rename_i z hz
          split at h
          · rename_i l em
            split at h
            · rename_i es hl
              split at h
              · rename_i s ek
                split at h
                · rename_i r
                  cases h
                  simp only [AllP, and_true] at hob
                  rw [em] at hm
                  rw [ek] at hk
                  obtain ⟨b, ms, kk, hmv, h2, h3, h4, h5, h6, h7⟩ := obj_map hst hl hm
                  have hfin : ∀ v, RepV M μ (r.getD (cvt z)) v → (execOp ρc o).run P w = .ok (.value (if ok then .tuple #[v, .bool r.isSome] else v)) w →
                      OpOk M μ st w ⟨bif ok then .tup [r.getD (cvt z), .sc (.bool r.isSome)] else r.getD (cvt z), [], [(l, false)], [findM s es = r]⟩ ((execOp ρc o).run P w) := fun v hv hrun => by
                    refine OpOk.val hst hrun ?_
                    cases ok with
                    | false => exact hv
                    | true =>
                      refine RepV.tup (us := [v, .bool r.isSome]) rfl fun j a u e1 e2 => ?_
                      match j with
                      | 0 => simp at e1 e2; subst e1; subst e2; exact hv
                      | 1 => simp at e1 e2; subst e1; subst e2; exact .sc
                      | j + 2 => simp at e1
                  have hrun0 : ∀ (r' : Option (Nat × Value)), Instr.findNow .string (.string s) ms.toList 0 = some r' →
                      (execOp ρc o).run P w = .ok (.value (if ok then .tuple #[(match r' with | some (_, v) => v | none => z), .bool r'.isSome] else (match r' with | some (_, v) => v | none => z))) w := fun r' hf => by
                    simp only [execOp, ho, hmv, hk.scv]
                    refine exec_v ?_
                    have hg : (getObj b).run P w = .ok (.map ms kk) w := by simp [getObj, Sem.run, h2]
                    have hfk : (Instr.findKey kt (.string s) ms.toList).run P w = .ok r' w := by simp [Instr.findKey, run_underlying hku, hf]
                    simp only [Instr.lookup, Sem.run_bind, run_underlying hu, Result.andThen_ok, hg, run_checkKey hku _ s w 9999, hfk, Sem.run_pure]
                    cases r' with
                    | none => simp [run_zeroValue w hi hz]
                    | some p => cases p; simp
                  rcases find_rep (M := M) s es ms.toList 0 (by simpa using h3) (fun j key a e => by obtain ⟨x, q1, q2, q3⟩ := h4 j key a e; exact ⟨x, by simpa using q1, q2, q3⟩) with ⟨q1, q2⟩ | ⟨j, a, e, q1, q2, q3, _, _, _⟩
                  · rw [q1] at hob
                    subst hob
                    exact hfin z (cvt_rep M μ z) (hrun0 none q2)
                  · rw [q1] at hob
                    subst hob
                    exact hfin e.val q3.data (hrun0 (some (0 + j, e.val)) q2)
                · cases h
              · cases h
            · cases h
          · cases h
        · cases h
      · cases h
    · cases h
  · cases h

/-- A map's entries are others. -/
theorem StoreOk.setMap (hst : StoreOk M μ st w) {l b : Nat} {es es' : List (ByteArray × AV)} {ms ms' : Array MapEntry} {k k' : Nat} (e1 : st[l]? = some (.map es)) (e2 : μ[l]? = some (Bd.at b)) (h2 : w.heap[b]? = some (.map ms k))
    (hm : ∀ x, M b x = none) (h3 : ms'.size = es'.length) (h4 : ∀ (j : Nat) (key : ByteArray) (a : AV), es'[j]? = some (key, a) → ∃ e, ms'[j]? = some e ∧ e.key = .string key ∧ RepV M [] a e.val) :
    StoreOk M μ (st.set l (.map es')) { w with heap := w.heap.setIfInBounds b (.map ms' k') } ∧ Stp M μ st w M μ (st.set l (.map es')) { w with heap := w.heap.setIfInBounds b (.map ms' k') } := by
  have hl : l < st.length := (List.getElem?_eq_some_iff.1 e1).1
  have hset : μ.set l (Bd.at b) = μ := by
    apply List.ext_getElem?
    intro j
    by_cases hj : j = l
    · subst hj; rw [List.getElem?_set_self (by rw [hst.len]; exact hl), e2]
    · rw [List.getElem?_set_ne (Ne.symm hj)]
  have hbs : b < w.heap.size := (Array.getElem?_eq_some_iff.1 h2).1
  have hother : ∀ b', b' ≠ b → (w.heap.setIfInBounds b (.map ms' k'))[b']? = w.heap[b']? := fun b' hb => Array.getElem?_setIfInBounds_ne (Ne.symm hb)
  have hup : StoreOk M (μ.set l (Bd.at b)) (st.set l (.map es')) { w with heap := w.heap.setIfInBounds b (.map ms' k') } := by
    refine hst.update hl (.refl M) (fun q e => by rw [e2] at e; cases e; exact .refl _) (fun b' _ ⟨j, y, q, hj, z1, hy, z2, z3⟩ => ?_) (fun j y q b' z1 hy z2 z3 => hst.lt z1 hy z2 z3) ?_ (fun e => by cases e) (fun b' e _ j y q hj z1 hy z2 z3 => ?_) (fun b' y u e => ?_)
    · exact ⟨hother b' (fun e => hst.apart l j _ y _ q b (Ne.symm hj) e1 z1 rfl hy e2 z2 rfl (e ▸ z3)), fun _ h => h⟩
    · exact ⟨b, ms', k', rfl, by simp [hbs], h3, h4, hm⟩
    · cases e
      exact hst.apart l j _ y _ q b (Ne.symm hj) e1 z1 rfl hy e2 z2 rfl z3
    · obtain ⟨m1, m2⟩ := hst.mem b' y u e
      refine ⟨?_, m2⟩
      have hne : b' ≠ b := fun e' => by subst e'; rw [hm y] at e; cases e
      simp only [World.cell?, hother b' hne] at m1 ⊢
      exact m1
  rw [hset] at hup
  refine ⟨hup, rfl, rfl, rfl, by simp, fun b' _ hown => hother b' (fun e => hown ⟨l, _, _, e1, rfl, e2, by rw [e]; rfl⟩), .refl M, fun b' y u e k => by simp [e] at k, fun b' ⟨j, y, q, z1, hy, z2, z3⟩ => .inr ?_⟩
  by_cases hj : j = l
  · subst hj; exact ⟨j, _, q, e1, rfl, z2, z3⟩
  · rw [List.getElem?_set_ne (Ne.symm hj)] at z1
    exact ⟨j, y, q, z1, hy, z2, z3⟩

def mapUpdateA (P : Program) (look : Nat → AObj) (en : Ent) (t : TypeId) (m k x : AV) : Option Res :=
  match P.underlying t with
  | some (.map kt _) => match P.underlying kt with
    | some .string => match m with
      | .mp l => match look l with
        | .map es => match k with
          | .sc (.string s) => match en with
            | .look none => bif dataB 6 x then some ⟨.sc undef, [(l, .map (es ++ [(s, x)]))], [(l, true)], [findM s es = none]⟩ else none
            | _ => none
          | _ => none
        | _ => none
      | _ => none
    | _ => none
  | _ => none

theorem ok_mapUpdate (hst : StoreOk M μ st w) (hρ : ∀ x, RepV M μ (ρ x) (ρc x)) {t : TypeId} {m k x : Operand} (ho : o.op = .mapUpdate t m k x) {res : Res}
    (h : mapUpdateA P (getO st) en t (ρ m) (ρ k) (ρ x) = some res) (hob : AllP res.ob) : OpOk M μ st w res ((execOp ρc o).run P w) := by
  have hm := hρ m
  have hk := hρ k
  have hx := hρ x
  unfold mapUpdateA at h
  split at h
  · rename_i kt et hu
    split at h
    · rename_i hku
      split at h
      · rename_i l em
        split at h
        · rename_i es hl
          split at h
          · rename_i s ek
            split at h
            · cases hd : dataB 6 (ρ x) with
              | false => rw [hd] at h; cases h
              | true =>
                rw [hd] at h
                cases h
                simp only [AllP, and_true] at hob
                rw [em] at hm
                rw [ek] at hk
                obtain ⟨b, ms, kk, hmv, h2, h3, h4, h5, h6, h7⟩ := obj_map hst hl hm
                have hf : Instr.findNow .string (.string s) ms.toList 0 = some none := by
                  rcases find_rep (M := M) s es ms.toList 0 (by simpa using h3) (fun j key a e => by obtain ⟨x, q1, q2, q3⟩ := h4 j key a e; exact ⟨x, by simpa using q1, q2, q3⟩) with ⟨_, q2⟩ | ⟨j, a, e, q1, _⟩
                  · exact q2
                  · rw [q1] at hob; cases hob
                have hg : (getObj b).run P w = .ok (.map ms kk) w := by simp [getObj, Sem.run, h2]
                have hfk : (Instr.findKey kt (.string s) ms.toList).run P w = .ok none w := by simp [Instr.findKey, run_underlying hku, hf]
                have hso : ∀ o', (setObj b o').run P w = .ok () { w with heap := w.heap.setIfInBounds b o' } := fun o' => by simp [setObj, Sem.run, h2]
                obtain ⟨u1, u2⟩ := hst.setMap (es' := es ++ [(s, ρ x)]) (ms' := ms.push { key := .string s, val := ρc x, born := kk }) (k' := kk + 1) h5 h6 h2 h7 (by simp [h3]) (fun j key a e => by
                  by_cases hj : j < es.length
                  · rw [List.getElem?_append_left hj] at e
                    obtain ⟨e', q1, q2, q3⟩ := h4 j key a e
                    exact ⟨e', by rw [Array.getElem?_push, if_neg (by omega)]; exact q1, q2, q3⟩
                  · rw [List.getElem?_append_right (by omega)] at e
                    have : j - es.length = 0 := by have := (List.getElem?_eq_some_iff.1 e).1; simp at this; omega
                    rw [this] at e
                    simp only [List.getElem?_cons_zero, Option.some.injEq, Prod.mk.injEq] at e
                    obtain ⟨rfl, rfl⟩ := e
                    exact ⟨_, by rw [Array.getElem?_push, if_pos (by omega)], rfl, hx.ofData 6 hd⟩)
                refine ⟨undef, _, M, μ, .inr ⟨?_, rfl⟩, u1, u2, .refl μ, .sc⟩
                simp only [execOp, ho, hmv, hk.scv]
                refine exec_u ?_
                simp only [Instr.mapUpdate, Sem.run_bind, run_underlying hu, Result.andThen_ok, hg, run_checkKey hku _ s w 9999, hfk, hso]
            · cases h
          · cases h
        · cases h
      · cases h
    · cases h
  · cases h

def clearA (P : Program) (look : Nat → AObj) (t : TypeId) (x : AV) : Option Res :=
  match P.underlying t with
  | some (.map ..) => match x with
    | .mp l => match look l with
      | .map _ => some ⟨.sc (.tuple #[]), [(l, .map [])], [(l, true)], []⟩
      | _ => none
    | _ => none
  | _ => none

theorem ok_clear (hst : StoreOk M μ st w) (hρ : ∀ x, RepV M μ (ρ x) (ρc x)) {t : TypeId} {x : Operand} (ho : o.op = .call { callee := .builtin .clear, args := #[x], argTypes := #[t] }) {res : Res}
    (h : clearA P (getO st) t (ρ x) = some res) : OpOk M μ st w res ((execOp ρc o).run P w) := by
  have hx := hρ x
  obtain ⟨cs, hex⟩ := exec_builtin (ρc := ρc) ho
  unfold clearA at h
  split at h
  · rename_i kt et hu
    split at h
    · rename_i l ex
      split at h
      · rename_i es hl
        cases h
        rw [ex] at hx
        obtain ⟨b, ms, kk, hmv, h2, h3, h4, h5, h6, h7⟩ := obj_map hst hl hx
        obtain ⟨u1, u2⟩ := hst.setMap (es' := []) (ms' := #[]) (k' := kk) h5 h6 h2 h7 rfl (by simp)
        have hg : (getObj b).run P w = .ok (.map ms kk) w := by simp [getObj, Sem.run, h2]
        have hso : ∀ o', (setObj b o').run P w = .ok () { w with heap := w.heap.setIfInBounds b o' } := fun o' => by simp [setObj, Sem.run, h2]
        refine ⟨.tuple #[], _, M, μ, .inl ?_, u1, u2, .refl μ, .sc⟩
        rw [hex]
        simp only [builtin]
        refine exec_v ?_
        have : #[x].map ρc = #[.map (some b)] := by simp [hmv]
        rw [this]
        simp [Builtin.clear_, run_underlying hu, hg, hso]
      · cases h
    · cases h
  · cases h

end
end Go.Ae

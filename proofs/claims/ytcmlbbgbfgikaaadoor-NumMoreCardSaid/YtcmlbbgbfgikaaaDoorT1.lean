/- The abstract executor, part 7: places, cuts, numbers, texts. .. (Ae7, Ae8, Ae9, Ae10, Ae11) -/
import Derived.Test.YtcmlbbgbfgikaaaDoorT0
import Derived.Laws.StructEq
import Derived.Laws.IdiomStrings
set_option linter.unusedSimpArgs false
set_option linter.unusedVariables false
/- The abstract executor, part 7: places, cuts, numbers, texts. -/
namespace Go.Ae
section
variable {P : Program} {M : Mem} {μ : List Bd} {st : List AObj} {w : World} {ρ : Operand → AV} {ρc : Operand → Value} {o : Oper} {en : Ent} {slot : Nat}

/-! ### nilCheck -/
def nilCheckA (look : Nat → AObj) (x : AV) : Option Res :=
  match x with
  | .lp .. => some ⟨x, [], [], []⟩
  | .ip cs _ => match cs with
    | [] => none
    | _ :: _ => some ⟨x, [], [], []⟩
  | .fn .. => some ⟨x, [], [], []⟩
  | .ifc .. => some ⟨x, [], [], []⟩
  | .le l g _ _ => match look l with
    | .arr c _ _ => bif Nat.beq g c then some ⟨x, [], [(l, false)], []⟩ else none
    | _ => none
  | _ => none

theorem RepV.leCur (hst : StoreOk M μ st w) {l g i off c sz : Nat} {rows : List (List AV)} {v : Value} (hl : getO st l = .arr c sz rows) (hg : Nat.beq g c = true) (h : RepV M μ (.le l g i off) v) :
    ∃ bd b, μ[l]? = some bd ∧ bd.g = g ∧ 0 < g ∧ bd.sz = sz ∧ bd.b = some b ∧ v = .pointer (some ⟨b, i * sz + off, none⟩) := by
  have := Nat.eq_of_beq_eq_true hg
  subst this
  obtain ⟨bd, e1, e2, q1, q2, q3, q4, q5⟩ := obj_arr hst hl
  cases h with
  | le k1 k2 k3 k4 k5 =>
    rw [e2] at k1
    cases k1
    obtain ⟨b, hb, rfl⟩ := k4 q2
    exact ⟨bd, b, e2, q2, k2, q3, hb, by rw [q3]⟩

theorem ok_nilCheck (hst : StoreOk M μ st w) (hρ : ∀ x, RepV M μ (ρ x) (ρc x)) {x : Operand} (ho : o.op = .nilCheck x) {res : Res} (h : nilCheckA (getO st) (ρ x) = some res) :
    OpOk M μ st w res ((execOp ρc o).run P w) := by
  have hx := hρ x
  have key : ∀ v, ρc x = v → (match v with | .pointer (some _) => True | .func (.func _) _ _ => True | .iface .. => True | _ => False) → (execOp ρc o).run P w = .ok (.value v) w := fun v e hv => by
    simp only [execOp, ho, e]
    split at hv <;> first | rfl | exact hv.elim
  generalize hax : ρ x = ax at h hx
  cases ax with
  | lp l off =>
    simp only [nilCheckA, Option.some.injEq] at h
    subst h
    refine OpOk.val hst (key _ rfl ?_) hx
    generalize ρc x = v at hx
    cases hx; trivial
  | ip cs off =>
    cases cs with
    | nil => simp [nilCheckA] at h
    | cons c cs =>
      simp only [nilCheckA, Option.some.injEq] at h
      subst h
      refine OpOk.val hst (key _ rfl ?_) hx
      generalize ρc x = v at hx
      cases hx; trivial
  | fn f cs =>
    simp only [nilCheckA, Option.some.injEq] at h
    subst h
    refine OpOk.val hst (key _ rfl ?_) hx
    generalize ρc x = v at hx
    cases hx; trivial
  | ifc t y =>
    simp only [nilCheckA, Option.some.injEq] at h
    subst h
    refine OpOk.val hst (key _ rfl ?_) hx
    generalize ρc x = v at hx
    cases hx; trivial
  | le l g i off =>
    simp only [nilCheckA] at h
    split at h
    · rename_i c sz rows hl
      cases hg : Nat.beq g c with
      | false => rw [hg] at h; cases h
      | true =>
        rw [hg] at h
        cases h
        obtain ⟨bd, b, k1, k2, k3, k4, k5, k6⟩ := hx.leCur hst hl hg
        exact OpOk.val hst (key _ rfl (by rw [k6]; trivial)) hx
    · cases h
  | _ => simp [nilCheckA] at h

/-! ### places -/
def fieldOff (P : Program) (s : TypeId) (f : Nat) : Option Nat :=
  match P.underlying s with
  | some (.struct fields) => match fields[f]? with
    | some fd => match szT P fd.type with
      | some n => bif Nat.ble 1 n then some fd.offset else none
      | none => none
    | none => none
  | _ => none

theorem run_fieldAt {s : TypeId} {f fo : Nat} (h : fieldOff P s f = some fo) (b o : Nat) (w : World) :
    (Instr.fieldAt s (.pointer (some ⟨b, o, none⟩)) f).run P w = .ok (.pointer (some ⟨b, o + fo, none⟩)) w := by
  unfold fieldOff at h
  split at h
  · rename_i fields hu
    split at h
    · rename_i fd hf
      split at h
      · rename_i n hn
        cases hb : Nat.ble 1 n with
        | false => rw [hb] at h; cases h
        | true =>
          rw [hb] at h
          cases h
          have hn1 : 1 ≤ n := Nat.le_of_ble_eq_true hb
          obtain ⟨i, hi, rfl⟩ := Option.map_eq_some_iff.1 hn
          simp only [Instr.fieldAt, Sem.run_bind, run_underlying hu, Result.andThen_ok, hf]
          simp only [Sem.run_bind, Instr.sureAddr, Sem.run_pure, Result.andThen_ok, fieldPlace, run_sizeOf w hi]
          rw [if_neg (by omega)]
          simp [addr_add]
      · cases h
    · cases h
  · cases h

def fieldAddrA (P : Program) (look : Nat → AObj) (s : TypeId) (x : AV) (f : Nat) : Option Res :=
  match fieldOff P s f with
  | some fo => match x with
    | .lp l o => some ⟨.lp l (o + fo), [], [], []⟩
    | .ip (c :: cs) o => some ⟨.ip (c :: cs) (o + fo), [], [], []⟩
    | .le l g i o => match look l with
      | .arr c _ _ => bif Nat.beq g c then some ⟨.le l g i (o + fo), [], [(l, false)], []⟩ else none
      | _ => none
    | _ => none
  | none => none

theorem ok_fieldAddr (hst : StoreOk M μ st w) (hρ : ∀ x, RepV M μ (ρ x) (ρc x)) {s : TypeId} {x : Operand} {f : Nat} (ho : o.op = .fieldAddr s x f) {res : Res}
    (h : fieldAddrA P (getO st) s (ρ x) f = some res) : OpOk M μ st w res ((execOp ρc o).run P w) := by
  have hx := hρ x
  unfold fieldAddrA at h
  split at h
  · rename_i fo hfo
    have key : ∀ b o', ρc x = .pointer (some ⟨b, o', none⟩) → (execOp ρc o).run P w = .ok (.value (.pointer (some ⟨b, o' + fo, none⟩))) w := fun b o' e => by
      simp only [execOp, ho, e]; exact exec_v (run_fieldAt hfo b o' w)
    split at h
    · rename_i l off e
      cases h
      rw [e] at hx
      generalize hv : ρc x = v at *
      cases hx with
      | lp e2 => exact OpOk.val hst (key _ _ rfl) (.lp e2)
    · rename_i c0 cs off e
      cases h
      rw [e] at hx
      generalize hv : ρc x = v at *
      cases hx with
      | ip fv hne hm hr => exact OpOk.val hst (key _ _ rfl) (by rw [Nat.add_assoc]; exact .ip fv hne hm hr)
    · rename_i l g i off e
      split at h
      · rename_i c sz rows hl
        cases hg : Nat.beq g c with
        | false => rw [hg] at h; cases h
        | true =>
          rw [hg] at h
          cases h
          rw [e] at hx
          obtain ⟨bd, b, k1, k2, k3, k4, k5, k6⟩ := hx.leCur hst hl hg
          exact OpOk.val hst (key _ _ k6) (.le k1 k3 (by omega) (fun _ => ⟨b, k5, by rw [k4, Nat.add_assoc]⟩) rfl)
      · cases h
    · cases h
  · cases h

def fieldA (P : Program) (s : TypeId) (x : AV) (f : Nat) : Option Res :=
  match P.underlying s with
  | some (.struct fields) => match fields[f]?, x with
    | some fd, .agg cs => (ldA P fd.type cs fd.offset).map fun r => ⟨r, [], [], []⟩
    | _, _ => none
  | _ => none

theorem run_part {t : TypeId} {cs : List AV} {off : Nat} {r : AV} {us : List Value} (h : ldA P t cs off = some r) (hl : us.length = cs.length)
    (hc : ∀ (j : Nat) (a : AV) (u : Value), cs[j]? = some a → us[j]? = some u → RepV M μ a u) (w : World) :
    ∃ v, (part t us.toArray off).run P w = .ok v w ∧ RepV M μ r v := by
  unfold ldA at h
  cases ha : aggT P t with
  | none => simp [ha] at h
  | some agg =>
    cases hs : szT P t with
    | none => cases agg <;> simp [ha, hs] at h
    | some n =>
      obtain ⟨i, hi, rfl⟩ := Option.map_eq_some_iff.1 hs
      cases agg with
      | false =>
        simp only [ha, hs] at h
        have hoff : off < us.length := by rw [hl]; exact (List.getElem?_eq_some_iff.1 h).1
        refine ⟨us[off], ?_, hc off r _ h (List.getElem?_eq_getElem hoff)⟩
        simp only [part, Sem.run_bind, run_isAgg w ha, Result.andThen_ok, Bool.false_eq_true, if_false]
        have : us.toArray[off]? = some us[off] := by simp [hoff]
        rw [this]; rfl
      | true =>
        simp only [ha, hs] at h
        cases hb : Nat.beq ((cs.drop off).take i.size).length i.size with
        | false => rw [hb] at h; cases h
        | true =>
          rw [hb] at h
          cases h
          refine ⟨.agg ((us.drop off).take i.size).toArray, ?_, .agg (by simp [hl]) fun j a u e1 e2 => ?_⟩
          · simp only [part, Sem.run_bind, run_isAgg w ha, Result.andThen_ok, if_true, run_sizeOf w hi, Sem.run_pure]
            congr 2
            apply Array.ext'
            simp
          · rw [List.getElem?_take] at e1 e2
            split at e1
            · rw [List.getElem?_drop] at e1 e2
              exact hc _ a u e1 (by simpa [*] using e2)
            · cases e1

theorem ok_field (hst : StoreOk M μ st w) (hρ : ∀ x, RepV M μ (ρ x) (ρc x)) {s : TypeId} {x : Operand} {f : Nat} (ho : o.op = .field s x f) {res : Res}
    (h : fieldA P s (ρ x) f = some res) : OpOk M μ st w res ((execOp ρc o).run P w) := by
  have hx := hρ x
  unfold fieldA at h
  split at h
  · rename_i fields hu
    split at h
    · rename_i fd cs hf e
      obtain ⟨r, hld, rfl⟩ := Option.map_eq_some_iff.1 h
      rw [e] at hx
      generalize hv : ρc x = v at *
      cases hx with
      | agg hl hr =>
        obtain ⟨u, h1, h2⟩ := run_part (P := P) hld hl hr w
        refine OpOk.val hst (v := u) ?_ h2
        simp only [execOp, ho, hv]
        exact exec_v (by simp [Instr.field, run_underlying hu, hf, asAgg, h1])
    · cases h
  · cases h

/-! ### elements -/
def indexAddrA (P : Program) (look : Nat → AObj) (en : Ent) (t : TypeId) (x ix : AV) : Option Res :=
  match P.underlying t with
  | some (.slice e) => match szT P e, ix with
    | some n, .sc (.int _ i) => match x with
      | .sl sz xs _ => match en with
        | .row k cs => bif Nat.beq n sz && Nat.ble 1 sz then some ⟨.ip cs 0, [], [], [i = (k : Int), xs[k]? = some cs]⟩ else none
        | _ => none
      | .la l g => match look l with
        | .arr c sz rows => match en with
          | .nat k => bif Nat.beq g c && Nat.beq n sz then some ⟨.le l g k 0, [], [(l, false)], [i = (k : Int), k < rows.length]⟩ else none
          | _ => none
        | _ => none
      | _ => none
    | _, _ => none
  | _ => none

theorem run_indexAt {t e : TypeId} {i : TypeInfo} (hu : P.underlying t = some (.slice e)) (hi : P.info? e = some i) {b o n c k : Nat} {kd : IntKind} (hk : k < n) (w : World) :
    (Instr.indexAt t (.slice (some ⟨b, o, none⟩) n c) (.int kd (k : Int))).run P w = .ok (.pointer (some ⟨b, o + k * i.size, none⟩)) w := by
  simp only [Instr.indexAt, Sem.run_bind, asIntOf, Sem.run_pure, Result.andThen_ok, run_underlying hu]
  rw [if_pos ⟨by omega, by omega⟩]
  simp [run_sizeOf w hi, addr_add]

theorem RepV.slc {M : Mem} {μ : List Bd} {sz : Nat} {xs : List (List AV)} {full : Bool} {v : Value} (h : RepV M μ (.sl sz xs full) v) : ∃ A c, v = .slice A xs.length c ∧ xs.length ≤ c ∧ (full = true → c = xs.length) := by
  cases h with
  | sl0 => exact ⟨_, _, rfl, Nat.zero_le _, by simp⟩
  | sl0f => exact ⟨_, _, rfl, Nat.zero_le _, by simp⟩
  | sl f hne hc hf => exact ⟨_, _, rfl, hc, hf⟩

theorem RepV.laCur (hst : StoreOk M μ st w) {l g c sz : Nat} {rows : List (List AV)} {v : Value} (hl : getO st l = .arr c sz rows) (hg : Nat.beq g c = true) (h : RepV M μ (.la l g) v) :
    ∃ bd, st[l]? = some (.arr g sz rows) ∧ μ[l]? = some bd ∧ bd.g = g ∧ 0 < g ∧ bd.sz = sz ∧ bd.k = rows.length ∧
      ((bd.b = none ∧ rows = [] ∧ bd.n = 0 ∧ ∃ A, v = .slice A 0 0) ∨
       ∃ b cc t, bd.b = some b ∧ v = .slice (some ⟨b, 0, none⟩) rows.length bd.n ∧ w.heap[b]? = some (.cells cc t (0, 0)) ∧ cc.size = bd.n * sz ∧ rows.length ≤ bd.n ∧ RowsIn M sz rows cc ∧ ∀ x, M b x = none) := by
  have := Nat.eq_of_beq_eq_true hg
  subst this
  obtain ⟨bd, e1, e2, q1, q2, q3, q4, q5⟩ := obj_arr hst hl
  cases h with
  | la k1 k2 k3 k4 k5 =>
    rw [e2] at k1
    cases k1
    have hv := k4 q2
    refine ⟨bd, e1, e2, q2, k2, q3, q4, ?_⟩
    unfold LaOk at hv
    cases hb : bd.b with
    | none => rw [hb] at hv q5; exact .inl ⟨rfl, q5.1, q5.2, hv⟩
    | some b =>
      rw [hb] at hv q5
      obtain ⟨cc, t, m1, m2, m3, m4, m5, m6⟩ := q5
      exact .inr ⟨b, cc, t, rfl, by rw [hv, q4], m1, m2, m3, ⟨m4, m5⟩, m6⟩

theorem ok_indexAddr (hst : StoreOk M μ st w) (hρ : ∀ x, RepV M μ (ρ x) (ρc x)) {t : TypeId} {x ix : Operand} (ho : o.op = .indexAddr t x ix) {res : Res}
    (h : indexAddrA P (getO st) en t (ρ x) (ρ ix) = some res) (hob : AllP res.ob) : OpOk M μ st w res ((execOp ρc o).run P w) := by
  have hx := hρ x
  have hix := hρ ix
  unfold indexAddrA at h
  split at h
  · rename_i e hu
    split at h
    · rename_i n kd i hn ei
      obtain ⟨ti, hti, rfl⟩ := Option.map_eq_some_iff.1 hn
      rw [ei] at hix
      have hiv := hix.scv
      split at h
      · rename_i sz xs full ex
        split at h
        · rename_i k cs
          cases hb : (Nat.beq ti.size sz && Nat.ble 1 sz) with
          | false => rw [hb] at h; cases h
          | true =>
            rw [hb] at h
            cases h
            simp only [Bool.and_eq_true] at hb
            have hsz := Nat.eq_of_beq_eq_true hb.1
            have hpos : 1 ≤ sz := Nat.le_of_ble_eq_true hb.2
            simp only [AllP, and_true] at hob
            obtain ⟨rfl, hget⟩ := hob
            rw [ex] at hx
            have hk : k < xs.length := (List.getElem?_eq_some_iff.1 hget).1
            generalize hxv : ρc x = v at *
            cases hx with
            | sl0 => simp at hk
            | sl0f => simp at hk
            | @sl _ _ _ _ b o' c f hne hc hf hz hm hr =>
              refine OpOk.val hst (v := .pointer (some ⟨b, o' + k * ti.size, none⟩)) ?_ ?_
              · simp only [execOp, ho, hxv, hiv]
                exact exec_v (run_indexAt hu hti hk w)
              · rw [hsz]
                exact .ip (b := b) (o := o' + k * sz) (off := 0) (f k) (by intro e; have := hz k cs hget; rw [e] at this; simp at this; omega) (fun j a e => hm k cs j a hget e) (fun j a e => hr k cs j a hget e)
        · cases h
      · rename_i l g ex
        split at h
        · rename_i c sz rows hl
          split at h
          · rename_i k
            cases hb : (Nat.beq g c && Nat.beq ti.size sz) with
            | false => rw [hb] at h; cases h
            | true =>
              rw [hb] at h
              cases h
              simp only [Bool.and_eq_true] at hb
              have hsz := Nat.eq_of_beq_eq_true hb.2
              simp only [AllP, and_true] at hob
              obtain ⟨rfl, hk⟩ := hob
              rw [ex] at hx
              obtain ⟨bd, e1, e2, e3, e4, e5, e6, h7⟩ := hx.laCur hst hl hb.1
              rcases h7 with ⟨_, rfl, _⟩ | ⟨b, cc, ty, k1, k2, _⟩
              · simp at hk
              · refine OpOk.val hst (v := .pointer (some ⟨b, 0 + k * ti.size, none⟩)) ?_ (.le e2 e4 (by omega) (fun _ => ⟨b, k1, by rw [e5, hsz, Nat.zero_add, Nat.add_zero]⟩) rfl)
                simp only [execOp, ho, k2, hiv]
                exact exec_v (run_indexAt hu hti hk w)
          · cases h
        · cases h
      · cases h
    · cases h
  · cases h

def indexA (P : Program) (en : Ent) (t : TypeId) (x ix : AV) : Option Res :=
  match P.underlying t with
  | some .string => match x, ix with
    | .sc (.string s), .sc (.int _ i) => match en with
      | .byte k c => some ⟨.sc (.int .u8 c.toNat), [], [], [i = (k : Int), s[k]? = some c]⟩
      | _ => none
    | _, _ => none
  | _ => none

theorem ok_index (hst : StoreOk M μ st w) (hρ : ∀ x, RepV M μ (ρ x) (ρc x)) {t : TypeId} {x ix : Operand} (ho : o.op = .index t x ix) {res : Res}
    (h : indexA P en t (ρ x) (ρ ix) = some res) (hob : AllP res.ob) : OpOk M μ st w res ((execOp ρc o).run P w) := by
  have hx := hρ x
  have hix := hρ ix
  unfold indexA at h
  split at h
  · rename_i hu
    split at h
    · rename_i s kd i ex ei
      split at h
      · rename_i k c
        cases h
        simp only [AllP, and_true] at hob
        obtain ⟨rfl, hget⟩ := hob
        rw [ex] at hx
        rw [ei] at hix
        refine OpOk.val hst (v := .int .u8 c.toNat) ?_ .sc
        simp only [execOp, ho, hx.scv, hix.scv]
        refine exec_v ?_
        simp only [Instr.index, Sem.run_bind, asIntOf, Sem.run_pure, Result.andThen_ok, run_underlying hu]
        rw [if_pos (by omega), Int.toNat_natCast, hget]
        rfl
      · cases h
    · cases h
  · cases h

/-! ### parts of tuples, interfaces, functions -/
def extractA (x : AV) (i : Nat) : Option Res :=
  match x with
  | .tup vs => (vs[i]?).map fun r => ⟨r, [], [], []⟩
  | _ => none

theorem ok_extract (hst : StoreOk M μ st w) (hρ : ∀ x, RepV M μ (ρ x) (ρc x)) {x : Operand} {i : Nat} (ho : o.op = .extract x i) {res : Res}
    (h : extractA (ρ x) i = some res) : OpOk M μ st w res ((execOp ρc o).run P w) := by
  have hx := hρ x
  unfold extractA at h
  split at h
  · rename_i vs e
    obtain ⟨r, hr, rfl⟩ := Option.map_eq_some_iff.1 h
    rw [e] at hx
    generalize hv : ρc x = v at *
    cases hx with
    | @tup _ _ us hl hrep =>
      have hi : i < us.length := by rw [hl]; exact (List.getElem?_eq_some_iff.1 hr).1
      refine OpOk.val hst (v := us[i]) ?_ (hrep i r _ hr (List.getElem?_eq_getElem hi))
      simp only [execOp, ho, hv]
      refine exec_v ?_
      have : us.toArray[i]? = some us[i] := by simp [hi]
      simp only [Instr.extract, this]; rfl
  · cases h

def ifcA (P : Program) (t : TypeId) (x : AV) : Option Res :=
  match P.underlying t with
  | some (.interface _) => none
  | some _ => some ⟨.ifc t x, [], [], []⟩
  | none => none

theorem ok_makeInterface (hst : StoreOk M μ st w) (hρ : ∀ x, RepV M μ (ρ x) (ρc x)) {t : TypeId} {x : Operand} (ho : o.op = .makeInterface t x) {res : Res}
    (h : ifcA P t (ρ x) = some res) : OpOk M μ st w res ((execOp ρc o).run P w) := by
  unfold ifcA at h
  split at h
  · cases h
  · rename_i d hne hu
    cases h
    refine OpOk.val hst (v := .iface t (ρc x)) ?_ (.ifc (hρ x))
    simp only [execOp, ho]
    refine exec_v ?_
    simp only [Instr.makeInterface, Sem.run_bind, run_underlying hu, Result.andThen_ok]
    cases d <;> first | rfl | exact absurd rfl (hne _)
  · cases h

def fnA (fn : Fn) (first : Array Operand) (caps : List AV) : Option Res :=
  match fn with
  | .func f => bif Nat.beq first.size 0 then some ⟨.fn f caps, [], [], []⟩ else none
  | _ => none

theorem ok_makeFunc (hst : StoreOk M μ st w) (hρ : ∀ x, RepV M μ (ρ x) (ρc x)) {fn : Fn} {first caps : Array Operand} (ho : o.op = .makeFunc fn first caps) {res : Res}
    (h : fnA fn first (caps.toList.map ρ) = some res) : OpOk M μ st w res ((execOp ρc o).run P w) := by
  unfold fnA at h
  split at h
  · rename_i f
    cases hb : Nat.beq first.size 0 with
    | false => rw [hb] at h; cases h
    | true =>
      rw [hb] at h
      cases h
      have h0 : first = #[] := Array.eq_empty_of_size_eq_zero (Nat.eq_of_beq_eq_true hb)
      subst h0
      refine OpOk.val hst (v := .func (.func f) #[] (caps.toList.map ρc).toArray) ?_ (.fn (by simp) fun j a u e1 e2 => ?_)
      · simp only [execOp, ho]
        refine exec_v ?_
        have : Array.map ρc caps = (List.map ρc caps.toList).toArray := by apply Array.ext'; simp
        simp [Instr.makeFunc, this]
      · rw [List.getElem?_map] at e1 e2
        obtain ⟨x, e3, rfl⟩ := Option.map_eq_some_iff.1 e1
        rw [e3] at e2
        cases e2
        exact hρ x
  · cases h

end
end Go.Ae

/- The abstract executor, part 8: numbers, texts, cuts, lengths, append, make. -/
namespace Go.Ae
section
variable {P : Program} {M : Mem} {μ : List Bd} {st : List AObj} {w : World} {ρ : Operand → AV} {ρc : Operand → Value} {o : Oper} {en : Ent} {slot : Nat}

/-! ### two operands -/
def intOpA (op : BinOp) (k : IntKind) (a b : Int) : Option Res :=
  match op with
  | .add => some ⟨.sc (.int k (k.wrap (a + b))), [], [], []⟩
  | .sub => some ⟨.sc (.int k (k.wrap (a - b))), [], [], []⟩
  | .mul => some ⟨.sc (.int k (k.wrap (a * b))), [], [], []⟩
  | .quo => some ⟨.sc (.int k (k.wrap (a.tdiv b))), [], [], [b ≠ 0]⟩
  | .rem => some ⟨.sc (.int k (a.tmod b)), [], [], [b ≠ 0]⟩
  | .eql => some ⟨.sc (.bool (a == b)), [], [], []⟩
  | .neq => some ⟨.sc (.bool (a != b)), [], [], []⟩
  | .lss => some ⟨.sc (.bool (decide (a < b))), [], [], []⟩
  | .leq => some ⟨.sc (.bool (decide (a ≤ b))), [], [], []⟩
  | .gtr => some ⟨.sc (.bool (decide (b < a))), [], [], []⟩
  | .geq => some ⟨.sc (.bool (decide (b ≤ a))), [], [], []⟩
  | _ => none

def strOpA (op : BinOp) (x y : ByteArray) : Option Res :=
  match op with
  | .add => some ⟨.sc (.string (x ++ y)), [], [], [x.size + y.size ≤ 9223372036854775807]⟩
  | .eql => some ⟨.sc (.bool (x.toList == y.toList)), [], [], []⟩
  | .neq => some ⟨.sc (.bool (!(x.toList == y.toList))), [], [], []⟩
  | _ => none

/-- Is this pointer nil? -/
def nilP : AV → Option Bool
  | .sc v => match v with
    | .pointer none => some true
    | _ => none
  | .lp .. => some false
  | .ip cs _ => match cs with
    | [] => some true
    | _ :: _ => some false
  | _ => none

theorem nilP_spec {M : Mem} {μ : List Bd} {a : AV} {v : Value} {b : Bool} (h : nilP a = some b) (hr : RepV M μ a v) : ∃ p : Option Addr, v = .pointer p ∧ p.isNone = b := by
  cases a with
  | sc u =>
    have := hr.scv
    subst this
    simp only [nilP] at h
    split at h
    · cases h; exact ⟨none, rfl, rfl⟩
    · cases h
  | lp l off => simp only [nilP, Option.some.injEq] at h; subst h; cases hr; exact ⟨_, rfl, rfl⟩
  | ip cs off =>
    cases cs with
    | nil =>
      simp only [nilP, Option.some.injEq] at h; subst h
      cases hr with
      | ip0 => exact ⟨_, rfl, rfl⟩
      | ip f hne => exact absurd rfl hne
    | cons c cs => simp only [nilP, Option.some.injEq] at h; subst h; cases hr; exact ⟨_, rfl, rfl⟩
  | _ => simp [nilP] at h

/-- Two pointers, one of them nil. -/
def ptrOpA (P : Program) (op : BinOp) (t : TypeId) (x y : AV) : Option Res :=
  match P.underlying t, nilP x, nilP y with
  | some (.pointer _), some a, some b =>
    bif a || b then (match op with
      | .eql => some ⟨.sc (.bool (a && b)), [], [], []⟩
      | .neq => some ⟨.sc (.bool (!(a && b))), [], [], []⟩
      | _ => none) else none
  | _, _, _ => none

def boolOpA (P : Program) (op : BinOp) (t : TypeId) (a b : Bool) : Option Res :=
  match P.underlying t with
  | some .bool => match op with
    | .eql => some ⟨.sc (.bool (a == b)), [], [], []⟩
    | .neq => some ⟨.sc (.bool (!(a == b))), [], [], []⟩
    | _ => none
  | _ => none

def scOpA (P : Program) (op : BinOp) (t : TypeId) (x y : AV) (u v : Value) : Option Res :=
  match u with
  | .int k a => match v with
    | .int k' b => bif decide (k = k') then intOpA op k a b else none
    | _ => none
  | .string a => match v with
    | .string b => strOpA op a b
    | _ => none
  | .bool a => match v with
    | .bool b => boolOpA P op t a b
    | _ => none
  | _ => ptrOpA P op t x y

/-- Two structs of numbers and texts. -/
def eqFs (P : Program) (xs ys : List AV) : List Field → Option Bool
  | [] => some true
  | f :: fs => bif f.name == "_" then none else match ldA P f.type xs f.offset, ldA P f.type ys f.offset with
    | some (.sc (.int k a)), some (.sc (.int k' b)) => match P.underlying f.type with
      | some (.int _) => bif decide (k = k') then (match eqFs P xs ys fs with
        | some r => some ((a == b) && r)
        | none => none) else none
      | _ => none
    | some (.sc (.string a)), some (.sc (.string b)) => match P.underlying f.type with
      | some .string => (match eqFs P xs ys fs with
        | some r => some ((a == b) && r)
        | none => none)
      | _ => none
    | _, _ => none

def structEqA (P : Program) (op : BinOp) (t : TypeId) (xs ys : List AV) : Option Res :=
  match P.underlying t with
  | some (.struct fs) => bif P.stoodInHeld t || P.eqGuardType P.depth t then none else match eqFs P xs ys fs.toList with
    | some b => match op with
      | .eql => some ⟨.sc (.bool b), [], [], []⟩
      | .neq => some ⟨.sc (.bool (!b)), [], [], []⟩
      | _ => none
    | none => none
  | _ => none

def binOpA (P : Program) (op : BinOp) (t : TypeId) (x y : AV) : Option Res :=
  match x with
  | .sc u => match y with
    | .sc v => scOpA P op t x y u v
    | _ => ptrOpA P op t x y
  | .agg xs => match y with
    | .agg ys => structEqA P op t xs ys
    | _ => none
  | _ => ptrOpA P op t x y

theorem run_eq_ptr {t e : TypeId} (hu : P.underlying t = some (.pointer e)) (p q : Option Addr) (h : (p.isNone || q.isNone) = true) (w : World) :
    (Op.equal t (.pointer p) (.pointer q)).run P w = .ok (p.isNone && q.isNone) w := by
  have key : ∀ d, (Op.equalIn (d + 1) t (.pointer p) (.pointer q)).run P w = .ok (p.isNone && q.isNone) w := fun d => by
    cases p <;> cases q <;> first | (simp at h; done) | simp [Op.equalIn, run_underlying hu]
  exact key 9999

theorem ok_ptr (hst : StoreOk M μ st w) {op : BinOp} {t : TypeId} {x y : Operand} {yt : TypeId} (hρ : ∀ x, RepV M μ (ρ x) (ρc x)) (ho : o.op = .binOp op t x y yt) {res : Res} (h : ptrOpA P op t (ρ x) (ρ y) = some res) :
    OpOk M μ st w res ((execOp ρc o).run P w) := by
  unfold ptrOpA at h
  split at h
  · rename_i e a b hu ha hb
    obtain ⟨p, hp, rfl⟩ := nilP_spec ha (hρ x)
    obtain ⟨q, hq, rfl⟩ := nilP_spec hb (hρ y)
    cases hab : (p.isNone || q.isNone) with
    | false => rw [hab] at h; cases h
    | true =>
      rw [hab] at h
      have hr := run_eq_ptr hu p q hab w
      simp only [cond_true] at h
      cases op with
      | eql =>
        cases h
        refine OpOk.val hst (v := .bool (p.isNone && q.isNone)) ?_ .sc
        simp only [execOp, ho, hp, hq]
        refine exec_v ?_
        simp only [eqGuard_at_pointer, pure_bind]
        simp only [binOp]
        simp [hr]
      | neq =>
        cases h
        refine OpOk.val hst (v := .bool (!(p.isNone && q.isNone))) ?_ .sc
        simp only [execOp, ho, hp, hq]
        refine exec_v ?_
        simp only [eqGuard_at_pointer, pure_bind]
        simp only [binOp]
        simp [hr]
      | _ => cases h
  · cases h

theorem run_eqFs {xs ys : List AV} {us vs : List Value} (hl : us.length = xs.length) (hr : ∀ (j : Nat) (a : AV) (u : Value), xs[j]? = some a → us[j]? = some u → RepV M μ a u)
    (hl2 : vs.length = ys.length) (hr2 : ∀ (j : Nat) (a : AV) (u : Value), ys[j]? = some a → vs[j]? = some u → RepV M μ a u) (d : Nat) (w : World) :
    ∀ (fs : List Field) (b : Bool), eqFs P xs ys fs = some b → (Op.eqFields (d + 1) us.toArray vs.toArray fs).run P w = .ok b w
  | [], b, h => by
    simp only [eqFs, Option.some.injEq] at h
    subst h
    simp [Op.eqFields]
  | f :: fs, b, h => by
    simp only [eqFs] at h
    cases hn : (f.name == "_") with
    | true => rw [hn] at h; cases h
    | false =>
      rw [hn] at h
      have hne : f.name ≠ "_" := by simpa using hn
      simp only [cond_false] at h
      split at h
      · rename_i k a k' c e1 e2
        obtain ⟨u1, p1, r1⟩ := run_part (P := P) e1 hl hr w
        obtain ⟨u2, p2, r2⟩ := run_part (P := P) e2 hl2 hr2 w
        have q1 := r1.scv
        have q2 := r2.scv
        subst q1; subst q2
        split at h
        · rename_i k0 hu
          by_cases hk : k = k'
          · subst hk
            simp only [decide_true, cond_true] at h
            split at h
            · rename_i r hr'
              cases h
              have ih := run_eqFs hl hr hl2 hr2 d w fs r hr'
              simp only [Op.eqFields, if_pos hne, Sem.run_bind, p1, p2, Result.andThen_ok, run_equalIn_int w d f.type k k0 a c hu]
              cases hac : (a == c) <;> simp [ih]
            · cases h
          · rw [decide_eq_false hk] at h; cases h
        · cases h
      · rename_i a c e1 e2
        obtain ⟨u1, p1, r1⟩ := run_part (P := P) e1 hl hr w
        obtain ⟨u2, p2, r2⟩ := run_part (P := P) e2 hl2 hr2 w
        have q1 := r1.scv
        have q2 := r2.scv
        subst q1; subst q2
        split at h
        · rename_i hu
          split at h
          · rename_i r hr'
            cases h
            have ih := run_eqFs hl hr hl2 hr2 d w fs r hr'
            simp only [Op.eqFields, if_pos hne, Sem.run_bind, p1, p2, Result.andThen_ok, run_equalIn_string w d f.type a c hu]
            rw [← beq_toListBytes]
            cases hac : (a == c) <;> simp [ih]
          · cases h
        · cases h
      · cases h

theorem ok_struct (hst : StoreOk M μ st w) {op : BinOp} {t : TypeId} {x y : Operand} {yt : TypeId} {xs ys : List AV} (hx : RepV M μ (.agg xs) (ρc x)) (hy : RepV M μ (.agg ys) (ρc y)) (ho : o.op = .binOp op t x y yt) {res : Res}
    (h : structEqA P op t xs ys = some res) : OpOk M μ st w res ((execOp ρc o).run P w) := by
  unfold structEqA at h
  split at h
  · rename_i fs hu
    cases hg : (P.stoodInHeld t || P.eqGuardType P.depth t) with
    | true => rw [hg] at h; cases h
    | false =>
      rw [hg] at h
      simp only [Bool.or_eq_false_iff] at hg
      simp only [cond_false] at h
      split at h
      · rename_i b hb
        generalize hvx : ρc x = v1 at hx
        generalize hvy : ρc y = v2 at hy
        cases hx with
        | @agg _ _ us hl hr =>
          cases hy with
          | @agg _ _ vs hl2 hr2 =>
            have hfo : P.fieldsOf t = fs := by unfold Program.fieldsOf; rw [hu]
            have hrun := run_equalIn_agg (P := P) w 9999 t us.toArray vs.toArray (by rw [hfo]; exact hu) hg.1
            rw [hfo, run_eqFs hl hr hl2 hr2 9998 w fs.toList b hb] at hrun
            cases op with
            | eql =>
              cases h
              refine OpOk.val hst (v := .bool b) ?_ .sc
              simp only [execOp, ho, hvx, hvy]
              refine exec_v ?_
              simp [run_eqGuard_agg w .eql t x y us.toArray vs.toArray hg.2, run_eql_struct w t us.toArray vs.toArray, hrun]
            | neq =>
              cases h
              refine OpOk.val hst (v := .bool (!b)) ?_ .sc
              simp only [execOp, ho, hvx, hvy]
              refine exec_v ?_
              simp [run_eqGuard_agg w .neq t x y us.toArray vs.toArray hg.2, run_neq_struct w t us.toArray vs.toArray, hrun]
            | _ => cases h
      · cases h
  · cases h

theorem ok_binOp (hst : StoreOk M μ st w) (hρ : ∀ x, RepV M μ (ρ x) (ρc x)) {op : BinOp} {t : TypeId} {x y : Operand} {yt : TypeId} (ho : o.op = .binOp op t x y yt) {res : Res}
    (h : binOpA P op t (ρ x) (ρ y) = some res) (hob : AllP res.ob) : OpOk M μ st w res ((execOp ρc o).run P w) := by
  have hx := hρ x
  have hy := hρ y
  have hptr := fun {res : Res} (h : ptrOpA P op t (ρ x) (ρ y) = some res) => ok_ptr (P := P) hst hρ ho h
  unfold binOpA at h
  split at h
  · rename_i u eu
    split at h
    · rename_i v ev
      unfold scOpA at h
      split at h
      · rename_i k a
        split at h
        · rename_i k' b
          by_cases hk : k = k'
          · subst hk
            simp only [decide_true, cond_true] at h
            rw [eu] at hx
            rw [ev] at hy
            have key : ∀ (v : Value), (binOp op t (.int k a) (.int k b)).run P w = .ok v w → (execOp ρc o).run P w = .ok (.value v) w := fun v hv => by
              simp only [execOp, ho, hx.scv, hy.scv, eqGuard_at_int]
              exact exec_v (by simpa using hv)
            cases op with
            | add => cases h; exact OpOk.val hst (key _ (by rw [binOp_add]; rfl)) .sc
            | sub => cases h; exact OpOk.val hst (key _ (by rw [binOp_sub]; rfl)) .sc
            | mul => cases h; exact OpOk.val hst (key _ (by rw [binOp_mul]; rfl)) .sc
            | quo =>
              cases h
              simp only [AllP, and_true] at hob
              exact OpOk.val hst (key _ (by rw [binOp_quo, Op.intDiv, if_neg hob]; rfl)) .sc
            | rem =>
              cases h
              simp only [AllP, and_true] at hob
              exact OpOk.val hst (key _ (by rw [binOp_rem, Op.intDiv, if_neg hob]; rfl)) .sc
            | eql => cases h; exact OpOk.val hst (key _ (by rw [binOp_eql]; rfl)) .sc
            | neq => cases h; exact OpOk.val hst (key _ (by rw [binOp_neq]; rfl)) .sc
            | lss => cases h; exact OpOk.val hst (key _ (by rw [binOp_lss]; rfl)) .sc
            | leq => cases h; exact OpOk.val hst (key _ (by rw [binOp_leq]; rfl)) .sc
            | gtr => cases h; exact OpOk.val hst (key _ (by rw [binOp_gtr]; rfl)) .sc
            | geq => cases h; exact OpOk.val hst (key _ (by rw [binOp_geq]; rfl)) .sc
            | _ => cases h
          · rw [decide_eq_false hk] at h; cases h
        · cases h
      · rename_i a
        split at h
        · rename_i b
          rw [eu] at hx
          rw [ev] at hy
          have key : ∀ (v : Value), (Op.stringOp op a b).run P w = .ok v w → (execOp ρc o).run P w = .ok (.value v) w := fun v hv => by
            simp only [execOp, ho, hx.scv, hy.scv, eqGuard_at_string]
            refine exec_v ?_
            have : binOp op t (.string a) (.string b) = Op.stringOp op a b := by cases op <;> rfl
            simpa [this] using hv
          cases op with
          | add =>
            cases h
            simp only [AllP, and_true] at hob
            refine OpOk.val hst (key _ ?_) .sc
            simp only [Op.stringOp]
            rw [if_neg (by rw [IntKind.max_i64]; omega)]
            rfl
          | eql => cases h; exact OpOk.val hst (key _ rfl) .sc
          | neq => cases h; exact OpOk.val hst (key _ rfl) .sc
          | _ => cases h
        · cases h
      · rename_i a
        split at h
        · rename_i b
          unfold boolOpA at h
          split at h
          · rename_i hu
            rw [eu] at hx
            rw [ev] at hy
            cases op with
            | eql =>
              cases h
              refine OpOk.val hst (v := .bool (a == b)) ?_ .sc
              simp only [execOp, ho, hx.scv, hy.scv, eqGuard_at_bool]
              exact exec_v (by simpa using run_eql_bool w t a b hu)
            | neq =>
              cases h
              refine OpOk.val hst (v := .bool (!(a == b))) ?_ .sc
              simp only [execOp, ho, hx.scv, hy.scv, eqGuard_at_bool]
              exact exec_v (by simpa using run_neq_bool w t a b hu)
            | _ => cases h
          · cases h
        · cases h
      · exact hptr h
    · exact hptr h
  · rename_i xs ex
    split at h
    · rename_i ys ey
      rw [ex] at hx
      rw [ey] at hy
      exact ok_struct hst hx hy ho h
    · cases h
  · exact hptr h

/-! ### interfaces, one of them nil -/
def cstB : Operand → Bool
  | .const _ => true
  | _ => false
def isNilI : AV → Option Bool
  | .sc v => match v with
    | .nilIface => some true
    | _ => none
  | .ifc .. => some false
  | _ => none
def ifcOpA (P : Program) (op : BinOp) (t : TypeId) (c : Bool) (x y : AV) : Option Res :=
  match P.underlying t with
  | some (.interface _) => bif c then (match isNilI x, isNilI y with
    | some a, some b => bif a || b then (match op with
      | .eql => some ⟨.sc (.bool (a && b)), [], [], []⟩
      | .neq => some ⟨.sc (.bool (!(a && b))), [], [], []⟩
      | _ => none) else none
    | _, _ => none) else none
  | _ => none
def binOpB (P : Program) (op : BinOp) (t : TypeId) (x y : Operand) (ρ : Operand → AV) : Option Res :=
  match ifcOpA P op t (cstB x || cstB y) (ρ x) (ρ y) with
  | some r => some r
  | none => binOpA P op t (ρ x) (ρ y)

theorem isNilI_spec {a : AV} {v : Value} {b : Bool} (h : isNilI a = some b) (hr : RepV M μ a v) : (b = true ∧ v = .nilIface) ∨ (b = false ∧ ∃ t u, v = .iface t u) := by
  cases a with
  | sc u =>
    have := hr.scv
    subst this
    simp only [isNilI] at h
    split at h
    · cases h; exact .inl ⟨rfl, rfl⟩
    · cases h
  | ifc t x =>
    simp only [isNilI, Option.some.injEq] at h
    subst h
    cases hr
    exact .inr ⟨rfl, _, _, rfl⟩
  | _ => simp [isNilI] at h

theorem ok_ifcOp (hst : StoreOk M μ st w) (hρ : ∀ x, RepV M μ (ρ x) (ρc x)) {op : BinOp} {t : TypeId} {x y : Operand} {yt : TypeId} (ho : o.op = .binOp op t x y yt) {res : Res}
    (h : ifcOpA P op t (cstB x || cstB y) (ρ x) (ρ y) = some res) : OpOk M μ st w res ((execOp ρc o).run P w) := by
  unfold ifcOpA at h
  split at h
  · rename_i ms hu
    cases hc : (cstB x || cstB y) with
    | false => rw [hc] at h; cases h
    | true =>
      rw [hc] at h
      simp only [cond_true] at h
      split at h
      · rename_i a b ha hb
        have hx := isNilI_spec ha (hρ x)
        have hy := isNilI_spec hb (hρ y)
        generalize hvx : ρc x = v1 at hx
        generalize hvy : ρc y = v2 at hy
        cases hab : (a || b) with
        | false => rw [hab] at h; cases h
        | true =>
          rw [hab] at h
          simp only [cond_true] at h
          have hguard : ∀ op, (eqGuard op t x y v1 v2).run P w = .ok () w := fun op => by
            rcases hx with ⟨_, rfl⟩ | ⟨_, t1, u1, rfl⟩ <;> rcases hy with ⟨_, rfl⟩ | ⟨_, t2, u2, rfl⟩
            · clear ha hb hvx hvy ho
              cases x <;> cases y <;> first | (simp [cstB] at hc; done) | (cases op <;> simp [eqGuard])
            · cases op <;> simp [eqGuard]
            · cases op <;> simp [eqGuard]
            · cases op <;> simp [eqGuard]
          have heq : (Op.equal t v1 v2).run P w = .ok (a && b) w := by
            have key : ∀ d, (Op.equalIn (d + 1) t v1 v2).run P w = .ok (a && b) w := fun d => by
              rcases hx with ⟨rfl, rfl⟩ | ⟨rfl, t1, u1, rfl⟩ <;> rcases hy with ⟨rfl, rfl⟩ | ⟨rfl, t2, u2, rfl⟩
              · simp [Op.equalIn, run_underlying hu]
              · simp [Op.equalIn, run_underlying hu]
              · simp [Op.equalIn, run_underlying hu]
              · simp at hab
            exact key 9999
          have hbin : ∀ (f : Bool → Bool) (opx : BinOp), (binOp opx t v1 v2 = do pure (.bool (f (← Op.equal t v1 v2)))) → (binOp opx t v1 v2).run P w = .ok (.bool (f (a && b))) w := fun f opx e => by
            rw [e]; simp [heq]
          cases op with
          | eql =>
            cases h
            refine OpOk.val hst (v := .bool (a && b)) ?_ .sc
            simp only [execOp, ho, hvx, hvy]
            refine exec_v ?_
            have := hbin id .eql (by rcases hx with ⟨_, rfl⟩ | ⟨_, t1, u1, rfl⟩ <;> rcases hy with ⟨_, rfl⟩ | ⟨_, t2, u2, rfl⟩ <;> rfl)
            simp only [Sem.run_bind, hguard, Result.andThen_ok, this, id]
          | neq =>
            cases h
            refine OpOk.val hst (v := .bool (!(a && b))) ?_ .sc
            simp only [execOp, ho, hvx, hvy]
            refine exec_v ?_
            have := hbin not .neq (by rcases hx with ⟨_, rfl⟩ | ⟨_, t1, u1, rfl⟩ <;> rcases hy with ⟨_, rfl⟩ | ⟨_, t2, u2, rfl⟩ <;> rfl)
            simp only [Sem.run_bind, hguard, Result.andThen_ok, this]
          | _ => cases h
      · cases h
  · cases h

theorem ok_binOpB (hst : StoreOk M μ st w) (hρ : ∀ x, RepV M μ (ρ x) (ρc x)) {op : BinOp} {t : TypeId} {x y : Operand} {yt : TypeId} (ho : o.op = .binOp op t x y yt) {res : Res}
    (h : binOpB P op t x y ρ = some res) (hob : AllP res.ob) : OpOk M μ st w res ((execOp ρc o).run P w) := by
  unfold binOpB at h
  split at h
  · rename_i r hr
    cases h
    exact ok_ifcOp hst hρ ho hr
  · exact ok_binOp hst hρ ho h hob

/-! ### one operand -/
def unOpA (op : UnOp) (x : AV) : Option Res :=
  match op with
  | .not => match x with
    | .sc (.bool b) => some ⟨.sc (.bool (!b)), [], [], []⟩
    | _ => none
  | .neg => match x with
    | .sc (.int k n) => some ⟨.sc (.int k (k.wrap (0 - n))), [], [], []⟩
    | _ => none
  | _ => none

theorem ok_unOp (hst : StoreOk M μ st w) (hρ : ∀ x, RepV M μ (ρ x) (ρc x)) {op : UnOp} {t : TypeId} {x : Operand} (ho : o.op = .unOp op t x) {res : Res}
    (h : unOpA op (ρ x) = some res) : OpOk M μ st w res ((execOp ρc o).run P w) := by
  have hx := hρ x
  unfold unOpA at h
  split at h
  · split at h
    · rename_i b e
      cases h
      rw [e] at hx
      refine OpOk.val hst (v := .bool (!b)) ?_ .sc
      simp only [execOp, ho, hx.scv]
      exact exec_v rfl
    · cases h
  · split at h
    · rename_i k n e
      cases h
      rw [e] at hx
      refine OpOk.val hst (v := .int k (k.wrap (0 - n))) ?_ .sc
      simp only [execOp, ho, hx.scv]
      exact exec_v rfl
    · cases h
  · cases h

/-- Bytes as rows. -/
def bytesL : List UInt8 → List (List AV)
  | [] => []
  | b :: l => [.sc (.int .u8 (b.toNat : Int))] :: bytesL l
theorem bytesL_eq : ∀ l : List UInt8, bytesL l = l.map fun b => [AV.sc (.int .u8 (b.toNat : Int))]
  | [] => rfl
  | b :: l => by rw [bytesL, bytesL_eq l]; rfl

def convertA (P : Program) (src dst : TypeId) (x : AV) : Option Res :=
  match P.underlying src, P.underlying dst with
  | some _, some (.int k) => match x with
    | .sc (.int _ n) => some ⟨.sc (.int k (k.wrap n)), [], [], []⟩
    | _ => none
  | some .string, some .string => match x with
    | .sc (.string s) => some ⟨.sc (.string s), [], [], []⟩
    | _ => none
  | some .string, some (.slice e) => match P.underlying e with
    | some (.int .u8) => match x with
      | .sc (.string s) => some ⟨.sl 1 (bytesL s.data.toList) false, [], [], []⟩
      | _ => none
    | _ => none
  | _, _ => none

theorem ok_convert (hst : StoreOk M μ st w) (hρ : ∀ x, RepV M μ (ρ x) (ρc x)) {src dst : TypeId} {x : Operand} (ho : o.op = .convert src dst x) {res : Res}
    (h : convertA P src dst (ρ x) = some res) : OpOk M μ st w res ((execOp ρc o).run P w) := by
  have hx := hρ x
  unfold convertA at h
  split at h
  · rename_i d k hs hd
    split at h
    · rename_i kk n e
      cases h
      rw [e] at hx
      refine OpOk.val hst (v := .int k (k.wrap n)) ?_ .sc
      simp only [execOp, ho, hx.scv]
      refine exec_v ?_
      simp [convert, run_underlying hs, run_underlying hd, Conv.intToInt]
    · cases h
  · rename_i hs hd
    split at h
    · rename_i s e
      cases h
      rw [e] at hx
      refine OpOk.val hst (v := .string s) ?_ .sc
      simp only [execOp, ho, hx.scv]
      refine exec_v ?_
      simp [convert, run_underlying hs, run_underlying hd]
    · cases h
  · rename_i e hs hd
    split at h
    · rename_i he
      split at h
      · rename_i s ex
        cases h
        rw [ex] at hx
        have hrun : (execOp ρc o).run P w = .ok (.value (.slice (some ⟨w.heap.size, 0, none⟩) s.size (grownCap w s.size 0 e)))
            ({ w with drawn := w.drawn + 1 }.alloc (.cells (bytesRow s (grownCap w s.size 0 e)) e ((bytesRow s (grownCap w s.size 0 e)).size, (bytesRow s (grownCap w s.size 0 e)).size + 1))) := by
          simp only [execOp, ho, hx.scv]
          exact exec_v (run_bytes_of_string (P := P) w src dst e s hs hd he)
        have hcap : s.size ≤ grownCap w s.size 0 e := by unfold grownCap; exact Nat.le_add_right _ _
        have hlen : (bytesL s.data.toList).length = s.size := by rw [bytesL_eq, List.length_map]; rfl
        refine OpOk.newRow hst ⟨fun i row e1 => ?_, fun i row j a e1 e2 => ?_⟩ hlen hcap (by simp) hrun
        · rw [bytesL_eq, List.getElem?_map] at e1
          obtain ⟨b, _, rfl⟩ := Option.map_eq_some_iff.1 e1
          rfl
        · rw [bytesL_eq, List.getElem?_map] at e1
          obtain ⟨b, hb, rfl⟩ := Option.map_eq_some_iff.1 e1
          cases j with
          | zero =>
            simp at e2
            subst e2
            refine ⟨.int .u8 b.toNat, ?_, rfl, .sc⟩
            have hb' : s.data[i]? = some b := by rw [← Array.getElem?_toList]; exact hb
            have hi : i < s.data.size := (Array.getElem?_eq_some_iff.1 hb').1
            unfold bytesRow
            rw [Nat.mul_one, Nat.add_zero, Array.getElem?_append_left (by simpa using hi), Array.getElem?_map, hb']
            rfl
          | succ j => simp at e2
      · cases h
    · cases h
  · cases h

/-! ### lengths -/
def lenA (P : Program) (look : Nat → AObj) (t : TypeId) (x : AV) : Option Res :=
  match P.underlying t with
  | some .string => match x with
    | .sc (.string s) => some ⟨.sc (.int .i64 (s.size : Int)), [], [], []⟩
    | _ => none
  | some (.slice _) => match x with
    | .nil => some ⟨.sc (.int .i64 0), [], [], []⟩
    | .sl _ xs _ => some ⟨.sc (.int .i64 (xs.length : Int)), [], [], []⟩
    | .la l g => match look l with
      | .arr c _ rows => bif Nat.beq g c then some ⟨.sc (.int .i64 (rows.length : Int)), [], [(l, false)], []⟩ else none
      | _ => none
    | _ => none
  | _ => none

theorem exec_builtin {b : Builtin} {args : Array Operand} {ts : Array TypeId} (ho : o.op = .call { callee := .builtin b, args := args, argTypes := ts }) :
    ∃ consts, execOp ρc o = builtin b ts o.type consts (args.map ρc) := ⟨_, by simp only [execOp, ho, resolve]; rfl⟩

theorem ok_len (hst : StoreOk M μ st w) (hρ : ∀ x, RepV M μ (ρ x) (ρc x)) {t : TypeId} {x : Operand} (ho : o.op = .call { callee := .builtin .len, args := #[x], argTypes := #[t] }) {res : Res}
    (h : lenA P (getO st) t (ρ x) = some res) : OpOk M μ st w res ((execOp ρc o).run P w) := by
  have hx := hρ x
  obtain ⟨cs, hex⟩ := exec_builtin (ρc := ρc) ho
  have key : ∀ v, (Builtin.len_ #[t] o.type #[ρc x]).run P w = .ok v w → (execOp ρc o).run P w = .ok (.value v) w := fun v hv => by
    rw [hex]; simp only [builtin]; exact exec_v (by simpa using hv)
  unfold lenA at h
  split at h
  · rename_i hu
    split at h
    · rename_i s e
      cases h
      rw [e] at hx
      exact OpOk.val hst (key _ (by rw [hx.scv]; simp [Builtin.len_, run_underlying hu, goInt])) .sc
    · cases h
  · rename_i el hu
    have hl : ∀ A n c, ρc x = .slice A n c → (Builtin.len_ #[t] o.type #[ρc x]).run P w = .ok (.int .i64 (n : Int)) w := fun A n c e => by
      rw [e]; simp [Builtin.len_, run_underlying hu, goInt]
    split at h
    · rename_i e
      cases h
      rw [e] at hx
      generalize hv : ρc x = v at *
      cases hx with
      | nil => exact OpOk.val hst (key _ (by have := hl _ _ _ rfl; simpa using this)) .sc
    · rename_i sz xs full e
      cases h
      rw [e] at hx
      obtain ⟨A, c, hv, _⟩ := hx.slc
      exact OpOk.val hst (key _ (hl _ _ _ hv)) .sc
    · rename_i l g e
      split at h
      · rename_i c sz rows hlk
        cases hg : Nat.beq g c with
        | false => rw [hg] at h; cases h
        | true =>
          rw [hg] at h
          cases h
          rw [e] at hx
          obtain ⟨bd, e1, e2, e3, e4, e5, e6, h7⟩ := hx.laCur hst hlk hg
          rcases h7 with ⟨_, rfl, _, A, hv⟩ | ⟨b, cc, ty, k1, hv, _⟩
          · exact OpOk.val hst (key _ (by have := hl _ _ _ hv; simpa using this)) .sc
          · exact OpOk.val hst (key _ (hl _ _ _ hv)) .sc
      · cases h
    · cases h
  · cases h

def maxA (x y : AV) : Option Res :=
  match x with
  | .sc (.int k a) => match y with
    | .sc (.int _ b) => some ⟨.sc (.int k (if b > a then b else a)), [], [], []⟩
    | _ => none
  | _ => none

theorem ok_max (hst : StoreOk M μ st w) (hρ : ∀ x, RepV M μ (ρ x) (ρc x)) {ts : Array TypeId} {x y : Operand} (ho : o.op = .call { callee := .builtin .max, args := #[x, y], argTypes := ts }) {res : Res}
    (h : maxA (ρ x) (ρ y) = some res) : OpOk M μ st w res ((execOp ρc o).run P w) := by
  have hx := hρ x
  have hy := hρ y
  obtain ⟨cs, hex⟩ := exec_builtin (ρc := ρc) ho
  unfold maxA at h
  split at h
  · rename_i k a ex
    split at h
    · rename_i k' b ey
      cases h
      rw [ex] at hx
      rw [ey] at hy
      refine OpOk.val hst (v := .int k (if b > a then b else a)) ?_ .sc
      rw [hex]
      simp only [builtin]
      refine exec_v ?_
      have : #[x, y].map ρc = #[.int k a, .int k' b] := by simp [hx.scv, hy.scv]
      rw [this]
      exact run_max_int2 w ts o.type k k' a b
    · cases h
  · cases h

def minA (x y : AV) : Option Res :=
  match x with
  | .sc (.int k a) => match y with
    | .sc (.int _ b) => some ⟨.sc (.int k (if b < a then b else a)), [], [], []⟩
    | _ => none
  | _ => none

theorem ok_min (hst : StoreOk M μ st w) (hρ : ∀ x, RepV M μ (ρ x) (ρc x)) {ts : Array TypeId} {x y : Operand} (ho : o.op = .call { callee := .builtin .min, args := #[x, y], argTypes := ts }) {res : Res}
    (h : minA (ρ x) (ρ y) = some res) : OpOk M μ st w res ((execOp ρc o).run P w) := by
  have hx := hρ x
  have hy := hρ y
  obtain ⟨cs, hex⟩ := exec_builtin (ρc := ρc) ho
  unfold minA at h
  split at h
  · rename_i k a ex
    split at h
    · rename_i k' b ey
      cases h
      rw [ex] at hx
      rw [ey] at hy
      refine OpOk.val hst (v := .int k (if b < a then b else a)) ?_ .sc
      rw [hex]
      simp only [builtin]
      refine exec_v ?_
      have : #[x, y].map ρc = #[.int k a, .int k' b] := by simp [hx.scv, hy.scv]
      rw [this]
      exact run_min_int2 w ts o.type k k' a b
    · cases h
  · cases h

end
end Go.Ae

/- The abstract executor, part 9: cuts, append, make. -/
namespace Go.Ae
section
variable {P : Program} {M : Mem} {μ : List Bd} {st : List AObj} {w : World} {ρ : Operand → AV} {ρc : Operand → Value} {o : Oper} {en : Ent} {slot : Nat}

/-! ### cuts -/
/-- A bound of a cut: not there; a number. -/
def bndA (ρ : Operand → AV) : Option Operand → Option (Option Int)
  | none => some none
  | some x => match ρ x with
    | .sc (.int _ n) => some (some n)
    | _ => none

theorem bndA_spec (hρ : ∀ x, RepV M μ (ρ x) (ρc x)) {x : Option Operand} {b : Option Int} (h : bndA ρ x = some b) :
    (x.map ρc = none ∧ b = none) ∨ ∃ k n, x.map ρc = some (.int k n) ∧ b = some n := by
  cases x with
  | none => simp only [bndA, Option.some.injEq] at h; exact .inl ⟨rfl, h.symm⟩
  | some x =>
    simp only [bndA] at h
    split at h
    · rename_i k n e
      cases h
      have := hρ x
      rw [e] at this
      exact .inr ⟨k, n, by simp [this.scv], rfl⟩
    · cases h

theorem run_bound {k : IntKind} {i : Int} {y : Nat} {code : BoundsCode} (h0 : 0 ≤ i) (h1 : i ≤ y) (w : World) : (Instr.sliceBound (.int k i) y code).run P w = .ok i.toNat w := by
  simp [Instr.sliceBound, asIntOf, h0, h1]

theorem run_bounds {isS : Bool} {len cap : Nat} {lo hi mx : Option Value} {l h m : Option Int}
    (hl : (lo = none ∧ l = none) ∨ ∃ k n, lo = some (.int k n) ∧ l = some n) (hh : (hi = none ∧ h = none) ∨ ∃ k n, hi = some (.int k n) ∧ h = some n)
    (hm : (mx = none ∧ m = none) ∨ ∃ k n, mx = some (.int k n) ∧ m = some n) (hmh : m = none ∨ (∃ n, h = some n ∧ m = some n))
    (h1 : 0 ≤ l.getD 0) (h2 : l.getD 0 ≤ h.getD len) (h3 : h.getD len ≤ cap) (w : World) :
    (Instr.sliceBounds isS len cap lo hi mx).run P w = .ok ((l.getD 0).toNat, (h.getD len).toNat, if m = none then cap else (h.getD len).toNat) w := by
  rcases hm with ⟨rfl, rfl⟩ | ⟨km, nm, rfl, rfl⟩
  · rcases hh with ⟨rfl, rfl⟩ | ⟨kh, nh, rfl, rfl⟩
    · rcases hl with ⟨rfl, rfl⟩ | ⟨kl, nl, rfl, rfl⟩
      · simp [Instr.sliceBounds]
      · simp only [Option.getD_some, Option.getD_none] at *
        simp [Instr.sliceBounds, run_bound (P := P) h1 h2 w]
    · rcases hl with ⟨rfl, rfl⟩ | ⟨kl, nl, rfl, rfl⟩
      · simp only [Option.getD_some, Option.getD_none] at *
        simp [Instr.sliceBounds, run_bound (P := P) (i := nh) (by omega) h3 w]
      · simp only [Option.getD_some] at *
        simp [Instr.sliceBounds, run_bound (P := P) (i := nh) (by omega) h3 w, run_bound (P := P) (y := nh.toNat) h1 (by omega) w]
  · rcases hmh with hmh | ⟨n, e1, e2⟩
    · cases hmh
    · cases e2
      subst e1
      rcases hh with ⟨_, e⟩ | ⟨kh, nh, rfl, e⟩
      · cases e
      · cases e
        rcases hl with ⟨rfl, rfl⟩ | ⟨kl, nl, rfl, rfl⟩
        · simp only [Option.getD_some, Option.getD_none] at *
          simp [Instr.sliceBounds, run_bound (P := P) (i := nm) (by omega) h3 w, run_bound (P := P) (i := nm) (y := nm.toNat) (by omega) (by omega) w]
        · simp only [Option.getD_some] at *
          simp [Instr.sliceBounds, run_bound (P := P) (i := nm) (by omega) h3 w, run_bound (P := P) (i := nm) (y := nm.toNat) (by omega) (by omega) w, run_bound (P := P) (y := nm.toNat) h1 (by omega) w]

def cutObs (l h : Int) (n : Nat) : List Prop := [0 ≤ l, l ≤ h, h ≤ (n : Int)]

def sliceA (P : Program) (look : Nat → AObj) (t : TypeId) (x : AV) (lo hi mx : Option (Option Int)) : Option Res :=
  match lo, hi, mx with
  | some l, some h, some m => match P.underlying t with
    | some .string => match x with
      | .sc (.string s) => match m with
        | none => some ⟨.sc (.string (s.extract (l.getD 0).toNat (h.getD s.size).toNat)), [], [], cutObs (l.getD 0) (h.getD s.size) s.size⟩
        | some _ => none
      | _ => none
    | some (.slice e) => match szT P e with
      | some n => match x with
        | .sl sz xs _ => bif Nat.beq n sz then (match m with
          | none => some ⟨.sl sz ((xs.take (h.getD xs.length).toNat).drop (l.getD 0).toNat) false, [], [], cutObs (l.getD 0) (h.getD xs.length) xs.length⟩
          | some mv => match h with
            | some hv => some ⟨.sl sz ((xs.take hv.toNat).drop (l.getD 0).toNat) true, [], [], cutObs (l.getD 0) hv xs.length ++ [mv = hv]⟩
            | none => none) else none
        | .la lb g => match look lb with
          | .arr c sz rows => match l, m, h with
            | none, none, some hv => bif Nat.beq g c && Nat.beq n sz then
                some ⟨.la lb (g + 1), [(lb, .arr (g + 1) sz (rows.take hv.toNat))], [(lb, true)], cutObs 0 hv rows.length⟩ else none
            | _, _, _ => none
          | _ => none
        | _ => none
      | none => none
    | _ => none
  | _, _, _ => none

theorem run_slice_sl {t e : TypeId} {i : TypeInfo} (hu : P.underlying t = some (.slice e)) (hinf : P.info? e = some i) {A : Option Addr} {len cap : Nat} {lo hi mx : Option Value} {L H Mx : Nat}
    (hb : (Instr.sliceBounds true len cap lo hi mx).run P w = .ok (L, H, Mx) w) :
    (Instr.sliceAt t (.slice A len cap) lo hi mx).run P w = .ok (.slice (if Mx = L then A else A.map (·.add (L * i.size))) (H - L) (Mx - L)) w := by
  simp only [Instr.sliceAt, Sem.run_bind, run_underlying hu, Result.andThen_ok, Instr.slice, hb, run_sizeOf w hinf, Sem.run_pure]

theorem ok_slice (hst : StoreOk M μ st w) (hρ : ∀ x, RepV M μ (ρ x) (ρc x)) {t : TypeId} {x : Operand} {lo hi mx : Option Operand} (ho : o.op = .slice t x lo hi mx) {res : Res}
    (h : sliceA P (getO st) t (ρ x) (bndA ρ lo) (bndA ρ hi) (bndA ρ mx) = some res) (hob : AllP res.ob) : OpOk M μ st w res ((execOp ρc o).run P w) := by
  have hx := hρ x
  have key : ∀ v, (Instr.sliceAt t (ρc x) (lo.map ρc) (hi.map ρc) (mx.map ρc)).run P w = .ok v w → (execOp ρc o).run P w = .ok (.value v) w := fun v hv => by
    simp only [execOp, ho]; exact exec_v hv
  unfold sliceA at h
  split at h
  · rename_i l hh m el eh em
    have bl := bndA_spec hρ el
    have bh := bndA_spec hρ eh
    have bm := bndA_spec hρ em
    split at h
    · rename_i hu
      split at h
      · rename_i s ex
        split at h
        · cases h
          simp only [AllP, cutObs, and_true] at hob
          obtain ⟨o1, o2, o3⟩ := hob
          rw [ex] at hx
          have hmx : mx.map ρc = none := by rcases bm with ⟨h, _⟩ | ⟨_, _, _, e⟩ <;> first | exact h | cases e
          have hb := run_bounds (P := P) (isS := false) (len := s.size) (cap := s.size) bl bh (.inl ⟨rfl, rfl⟩) (.inl rfl) o1 o2 o3 w
          refine OpOk.val hst (key _ ?_) .sc
          rw [hx.scv, hmx]
          simp only [Instr.sliceAt, Sem.run_bind, run_underlying hu, Result.andThen_ok, Instr.slice, Option.isSome_none, Bool.false_eq_true, if_false]
          simp [hb]
        · cases h
      · cases h
    · rename_i e hu
      split at h
      · rename_i n hn
        obtain ⟨ti, hti, rfl⟩ := Option.map_eq_some_iff.1 hn
        split at h
        · rename_i sz xs full ex
          cases hz : Nat.beq ti.size sz with
          | false => rw [hz] at h; cases h
          | true =>
            rw [hz] at h
            have hsz := Nat.eq_of_beq_eq_true hz
            simp only [cond_true] at h
            rw [ex] at hx
            -- what the cut slice stands for
            have cut : ∀ (L H Mx : Nat) (f : Bool), L ≤ H → H ≤ xs.length → (∀ A c, ρc x = .slice A xs.length c → H ≤ Mx) → (f = true → Mx = H) →
                ∀ A c, ρc x = .slice A xs.length c → RepV M μ (.sl sz ((xs.take H).drop L) f) (.slice (if Mx = L then A else A.map (·.add (L * ti.size))) (H - L) (Mx - L)) := by
              intro L H Mx f hLH hHx hHM hf A c hv
              have hlen : ((xs.take H).drop L).length = H - L := by simp; omega
              by_cases hne : (xs.take H).drop L = []
              · have h0 : H - L = 0 := by rw [← hlen, hne]; rfl
                rw [hne, h0]
                cases f with
                | false => exact .sl0
                | true =>
                  have := hf rfl
                  subst this
                  rw [h0]
                  exact .sl0f
              · have hpos : 0 < H - L := by rw [← hlen]; exact List.length_pos_iff.2 hne
                have hHM' := hHM A c hv
                rw [if_neg (by omega)]
                rw [hv] at hx
                cases hx with
                | sl0 => simp at hHx; omega
                | sl0f => simp at hHx; omega
                | @sl _ _ _ _ b o' _ fv hne' hc hf' hz' hm hr =>
                  rw [← hlen]
                  simp only [Option.map_some, addr_add, hsz]
                  have hget : ∀ (i : Nat) (row : List AV), ((xs.take H).drop L)[i]? = some row → xs[L + i]? = some row := fun i row e => by
                    rw [List.getElem?_drop, List.getElem?_take] at e
                    split at e
                    · exact e
                    · cases e
                  have hof : ∀ i j, o' + L * sz + i * sz + j = o' + (L + i) * sz + j := fun i j => by rw [Nat.add_mul]; omega
                  exact .sl (fun i j => fv (L + i) j) hne (by omega) (fun e => by rw [hlen, hf e]) (fun i row e => hz' _ row (hget i row e))
                    (fun i row j a e1 e2 => by rw [hof]; exact hm _ row j a (hget i row e1) e2) (fun i row j a e1 e2 => hr _ row j a (hget i row e1) e2)
            obtain ⟨A, c, hv, hc, _⟩ := hx.slc
            split at h
            · cases h
              simp only [AllP, cutObs, and_true] at hob
              obtain ⟨o1, o2, o3⟩ := hob
              have hmx : mx.map ρc = none := by rcases bm with ⟨h, _⟩ | ⟨_, _, _, e⟩ <;> first | exact h | cases e
              have hb := run_bounds (P := P) (isS := true) (len := xs.length) (cap := c) bl bh (.inl ⟨rfl, rfl⟩) (.inl rfl) o1 o2 (by omega) w
              simp only [if_true] at hb
              rw [← hmx] at hb
              have hrun := run_slice_sl hu hti (A := A) hb
              rw [← hv] at hrun
              exact OpOk.val hst (key _ hrun) (cut _ _ _ false (by omega) (by omega) (fun A' c' e => by rw [hv] at e; cases e; omega) (by simp) A c hv)
            · rename_i mv
              split at h
              · rename_i hv2
                cases h
                simp only [cutObs, List.cons_append, List.nil_append, AllP, and_true] at hob
                obtain ⟨o1, o2, o3, rfl⟩ := hob
                have hb := run_bounds (P := P) (isS := true) (len := xs.length) (cap := c) bl bh bm (.inr ⟨_, rfl, rfl⟩) o1 (by simpa using o2) (by simp only [Option.getD_some]; omega) w
                simp only [reduceCtorEq, if_false, Option.getD_some] at hb
                have hrun := run_slice_sl hu hti (A := A) hb
                rw [← hv] at hrun
                exact OpOk.val hst (key _ hrun) (cut _ _ _ true (by omega) (by omega) (fun A' c' e => Nat.le_refl _) (fun _ => rfl) A c hv)
              · cases h
        · rename_i lb g ex
          split at h
          · rename_i cg sz rows hlk
            split at h
            · rename_i hv2
              cases hz : (Nat.beq g cg && Nat.beq ti.size sz) with
              | false => rw [hz] at h; cases h
              | true =>
                rw [hz] at h
                cases h
                simp only [Bool.and_eq_true] at hz
                have hsz := Nat.eq_of_beq_eq_true hz.2
                simp only [AllP, cutObs, and_true] at hob
                obtain ⟨o1, o2, o3⟩ := hob
                rw [ex] at hx
                obtain ⟨bd, e1, e2, e3, e4, e5, e6, h7⟩ := hx.laCur hst hlk hz.1
                have hmx : mx.map ρc = none := by rcases bm with ⟨h, _⟩ | ⟨_, _, _, e⟩ <;> first | exact h | cases e
                have hlo : lo.map ρc = none := by rcases bl with ⟨h, _⟩ | ⟨_, _, _, e⟩ <;> first | exact h | cases e
                have hlt : lb < st.length := (List.getElem?_eq_some_iff.1 e1).1
                -- the object with the shorter content
                have upd : ∀ (bd' : Bd), bd'.b = bd.b → bd'.g = g + 1 → RepO M (μ.set lb bd') w (.arr (g + 1) sz (rows.take hv2.toNat)) bd' →
                    StoreOk M (μ.set lb bd') (st.set lb (.arr (g + 1) sz (rows.take hv2.toNat))) w ∧ Stp M μ st w M (μ.set lb bd') (st.set lb (.arr (g + 1) sz (rows.take hv2.toNat))) w ∧ EvoAll μ (μ.set lb bd') := by
                  intro bd' k1 k2 k3
                  have hev : ∀ p, μ[lb]? = some p → p.evo bd' := fun p e => by
                    rw [e2] at e; cases e
                    exact .inr (.inr ⟨by omega, by omega⟩)
                  refine ⟨hst.update hlt (.refl M) hev (fun b _ _ => ⟨rfl, fun _ h => h⟩) (fun i x p b z1 hx z2 z3 => hst.lt z1 hx z2 z3) k3 (fun e => by cases e) (fun b z _ i x p hi z1 hx z2 z3 => ?_) hst.mem, ?_, EvoAll.set hev⟩
                  · rw [k1] at z
                    exact hst.apart lb i _ x bd p b (Ne.symm hi) e1 z1 rfl hx e2 z2 z z3
                  · refine ⟨rfl, rfl, rfl, Nat.le_refl _, fun _ _ _ => rfl, .refl M, fun b o v e k => by simp [e] at k, fun b ⟨i, x, p, z1, hx, z2, z3⟩ => .inr ?_⟩
                    by_cases hi : i = lb
                    · subst hi
                      rw [List.getElem?_set_self (by rw [hst.len]; exact hlt)] at z2
                      cases z2
                      exact ⟨i, _, bd, e1, rfl, e2, by rw [← k1]; exact z3⟩
                    · rw [List.getElem?_set_ne (Ne.symm hi)] at z1 z2
                      exact ⟨i, x, p, z1, hx, z2, z3⟩
                rcases h7 with ⟨k0, rfl, k2, A, hv⟩ | ⟨b, cc, ty, k0, hv, k2, k3, k4, k5, k6⟩
                · have h0 : hv2.toNat = 0 := by simp at o3; omega
                  obtain ⟨u1, u2, u3⟩ := upd ⟨none, g + 1, 0, 0, sz⟩ k0.symm rfl ⟨by omega, rfl, rfl, by simp, by simp⟩
                  have hb := run_bounds (P := P) (isS := true) (len := 0) (cap := 0) bl bh (.inl ⟨rfl, rfl⟩) (.inl rfl) (by simp) (by simpa using o2) (by simpa using o3) w
                  rw [← hmx] at hb
                  have hrun := run_slice_sl hu hti (A := A) hb
                  rw [← hv] at hrun
                  refine ⟨_, w, M, _, .inl (key _ hrun), u1, u2, u3, .la (List.getElem?_set_self (by rw [hst.len]; exact hlt)) (by omega) (Nat.le_refl _) (fun _ => ?_) rfl⟩
                  simp only [Option.getD_some, h0, LaOk]
                  exact ⟨A, by simp⟩
                · have hle : hv2.toNat ≤ rows.length := by omega
                  obtain ⟨u1, u2, u3⟩ := upd ⟨some b, g + 1, bd.n, hv2.toNat, sz⟩ k0.symm rfl ⟨by omega, rfl, rfl, by simp; omega, cc, ty, k2, k3, by simp; omega,
                    fun i row e => k5.1 i row (by rw [List.getElem?_take] at e; split at e <;> first | exact e | cases e),
                    fun i row j a z1 z2 => k5.2 i row j a (by rw [List.getElem?_take] at z1; split at z1 <;> first | exact z1 | cases z1) z2, k6⟩
                  have hb := run_bounds (P := P) (isS := true) (len := rows.length) (cap := bd.n) bl bh (.inl ⟨rfl, rfl⟩) (.inl rfl) (by simp) (by simpa using o2) (by simp only [Option.getD_some]; omega) w
                  rw [← hmx] at hb
                  have hrun := run_slice_sl hu hti (A := some ⟨b, 0, none⟩) hb
                  rw [← hv] at hrun
                  refine ⟨_, w, M, _, .inl (key _ hrun), u1, u2, u3, .la (List.getElem?_set_self (by rw [hst.len]; exact hlt)) (by omega) (Nat.le_refl _) (fun _ => ?_) rfl⟩
                  simp [LaOk, addr_add]
            · cases h
          · cases h
        · cases h
      · cases h
    · cases h
  · cases h

end
end Go.Ae

/- The abstract executor, part 10: append and make. -/
namespace Go.Ae
section
variable {P : Program} {M : Mem} {μ : List Bd} {st : List AObj} {w : World} {ρ : Operand → AV} {ρc : Operand → Value} {o : Oper} {en : Ent} {slot : Nat}

/-- The model gives memory to a slice that grows to n elements. -/
def Fits (n k bytes : Nat) : Prop := ∀ cap, k ≤ cap → cap < n → Builtin.nextslicecap n cap * bytes ≤ 281474976710656

theorem growBy_le (n : Nat) : ∀ (r c : Nat), c ≤ n + (n + 768) / 4 → Builtin.growBy n r c ≤ n + (n + 768) / 4
  | 0, c, h => h
  | r + 1, c, h => by
    simp only [Builtin.growBy]
    split
    · exact h
    · exact growBy_le n r _ (by omega)

theorem next_le (n cap : Nat) (h : cap < n) : Builtin.nextslicecap n cap ≤ 2 * n := by
  unfold Builtin.nextslicecap
  split
  · omega
  · split
    · omega
    · have := growBy_le n 4 cap (by omega)
      omega

theorem Fits.of {n k bytes : Nat} (h : n * bytes ≤ 140737488355328) : Fits n k bytes := fun cap _ hc => by
  have h1 := next_le n cap hc
  calc Builtin.nextslicecap n cap * bytes ≤ 2 * n * bytes := Nat.mul_le_mul_right _ h1
    _ = 2 * (n * bytes) := by rw [Nat.mul_assoc]
    _ ≤ 281474976710656 := by omega

/-- The rows of a slice that is read. -/
def rowsA (look : Nat → AObj) (n : Nat) : AV → Option (List (List AV) × List (Nat × Bool))
  | .nil => some ([], [])
  | .sl sz ys _ => bif Nat.beq sz n then some (ys, []) else none
  | .la l g => match look l with
    | .arr c sz rows => bif Nat.beq g c && Nat.beq sz n then some (rows, [(l, false)]) else none
    | _ => none
  | .sc v => match v with
    | .string s => bif Nat.beq n 1 then some (bytesL s.data.toList, []) else none
    | _ => none
  | _ => none

theorem run_rows {n b o : Nat} (hn : 1 ≤ n) {ys : List (List AV)} (hz : ∀ (i : Nat) (row : List AV), ys[i]? = some row → row.length = n)
    (hc : ∀ (i : Nat) (row : List AV) (j : Nat) (a : AV), ys[i]? = some row → row[j]? = some a → ∃ v, w.cell? ⟨b, o + i * n + j, none⟩ = some v ∧ v.oneCell' = true ∧ RepV M [] a v) :
    ∃ arr, (∀ d, (loadCells ⟨b, o, none⟩ (ys.length * n)).run P { w with drawn := d } = .ok arr { w with drawn := d }) ∧ arr.size = ys.length * n ∧ RowsIn M n ys arr ∧ ∀ u ∈ arr.toList, u.oneCell' = true := by
  let f : Nat → Value := fun k => (w.cell? ⟨b, o + k, none⟩).getD undef
  have hk : ∀ k, k < ys.length * n → ∃ v, w.cell? ⟨b, o + k, none⟩ = some v ∧ v.oneCell' = true := fun k hk => by
    have hi : k / n < ys.length := Nat.div_lt_of_lt_mul (by rw [Nat.mul_comm]; exact hk)
    have hj : k % n < n := Nat.mod_lt _ hn
    have e1 := List.getElem?_eq_getElem hi
    have hl := hz _ _ e1
    have e2 := List.getElem?_eq_getElem (show k % n < (ys[k / n]).length by omega)
    obtain ⟨v, h1, h2, _⟩ := hc _ _ _ _ e1 e2
    refine ⟨v, ?_, h2⟩
    have : o + k / n * n + k % n = o + k := by
      have := Nat.div_add_mod k n
      rw [Nat.mul_comm] at this
      omega
    rwa [this] at h1
  have hf : ∀ k, k < ys.length * n → w.cell? ((⟨b, o, none⟩ : Addr).add k) = some (f k) := fun k h => by
    obtain ⟨v, h1, _⟩ := hk k h
    rw [addr_add, h1]; simp [f, h1]
  have hget : ∀ k, k < ys.length * n → (((List.range (ys.length * n)).map f).toArray)[k]? = some (f k) := fun k h => by
    simp [h]
  refine ⟨_, fun d => run_loadCells { w with drawn := d } _ _ f hf, by simp, ⟨hz, fun i row j a e1 e2 => ?_⟩, fun u hu => ?_⟩
  · obtain ⟨v, h1, h2, h3⟩ := hc i row j a e1 e2
    have hi : i < ys.length := (List.getElem?_eq_some_iff.1 e1).1
    have hj : j < n := by rw [← hz i row e1]; exact (List.getElem?_eq_some_iff.1 e2).1
    have hlt : i * n + j < ys.length * n := by
      have : i * n + n ≤ ys.length * n := by rw [← Nat.succ_mul]; exact Nat.mul_le_mul_right n hi
      omega
    refine ⟨v, ?_, h2, h3⟩
    rw [hget _ hlt]
    simp only [f]
    rw [← Nat.add_assoc, h1]; rfl
  · simp only [List.mem_map, List.mem_range] at hu
    obtain ⟨k, hk1, rfl⟩ := hu
    obtain ⟨v, h1, h2⟩ := hk k hk1
    simp only [f, h1, Option.getD_some]
    exact h2

theorem rowsA_spec (hst : StoreOk M μ st w) {n : Nat} (hn : 1 ≤ n) {y : AV} {ys : List (List AV)} {ac : List (Nat × Bool)} {v : Value} (h : rowsA (getO st) n y = some (ys, ac)) (hr : RepV M μ y v) :
    ∃ arr, (∀ w, (Builtin.lenOf v).run P w = .ok ys.length w) ∧ (∀ d, (Builtin.firstCells n ys.length v).run P { w with drawn := d } = .ok arr { w with drawn := d }) ∧ arr.size = ys.length * n ∧ RowsIn M n ys arr ∧ ∀ u ∈ arr.toList, u.oneCell' = true := by
  have hemp : ∀ A c (w : World), (Builtin.firstCells n 0 (.slice A 0 c)).run P w = .ok #[] w := fun A c w => by
    cases A <;> simp [Builtin.firstCells, loadCells, loadCellsFrom]
  have hnil : ∀ A c, v = .slice A 0 c → ys = [] → ∃ arr, (∀ w, (Builtin.lenOf v).run P w = .ok ys.length w) ∧ (∀ d, (Builtin.firstCells n ys.length v).run P { w with drawn := d } = .ok arr { w with drawn := d }) ∧ arr.size = ys.length * n ∧ RowsIn M n ys arr ∧ ∀ u ∈ arr.toList, u.oneCell' = true := fun A c e e2 => by
    subst e2
    exact ⟨#[], fun w => by rw [e]; rfl, fun d => by rw [e]; exact hemp A c _, by simp, ⟨by simp, by simp⟩, by simp⟩
  cases y with
  | nil =>
    simp only [rowsA, Option.some.injEq, Prod.mk.injEq] at h
    cases hr
    exact hnil _ _ rfl h.1.symm
  | sl sz xs f =>
    simp only [rowsA] at h
    cases hb : Nat.beq sz n with
    | false => rw [hb] at h; cases h
    | true =>
      rw [hb] at h
      cases h
      have := Nat.eq_of_beq_eq_true hb
      subst this
      cases hr with
      | sl0 => exact hnil _ _ rfl rfl
      | sl0f => exact hnil _ _ rfl rfl
      | @sl _ _ _ _ b o c fv hne hc hf hz hm hrep =>
        obtain ⟨arr, h1, h2, h3, h4⟩ := run_rows (P := P) (w := w) (M := M) (b := b) (o := o) hn hz (fun i row j a e1 e2 => by
          obtain ⟨z1, z2⟩ := hst.mem _ _ _ (hm i row j a e1 e2)
          exact ⟨_, z1, z2, hrep i row j a e1 e2⟩)
        exact ⟨arr, fun w => rfl, fun d => by simpa [Builtin.firstCells] using h1 d, h2, h3, h4⟩
  | la l g =>
    simp only [rowsA] at h
    split at h
    · rename_i c sz rows hl
      cases hb : (Nat.beq g c && Nat.beq sz n) with
      | false => rw [hb] at h; cases h
      | true =>
        rw [hb] at h
        cases h
        simp only [Bool.and_eq_true] at hb
        have := Nat.eq_of_beq_eq_true hb.2
        subst this
        obtain ⟨bd, e1, e2, e3, e4, e5, e6, h7⟩ := hr.laCur hst hl hb.1
        rcases h7 with ⟨_, rfl, _, A, hv⟩ | ⟨b, cc, ty, k1, hv, k2, k3, k4, k5, k6⟩
        · exact hnil _ _ hv rfl
        · obtain ⟨arr, h1, h2, h3, h4⟩ := run_rows (P := P) (w := w) (M := M) (b := b) (o := 0) hn k5.1 (fun i row j a e1 e2 => by
            obtain ⟨v, z1, z2, z3⟩ := k5.2 i row j a e1 e2
            exact ⟨v, by rw [cell_of_heap k2, Nat.zero_add]; exact z1, z2, z3⟩)
          exact ⟨arr, fun w => by rw [hv]; rfl, fun d => by rw [hv]; simpa [Builtin.firstCells] using h1 d, h2, h3, h4⟩
    · cases h
  | sc u =>
    simp only [rowsA] at h
    split at h
    · rename_i s
      cases hb : Nat.beq n 1 with
      | false => rw [hb] at h; cases h
      | true =>
        rw [hb] at h
        cases h
        have := Nat.eq_of_beq_eq_true hb
        subst this
        have hv := hr.scv
        subst hv
        have hlen : (bytesL s.data.toList).length = s.size := by rw [bytesL_eq, List.length_map]; rfl
        have hs : s.data.size = s.size := rfl
        refine ⟨s.data.map fun b => Value.int .u8 b.toNat, fun w => by rw [hlen]; rfl, fun d => ?_, by rw [Array.size_map, hlen, hs, Nat.mul_one], ⟨fun i row e1 => ?_, fun i row j a e1 e2 => ?_⟩, fun u hu => ?_⟩
        · have hx : (s.extract 0 s.size) = s := by simp
          rw [hlen]
          simp only [Builtin.firstCells, hx]
          rfl
        · rw [bytesL_eq, List.getElem?_map] at e1
          obtain ⟨b, _, rfl⟩ := Option.map_eq_some_iff.1 e1
          rfl
        · rw [bytesL_eq, List.getElem?_map] at e1
          obtain ⟨b, hb, rfl⟩ := Option.map_eq_some_iff.1 e1
          cases j with
          | zero =>
            simp at e2
            subst e2
            refine ⟨.int .u8 b.toNat, ?_, rfl, .sc⟩
            have hb' : s.data[i]? = some b := by rw [← Array.getElem?_toList]; exact hb
            rw [Nat.mul_one, Nat.add_zero, Array.getElem?_map, hb']
            rfl
          | succ j => simp at e2
        · rw [Array.toList_map, List.mem_map] at hu
          obtain ⟨b, _, rfl⟩ := hu
          rfl
    · cases h
  | _ => simp [rowsA] at h

theorem RowsIn.app {n : Nat} {xs ys : List (List AV)} {c1 c2 c3 : Array Value} (h1 : RowsIn M n xs c1) (h2 : RowsIn M n ys c2) (hl : c1.size = xs.length * n) (_hl2 : c2.size = ys.length * n) :
    RowsIn M n (xs ++ ys) (c1 ++ c2 ++ c3) := by
  have hget : ∀ (i : Nat) (row : List AV), (xs ++ ys)[i]? = some row → (i < xs.length ∧ xs[i]? = some row) ∨ (xs.length ≤ i ∧ ys[i - xs.length]? = some row) := fun i row e => by
    by_cases hi : i < xs.length
    · rw [List.getElem?_append_left hi] at e; exact .inl ⟨hi, e⟩
    · rw [List.getElem?_append_right (by omega)] at e; exact .inr ⟨by omega, e⟩
  refine ⟨fun i row e => ?_, fun i row j a e1 e2 => ?_⟩
  · rcases hget i row e with ⟨_, e⟩ | ⟨_, e⟩
    · exact h1.1 i row e
    · exact h2.1 _ row e
  · rcases hget i row e1 with ⟨hi, e⟩ | ⟨hi, e⟩
    · obtain ⟨v, z1, z2, z3⟩ := h1.2 i row j a e e2
      have : i * n + j < c1.size := (Array.getElem?_eq_some_iff.1 z1).1
      refine ⟨v, ?_, z2, z3⟩
      rw [Array.append_assoc, Array.getElem?_append_left this]
      exact z1
    · obtain ⟨v, z1, z2, z3⟩ := h2.2 _ row j a e e2
      have hlt : (i - xs.length) * n + j < c2.size := (Array.getElem?_eq_some_iff.1 z1).1
      have hidx : i * n + j = c1.size + ((i - xs.length) * n + j) := by
        rw [hl]
        have : i * n = xs.length * n + (i - xs.length) * n := by rw [← Nat.add_mul]; congr 1; omega
        omega
      refine ⟨v, ?_, z2, z3⟩
      rw [Array.append_assoc, hidx, Array.getElem?_append_right (by omega), Nat.add_sub_cancel_left, Array.getElem?_append_left hlt]
      exact z1

theorem zeroCells_size (zero : Array Value) (n : Nat) : (Builtin.zeroCells zero n).size = n * zero.size := by simp [Builtin.zeroCells]

/-- What is appended is a slice or a text. -/
def okT2 (P : Program) (t2 : TypeId) : Bool :=
  match P.underlying t2 with
  | some (.slice _) => true
  | some .string => true
  | _ => false

/-- append, told what its two operands hold. -/
theorem run_append {t t2 e : TypeId} {i : TypeInfo} {z : Value} {ty : TypeId} (ht : P.underlying t = some (.slice e)) (ht2' : okT2 P t2 = true) (hi : P.info? e = some i) (hz : i.zero = some z)
    (hb : 1 ≤ i.bytes) {base : Option Addr} {k cap m : Nat} {y : Value} (hlen' : ∀ w, (Builtin.lenOf y).run P w = .ok m w) {new : Array Value} (hnew' : ∀ d, (Builtin.firstCells i.size m y).run P { w with drawn := d } = .ok new { w with drawn := d }) :
    (k + m ≤ cap → ∀ w', (∀ a, base = some a → (storeCells (a.add (k * i.size)) new.toList).run P w = .ok () w') → (base = none → w' = w) →
      (Builtin.append_ #[t, t2] ty #[.slice base k cap, y]).run P w = .ok (.slice base (k + m) cap) w') ∧
    (cap < k + m → k ≤ cap → Fits (k + m) k i.bytes → ∀ old, (∀ d, (Builtin.firstCells i.size k (.slice base k cap)).run P { w with drawn := d } = .ok old { w with drawn := d }) →
      ∃ c, k + m ≤ c ∧ (Builtin.append_ #[t, t2] ty #[.slice base k cap, y]).run P w =
        .ok (.slice (some ⟨w.heap.size, 0, none⟩) (k + m) c) ({ w with drawn := w.drawn + 1 }.alloc (.cells (old ++ new ++ Builtin.zeroCells z.cells (c - (k + m))) e))) := by
  have hlen : (Builtin.lenOf y).run P w = .ok m w := hlen' w
  obtain ⟨dt, ht2, hdt⟩ : ∃ dt, P.underlying t2 = some dt ∧ ((∃ e2, dt = .slice e2) ∨ dt = .string) := by
    unfold okT2 at ht2'
    split at ht2'
    · rename_i e2 h2; exact ⟨_, h2, .inl ⟨e2, rfl⟩⟩
    · rename_i h2; exact ⟨_, h2, .inr rfl⟩
    · cases ht2'
  have hnew : (Builtin.firstCells i.size m y).run P w = .ok new w := hnew' w.drawn
  refine ⟨fun hc w' hw1 hw2 => ?_, fun hc hkc hfit old hold' => ?_⟩
  · cases base with
    | none =>
      rw [hw2 rfl]
      rcases hdt with ⟨e2, rfl⟩ | rfl <;> simp [Builtin.append_, run_underlying ht, run_underlying ht2, run_sizeOf w hi, hlen, hnew, hc]
    | some a =>
      have := hw1 a rfl
      rcases hdt with ⟨e2, rfl⟩ | rfl <;> simp [Builtin.append_, run_underlying ht, run_underlying ht2, run_sizeOf w hi, hlen, hnew, hc, this]
  · have hn : Builtin.nextslicecap (k + m) cap * i.bytes ≤ 281474976710656 := hfit cap hkc hc
    let c := (Question.appendCap (k + m) cap e).cut (w.tape w.drawn (.appendCap (k + m) cap e))
    have hck : k + m ≤ c := Nat.le_add_right _ _
    refine ⟨c, hck, ?_⟩
    have hnc : ¬ (k + m ≤ cap) := by omega
    have hb0 : ¬ (i.bytes = 0) := by omega
    have hbig : ¬ (281474976710656 < Builtin.nextslicecap (k + m) cap * i.bytes) := by omega
    have hfo : (Question.appendCap (k + m) cap e).forced = false := rfl
    have ho1 : (Builtin.firstCells i.size k (.slice base k cap)).run P w.drew = .ok old w.drew := hold' _
    have hn1 : (Builtin.firstCells i.size m y).run P w.drew = .ok new w.drew := hnew' _
    rcases hdt with ⟨e2, rfl⟩ | rfl <;> simp [Builtin.append_, run_underlying ht, run_underlying ht2, run_sizeOf w hi, hlen, hnc, run_typeInfo w hi, hb0, hbig, hfo, ho1, hn1, run_typeInfo w.drew hi, run_zeroValue w.drew hi hz, newRow, c]

/-- append: of a slice without room or without elements (a new slice); of a row of the call's own. -/
def appendA (P : Program) (slot : Nat) (look : Nat → AObj) (en : Ent) (t t2 : TypeId) (x y : AV) : Option Res :=
  match P.underlying t, okT2 P t2 with
  | some (.slice e), true => match P.info? e with
    | some i => match i.zero with
      | some z => bif Nat.ble 1 i.size && Nat.ble 1 i.bytes && Nat.beq z.cells.size i.size then (match rowsA look i.size y with
        | some (ys, ac) => match x with
          | .nil => match en with
            | .loc => some ⟨.la slot 1, [(slot, .arr 1 i.size ys)], (slot, true) :: ac, [Fits (0 + ys.length) 0 i.bytes]⟩
            | _ => some ⟨.sl i.size ys false, [], ac, [Fits (0 + ys.length) 0 i.bytes]⟩
          | .sl sz xs f => match f with
            | true => bif Nat.beq sz i.size then (match en with
              | .loc => match xs with
                | [] => some ⟨.la slot 1, [(slot, .arr 1 i.size ys)], (slot, true) :: ac, [Fits (0 + ys.length) 0 i.bytes]⟩
                | _ :: _ => match ys with
                  | [] => none
                  | _ :: _ => some ⟨.la slot 1, [(slot, .arr 1 i.size (xs ++ ys))], (slot, true) :: ac, [Fits (xs.length + ys.length) xs.length i.bytes]⟩
              | _ => some ⟨.sl sz (xs ++ ys) false, [], ac, [Fits (xs.length + ys.length) xs.length i.bytes]⟩) else none
            | false => none
          | .la l g => match look l with
            | .arr c sz rows => bif Nat.beq g c && Nat.beq sz i.size then
                some ⟨.la l (g + 1), [(l, .arr (g + 1) sz (rows ++ ys))], (l, true) :: ac, [Fits (rows.length + ys.length) rows.length i.bytes]⟩ else none
            | _ => none
          | _ => none
        | none => none) else none
      | none => none
    | none => none
  | _, _ => none

theorem ok_append (hst : StoreOk M μ st w) (hs : st[slot]? = some .gone) (hρ : ∀ x, RepV M μ (ρ x) (ρc x)) {t t2 : TypeId} {x y : Operand} (ho : o.op = .call { callee := .builtin .append, args := #[x, y], argTypes := #[t, t2] }) {res : Res}
    (h : appendA P slot (getO st) en t t2 (ρ x) (ρ y) = some res) (hob : AllP res.ob) : OpOk M μ st w res ((execOp ρc o).run P w) := by
  have hx := hρ x
  have hy := hρ y
  obtain ⟨cns, hex⟩ := exec_builtin (ρc := ρc) ho
  have key : ∀ v w', (Builtin.append_ #[t, t2] o.type #[ρc x, ρc y]).run P w = .ok v w' → (execOp ρc o).run P w = .ok (.value v) w' := fun v w' hv => by
    rw [hex]; simp only [builtin]; exact exec_v (by simpa using hv)
  unfold appendA at h
  split at h
  · rename_i e hu hu2
    split at h
    · rename_i i hi
      split at h
      · rename_i z hz
        cases hb : (Nat.ble 1 i.size && Nat.ble 1 i.bytes && Nat.beq z.cells.size i.size) with
        | false => rw [hb] at h; cases h
        | true =>
          rw [hb] at h
          simp only [cond_true] at h
          simp only [Bool.and_eq_true] at hb
          have hs1 : 1 ≤ i.size := Nat.le_of_ble_eq_true hb.1.1
          have hb1 : 1 ≤ i.bytes := Nat.le_of_ble_eq_true hb.1.2
          have hz1 : z.cells.size = i.size := Nat.eq_of_beq_eq_true hb.2
          split at h
          · rename_i ys ac hrows
            obtain ⟨new, hyv, hnew, hnsz, hnr, hn1⟩ := rowsA_spec (P := P) hst hs1 hrows hy
            -- a slice that has neither elements nor room
            have empty : ∀ B, ρc x = .slice B 0 0 → Fits (0 + ys.length) 0 i.bytes →
                (ys = [] ∧ (execOp ρc o).run P w = .ok (.value (.slice B 0 0)) w) ∨
                ∃ c d arr, 0 + ys.length ≤ c ∧ RowsIn M i.size ys arr ∧ arr.size = c * i.size ∧ (execOp ρc o).run P w = .ok (.value (.slice (some ⟨w.heap.size, 0, none⟩) ys.length c)) ({ w with drawn := d }.alloc (.cells arr e)) := by
              intro B hv hfit
              obtain ⟨r1, r2⟩ := run_append (P := P) (ty := o.type) hu hu2 hi hz hb1 (base := B) (k := 0) (cap := 0) hyv hnew
              by_cases h0 : ys = []
              · subst h0
                refine .inl ⟨rfl, key _ _ ?_⟩
                have hnil : new.toList = [] := by
                  have : new.size = 0 := by simpa using hnsz
                  simpa using this
                have := r1 (by simp) w (fun a _ => by rw [hnil]; simp [storeCells]) (fun _ => rfl)
                rw [hv]
                exact this
              · have hpos : 0 < ys.length := List.length_pos_iff.2 h0
                obtain ⟨c, hc1, hc2⟩ := r2 (by omega) (Nat.le_refl 0) hfit #[] (fun d => by cases B <;> simp [Builtin.firstCells, loadCells, loadCellsFrom])
                refine .inr ⟨c, w.drawn + 1, #[] ++ new ++ Builtin.zeroCells z.cells (c - (0 + ys.length)), hc1, ?_, ?_, key _ _ ?_⟩
                · have := RowsIn.app (M := M) (n := i.size) (xs := []) (ys := ys) (c1 := #[]) (c2 := new) (c3 := Builtin.zeroCells z.cells (c - (0 + ys.length))) ⟨by simp, by simp⟩ hnr (by simp) hnsz
                  simpa using this
                · simp only [Array.size_append, zeroCells_size, hnsz, hz1, List.size_toArray, List.length_nil, Nat.zero_add]
                  rw [← Nat.add_mul]; congr 1; omega
                · rw [hv]
                  rw [hc2]
                  simp
            have loc : ∀ B, ρc x = .slice B 0 0 → Fits (0 + ys.length) 0 i.bytes → OpOk M μ st w ⟨.la slot 1, [(slot, .arr 1 i.size ys)], (slot, true) :: ac, [Fits (0 + ys.length) 0 i.bytes]⟩ ((execOp ρc o).run P w) := by
              intro B hv hfit
              rcases empty B hv hfit with ⟨rfl, hrun⟩ | ⟨c, d, arr, h1, h2, h3, hrun⟩
              · have hl : slot < μ.length := by rw [hst.len]; exact (List.getElem?_eq_some_iff.1 hs).1
                have hl' : slot < st.length := (List.getElem?_eq_some_iff.1 hs).1
                have hzr : ∀ p, μ[slot]? = some p → p.evo ⟨none, 1, 0, 0, i.size⟩ := fun p e => .inl (hst.dead slot _ p hs e rfl)
                refine ⟨_, w, M, μ.set slot ⟨none, 1, 0, 0, i.size⟩, .inl hrun, ?_, ?_, EvoAll.set hzr, .la (List.getElem?_set_self hl) (by omega) (Nat.le_refl _) (fun _ => ⟨B, rfl⟩) rfl⟩
                · exact hst.update hl' (.refl M) hzr (fun _ _ _ => ⟨rfl, fun _ h => h⟩) (fun _ _ _ _ e1 hx e2 e3 => hst.lt e1 hx e2 e3) ⟨by omega, rfl, rfl, rfl, rfl, rfl⟩ (fun e => by cases e) (fun b e => by cases e) hst.mem
                · refine ⟨rfl, rfl, rfl, Nat.le_refl _, fun _ _ _ => rfl, .refl M, fun b o v e k => by simp [e] at k, fun b ⟨j, q, p, e1, hq, e2, e3⟩ => .inr ?_⟩
                  by_cases hj : j = slot
                  · subst hj
                    rw [List.getElem?_set_self hl] at e2
                    cases e2; cases e3
                  · simp only [applyWr, List.foldl_cons, List.foldl_nil] at e1
                    rw [List.getElem?_set_ne (Ne.symm hj)] at e1 e2
                    exact ⟨j, q, p, e1, hq, e2, e3⟩
              · exact OpOk.newArr hst hs h2 rfl (by omega) h3 hrun
            have frz : ∀ B, ρc x = .slice B 0 0 → Fits (0 + ys.length) 0 i.bytes → ∀ obs, OpOk M μ st w ⟨.sl i.size ys false, [], ac, obs⟩ ((execOp ρc o).run P w) := by
              intro B hv hfit obs
              rcases empty B hv hfit with ⟨rfl, hrun⟩ | ⟨c, d, arr, h1, h2, h3, hrun⟩
              · exact OpOk.val hst hrun .sl0
              · exact OpOk.newRow hst h2 rfl (by omega) (by simp) hrun
            cases hax : ρ x with
            | nil =>
              rw [hax] at h hx
              have hv : ∃ B, ρc x = .slice B 0 0 := by generalize ρc x = v at hx; cases hx; exact ⟨_, rfl⟩
              obtain ⟨B, hv⟩ := hv
              cases en <;> cases h <;> simp only [AllP, and_true] at hob <;> first | exact loc B hv hob | exact frz B hv hob _
            | sl sz xs f =>
              rw [hax] at h hx
              cases f with
              | false => cases h
              | true =>
                simp only at h
                cases hsz : Nat.beq sz i.size with
                | false => rw [hsz] at h; cases h
                | true =>
                  rw [hsz] at h
                  have := Nat.eq_of_beq_eq_true hsz
                  subst this
                  simp only [cond_true] at h
                  have hfull : ∀ obs, Fits (xs.length + ys.length) xs.length i.bytes → OpOk M μ st w ⟨.sl i.size (xs ++ ys) false, [], ac, obs⟩ ((execOp ρc o).run P w) := by
                    intro obs hfit
                    by_cases hxe : xs = []
                    · subst hxe
                      have hv : ∃ B, ρc x = .slice B 0 0 := by
                        generalize ρc x = v at hx
                        cases hx with
                        | sl0f => exact ⟨_, rfl⟩
                        | sl f hne => exact absurd rfl hne
                      obtain ⟨B, hv⟩ := hv
                      exact frz B hv hfit obs
                    · generalize hxv : ρc x = v at hx
                      cases hx with
                      | sl0f => exact absurd rfl hxe
                      | @sl _ _ _ _ b o' c fv hne hc hf hz' hm hr =>
                        have := hf rfl
                        subst this
                        obtain ⟨r1, r2⟩ := run_append (P := P) (ty := o.type) hu hu2 hi hz hb1 (base := some ⟨b, o', none⟩) (k := xs.length) (cap := xs.length) hyv hnew
                        by_cases h0 : ys = []
                        · subst h0
                          have hnil : new.toList = [] := by
                            have : new.size = 0 := by simpa using hnsz
                            simpa using this
                          have := r1 (by simp) w (fun a _ => by rw [hnil]; simp [storeCells]) (fun e => by cases e)
                          rw [← hxv] at this
                          refine OpOk.val hst (key _ _ this) ?_
                          rw [List.append_nil]
                          exact (RepV.sl fv hne hc hf hz' hm hr).unfull
                        · have hpos : 0 < ys.length := List.length_pos_iff.2 h0
                          obtain ⟨old, q1, q2, q3, q4⟩ := run_rows (P := P) (w := w) (M := M) (b := b) (o := o') hs1 hz' (fun i row j a e1 e2 => by
                            obtain ⟨z1, z2⟩ := hst.mem _ _ _ (hm i row j a e1 e2)
                            exact ⟨_, z1, z2, hr i row j a e1 e2⟩)
                          obtain ⟨c, hc1, hc2⟩ := r2 (by omega) (Nat.le_refl _) hfit old (fun d => by simpa [Builtin.firstCells] using q1 d)
                          rw [← hxv] at hc2
                          refine OpOk.newRow hst (RowsIn.app q3 hnr q2 hnsz) ?_ hc1 (by simp) (key _ _ hc2)
                          simp
                  have grown : xs ≠ [] → ys ≠ [] → Fits (xs.length + ys.length) xs.length i.bytes → OpOk M μ st w ⟨.la slot 1, [(slot, .arr 1 i.size (xs ++ ys))], (slot, true) :: ac, [Fits (xs.length + ys.length) xs.length i.bytes]⟩ ((execOp ρc o).run P w) := by
                    intro hxe hye hob
                    have hpos : 0 < ys.length := List.length_pos_iff.2 hye
                    generalize hxv : ρc x = v at hx
                    cases hx with
                    | sl0f => exact absurd rfl hxe
                    | @sl _ _ _ _ b o' c fv hne hc hf hz' hm hr =>
                      have := hf rfl
                      subst this
                      obtain ⟨r1, r2⟩ := run_append (P := P) (ty := o.type) hu hu2 hi hz hb1 (base := some ⟨b, o', none⟩) (k := xs.length) (cap := xs.length) hyv hnew
                      obtain ⟨old, q1, q2, q3, q4⟩ := run_rows (P := P) (w := w) (M := M) (b := b) (o := o') hs1 hz' (fun i row j a e1 e2 => by
                        obtain ⟨z1, z2⟩ := hst.mem _ _ _ (hm i row j a e1 e2)
                        exact ⟨_, z1, z2, hr i row j a e1 e2⟩)
                      obtain ⟨c, hc1, hc2⟩ := r2 (by omega) (Nat.le_refl _) hob old (fun d => by simpa [Builtin.firstCells] using q1 d)
                      rw [← hxv] at hc2
                      have hrun := key _ _ hc2
                      refine OpOk.newArr (d := w.drawn + 1) hst hs (RowsIn.app q3 hnr q2 hnsz) (by simp) (by simpa using hc1) ?_ hrun
                      simp only [Array.size_append, zeroCells_size, q2, hnsz, hz1]
                      rw [← Nat.add_mul, ← Nat.add_mul]
                      congr 1
                      omega
                  cases en with
                  | loc =>
                    cases xs with
                    | nil =>
                      have hv : ∃ B, ρc x = .slice B 0 0 := by
                        generalize ρc x = v at hx
                        cases hx with
                        | sl0f => exact ⟨_, rfl⟩
                        | sl f hne => exact absurd rfl hne
                      obtain ⟨B, hv⟩ := hv
                      cases h
                      simp only [AllP, and_true] at hob
                      exact loc B hv hob
                    | cons x0 xs0 =>
                      simp only at h
                      split at h
                      · cases h
                      · cases h
                        simp only [AllP, and_true] at hob
                        exact grown (by simp) (by simp) hob
                  | _ => cases h; simp only [AllP, and_true] at hob; exact hfull _ hob
            | la l g =>
              rw [hax] at h hx
              simp only at h
              split at h
              · rename_i cg sz rows hlk
                cases hsz : (Nat.beq g cg && Nat.beq sz i.size) with
                | false => rw [hsz] at h; cases h
                | true =>
                  rw [hsz] at h
                  cases h
                  simp only [Bool.and_eq_true] at hsz
                  have := Nat.eq_of_beq_eq_true hsz.2
                  subst this
                  simp only [AllP, and_true] at hob
                  obtain ⟨bd, e1, e2, e3, e4, e5, e6, h7⟩ := hx.laCur hst hlk hsz.1
                  have hl' : l < st.length := (List.getElem?_eq_some_iff.1 e1).1
                  have hl : l < μ.length := by rw [hst.len]; exact hl'
                  -- how the objects turn
                  have upd : ∀ (bd' : Bd) (w' : World), bd'.g = g + 1 → (bd'.b = bd.b ∨ ∃ q, bd'.b = some q ∧ w.heap.size ≤ q) → w'.os = w.os → w'.tape = w.tape → w'.output = w.output → w.heap.size ≤ w'.heap.size →
                      (∀ q, q < w.heap.size → bd.b ≠ some q → w'.heap[q]? = w.heap[q]?) → (∀ q, bd.b = some q → ∀ z, M q z = none) →
                      RepO M (μ.set l bd') w' (.arr (g + 1) i.size (rows ++ ys)) bd' →
                      StoreOk M (μ.set l bd') (st.set l (.arr (g + 1) i.size (rows ++ ys))) w' ∧ Stp M μ st w M (μ.set l bd') (st.set l (.arr (g + 1) i.size (rows ++ ys))) w' ∧ EvoAll μ (μ.set l bd') := by
                    intro bd' w' k1 k2 g1 g2 g3 g4 g5 g6 k3
                    have hev : ∀ p, μ[l]? = some p → p.evo bd' := fun p e => by
                      rw [e2] at e; cases e
                      exact .inr (.inr ⟨by omega, by omega⟩)
                    refine ⟨hst.update hl' (.refl M) hev (fun b hb ⟨j, q, p, hj, z1, hq, z2, z3⟩ => ⟨g5 b hb (fun e => hst.apart l j _ q bd p b (Ne.symm hj) e1 z1 rfl hq e2 z2 e z3), fun _ h => h⟩)
                      (fun i x p b z1 hx z2 z3 => hst.lt z1 hx z2 z3) k3 (fun e => by cases e) (fun b hb _ j q p hj z1 hq z2 z3 => ?_) (fun b z u e => ?_), ⟨g1, g2, g3, g4, fun b hb hown => g5 b hb (fun e => hown ⟨l, _, bd, e1, rfl, e2, e⟩), .refl M, fun b o v e k => by simp [e] at k, fun b ⟨j, q, p, z1, hq, z2, z3⟩ => ?_⟩, EvoAll.set hev⟩
                    · rcases k2 with k2 | ⟨q', k2, k4⟩
                      · rw [k2] at hb
                        exact hst.apart l j _ q bd p b (Ne.symm hj) e1 z1 rfl hq e2 z2 hb z3
                      · rw [k2] at hb
                        cases hb
                        have := hst.lt z1 hq z2 z3
                        omega
                    · obtain ⟨m1, m2⟩ := hst.mem b z u e
                      refine ⟨?_, m2⟩
                      have hlt := Mem.lt hst.mem e
                      have hne : bd.b ≠ some b := fun e' => by rw [g6 b e' z] at e; cases e
                      simp only [World.cell?, g5 b hlt hne] at m1 ⊢
                      exact m1
                    · by_cases hj : j = l
                      · subst hj
                        rw [List.getElem?_set_self hl] at z2
                        cases z2
                        rcases k2 with k2 | ⟨q', k2, k4⟩
                        · exact .inr ⟨j, _, bd, e1, rfl, e2, by rw [← k2]; exact z3⟩
                        · rw [k2] at z3; cases z3; exact .inl k4
                      · rw [List.getElem?_set_ne (Ne.symm hj)] at z1 z2
                        exact .inr ⟨j, q, p, z1, hq, z2, z3⟩
                  rcases h7 with ⟨k0, rfl, k2, B, hv⟩ | ⟨b, cc, ty, k0, hv, k2, k3, k4, k5, k6⟩
                  · rcases empty B hv hob with ⟨rfl, hrun⟩ | ⟨c, d, arr, h1, h2, h3, hrun⟩
                    · obtain ⟨u1, u2, u3⟩ := upd ⟨none, g + 1, 0, 0, i.size⟩ w rfl (.inl k0.symm) rfl rfl rfl (Nat.le_refl _) (fun _ _ _ => rfl) (fun q e => by rw [k0] at e; cases e) ⟨by omega, rfl, rfl, rfl, rfl, rfl⟩
                      exact ⟨_, w, M, _, .inl hrun, u1, u2, u3, .la (List.getElem?_set_self hl) (by omega) (Nat.le_refl _) (fun _ => ⟨B, rfl⟩) rfl⟩
                    · obtain ⟨u1, u2, u3⟩ := upd ⟨some w.heap.size, g + 1, c, ys.length, i.size⟩ ({ w with drawn := d }.alloc (.cells arr e)) rfl (.inr ⟨_, rfl, Nat.le_refl _⟩) rfl rfl rfl (by simp)
                        (fun q hq _ => alloc_heap_old _ _ hq) (fun q e => by rw [k0] at e; cases e)
                        ⟨by omega, rfl, rfl, by simp, arr, e, alloc_heap_new _ _, h3, by simpa using h1, by simpa using h2.1, by simpa using h2.2, fun z => Mem.none hst.mem (Nat.le_refl _) z⟩
                      exact ⟨_, _, M, _, .inl hrun, u1, u2, u3, .la (List.getElem?_set_self hl) (by omega) (Nat.le_refl _) (fun _ => rfl) rfl⟩
                  · obtain ⟨r1, r2⟩ := run_append (P := P) (ty := o.type) hu hu2 hi hz hb1 (base := some ⟨b, 0, none⟩) (k := rows.length) (cap := bd.n) hyv hnew
                    by_cases hroom : rows.length + ys.length ≤ bd.n
                    · have hnl : new.toList.length = ys.length * i.size := by simpa using hnsz
                      have hfitc : rows.length * i.size + new.toList.length ≤ cc.size := by
                        rw [hnl, k3, ← Nat.add_mul]
                        exact Nat.mul_le_mul_right _ hroom
                      obtain ⟨w', g1, g2⟩ := run_storeCells (P := P) b (rows.length * i.size) ty new.toList 0 w cc k2 (by simpa using hfitc) hn1
                      rw [Nat.add_zero] at g2
                      have hrun := r1 hroom w' (fun a e => by cases e; simpa [addr_add] using g1) (fun e => by cases e)
                      rw [← hv] at hrun
                      have hrows : RowsIn M i.size (rows ++ ys) (putA cc (rows.length * i.size) new.toList) := by
                        have hget : ∀ (k : Nat) (row : List AV), (rows ++ ys)[k]? = some row → (k < rows.length ∧ rows[k]? = some row) ∨ (rows.length ≤ k ∧ ys[k - rows.length]? = some row) := fun k row e => by
                          by_cases hi : k < rows.length
                          · rw [List.getElem?_append_left hi] at e; exact .inl ⟨hi, e⟩
                          · rw [List.getElem?_append_right (by omega)] at e; exact .inr ⟨by omega, e⟩
                        refine ⟨fun k row e => ?_, fun k row j a z1 z2 => ?_⟩
                        · rcases hget k row e with ⟨_, e⟩ | ⟨_, e⟩
                          · exact k5.1 k row e
                          · exact hnr.1 _ row e
                        · rw [putA_get _ _ _ _ hfitc]
                          rcases hget k row z1 with ⟨hk, e⟩ | ⟨hk, e⟩
                          · have hj : j < i.size := by rw [← k5.1 k row e]; exact (List.getElem?_eq_some_iff.1 z2).1
                            have : k * i.size + i.size ≤ rows.length * i.size := by rw [← Nat.succ_mul]; exact Nat.mul_le_mul_right _ hk
                            rw [if_neg (by omega)]
                            exact k5.2 k row j a e z2
                          · obtain ⟨v, q1, q2, q3⟩ := hnr.2 _ row j a e z2
                            have hlt : (k - rows.length) * i.size + j < new.size := (Array.getElem?_eq_some_iff.1 q1).1
                            have hidx : k * i.size + j = rows.length * i.size + ((k - rows.length) * i.size + j) := by
                              have : k * i.size = rows.length * i.size + (k - rows.length) * i.size := by rw [← Nat.add_mul]; congr 1; omega
                              omega
                            rw [hidx, if_pos (by rw [hnl, ← hnsz]; omega), Nat.add_sub_cancel_left, Array.getElem?_toList]
                            exact ⟨v, q1, q2, q3⟩
                      obtain ⟨u1, u2, u3⟩ := upd ⟨some b, g + 1, bd.n, rows.length + ys.length, i.size⟩ w' rfl (.inl k0.symm) g2.os g2.tape g2.output (by rw [g2.size]; exact Nat.le_refl _)
                        (fun q _ hne => g2.other q (fun e => hne (by rw [k0, e]))) (fun q e => by rw [k0] at e; cases e; exact k6)
                        ⟨by omega, rfl, rfl, by simp, _, ty, g2.here, by rw [putA_size]; exact k3, by simpa using hroom, hrows.1, hrows.2, k6⟩
                      exact ⟨_, w', M, _, .inl (key _ _ hrun), u1, u2, u3, .la (List.getElem?_set_self hl) (by omega) (Nat.le_refl _) (fun _ => rfl) rfl⟩
                    · obtain ⟨old, q1, q2, q3, q4⟩ := run_rows (P := P) (w := w) (M := M) (b := b) (o := 0) hs1 k5.1 (fun i row j a e1 e2 => by
                        obtain ⟨v, z1, z2, z3⟩ := k5.2 i row j a e1 e2
                        exact ⟨v, by rw [cell_of_heap k2, Nat.zero_add]; exact z1, z2, z3⟩)
                      obtain ⟨c, hc1, hc2⟩ := r2 (by omega) k4 hob old (fun d => by simpa [Builtin.firstCells] using q1 d)
                      rw [← hv] at hc2
                      have hrows : RowsIn M i.size (rows ++ ys) (old ++ new ++ Builtin.zeroCells z.cells (c - (rows.length + ys.length))) := RowsIn.app q3 hnr q2 hnsz
                      have hsize : (old ++ new ++ Builtin.zeroCells z.cells (c - (rows.length + ys.length))).size = c * i.size := by
                        simp only [Array.size_append, zeroCells_size, q2, hnsz, hz1]
                        rw [← Nat.add_mul, ← Nat.add_mul]; congr 1; omega
                      obtain ⟨u1, u2, u3⟩ := upd ⟨some w.heap.size, g + 1, c, rows.length + ys.length, i.size⟩ ({ w with drawn := w.drawn + 1 }.alloc (.cells (old ++ new ++ Builtin.zeroCells z.cells (c - (rows.length + ys.length))) e)) rfl (.inr ⟨_, rfl, Nat.le_refl _⟩) rfl rfl rfl (by simp)
                        (fun q hq _ => alloc_heap_old { w with drawn := w.drawn + 1 } (.cells (old ++ new ++ Builtin.zeroCells z.cells (c - (rows.length + ys.length))) e) hq) (fun q e => by rw [k0] at e; cases e; exact k6)
                        ⟨by omega, rfl, rfl, by simp, _, e, alloc_heap_new _ _, hsize, by simpa using hc1, hrows.1, hrows.2, fun z => Mem.none hst.mem (Nat.le_refl _) z⟩
                      exact ⟨_, _, M, _, .inl (key _ _ hc2), u1, u2, u3, .la (List.getElem?_set_self hl) (by omega) (Nat.le_refl _) (fun _ => rfl) rfl⟩
              · cases h
            | _ => rw [hax] at h; simp at h
          · cases h
      · cases h
    · cases h
  · cases h

end
end Go.Ae

/- The abstract executor, part 11: make, maps. -/
namespace Go.Ae
section
variable {P : Program} {M : Mem} {μ : List Bd} {st : List AObj} {w : World} {ρ : Operand → AV} {ρc : Operand → Value} {o : Oper} {en : Ent} {slot : Nat}

/-! ### make([]T, n, c) -/
def makeSliceA (P : Program) (slot : Nat) (en : Ent) (t : TypeId) (l c : AV) : Option Res :=
  match P.underlying t with
  | some (.slice e) => match P.info? e, zeroA P e with
    | some i, some zs => match l with
      | .sc (.int _ n) => match c with
        | .sc (.int _ m) => match en with
          | .nat k => bif Nat.ble 1 i.size && Nat.ble 1 i.bytes && Nat.beq zs.length i.size && zs.all (dataB 6) then
              some ⟨.la slot 1, [(slot, .arr 1 i.size (List.replicate k zs))], [(slot, true)], [n = (k : Int), (k : Int) ≤ m, m * i.bytes ≤ 281474976710656]⟩ else none
          | _ => none
        | _ => none
      | _ => none
    | _, _ => none
  | _ => none

theorem wrap64_small {n : Int} (h0 : 0 ≤ n) (h1 : n ≤ 281474976710656) : IntKind.i64.wrap n = n := by
  simp only [IntKind.wrap, IntKind.bits]
  have : IntKind.i64.signed = true := rfl
  simp [this]
  omega

theorem ok_makeSlice (hst : StoreOk M μ st w) (hs : st[slot]? = some .gone) (hρ : ∀ x, RepV M μ (ρ x) (ρc x)) {t : TypeId} {l c : Operand} (ho : o.op = .makeSlice t l c) {res : Res}
    (h : makeSliceA P slot en t (ρ l) (ρ c) = some res) (hob : AllP res.ob) : OpOk M μ st w res ((execOp ρc o).run P w) := by
  have hl := hρ l
  have hc := hρ c
  unfold makeSliceA at h
  split at h
  · rename_i e hu
    split at h
    · rename_i i zs hi hz
      split at h
      · rename_i kl n el
        split at h
        · rename_i kc m ec
          split at h
          · rename_i k
            cases hb : (Nat.ble 1 i.size && Nat.ble 1 i.bytes && Nat.beq zs.length i.size && zs.all (dataB 6)) with
            | false => rw [hb] at h; cases h
            | true =>
              rw [hb] at h
              cases h
              simp only [Bool.and_eq_true] at hb
              have h1 : 1 ≤ i.size := Nat.le_of_ble_eq_true hb.1.1.1
              have h2 : 1 ≤ i.bytes := Nat.le_of_ble_eq_true hb.1.1.2
              have h3 : zs.length = i.size := Nat.eq_of_beq_eq_true hb.1.2
              have h4 := List.all_eq_true.1 hb.2
              simp only [AllP, and_true] at hob
              obtain ⟨rfl, o2, o3⟩ := hob
              rw [el] at hl
              rw [ec] at hc
              obtain ⟨i', z, hi', hzz, hr⟩ := zeroA_rep hz M μ
              rw [hi] at hi'
              cases hi'
              have hm0 : 0 ≤ m := by omega
              have hmle : m ≤ m * i.bytes := by
                have : m * 1 ≤ m * (i.bytes : Int) := Int.mul_le_mul_of_nonneg_left (by omega) hm0
                omega
              have w1 : IntKind.i64.wrap (k : Int) = (k : Int) := wrap64_small (by omega) (by omega)
              have w2 : IntKind.i64.wrap m = m := wrap64_small hm0 (by omega)
              have hrun : (execOp ρc o).run P w = .ok (.value (.slice (some ⟨w.heap.size, 0, none⟩) k m.toNat)) (({ w with drawn := w.drawn } : World).alloc (.cells ((Array.range (m.toNat * i.size)).map (z.cells[· % z.cells.size]!)) e)) := by
                simp only [execOp, ho, hl.scv, hc.scv]
                refine exec_v ?_
                simp only [Instr.makeSlice, Sem.run_bind, run_underlying hu, Result.andThen_ok, asInt, asIntOf, Sem.run_pure, run_typeInfo w hi, w1, w2]
                have a0 : ¬ ((k : Int) < 0) := by omega
                have a1 : ¬ (m < 0) := by omega
                have a2 : ¬ (281474976710656 < (i.bytes : Int) * m) := by rw [Int.mul_comm] at o3; omega
                have a3 : ¬ (m < (k : Int)) := by omega
                by_cases hm1 : m.toNat * i.size = 0
                · simp [a0, a1, a2, a3, hm1, run_sizeOf w hi, newRow, run_askRoom, Array.range_zero']
                · simp [a0, a1, a2, a3, hm1, run_sizeOf w hi, newRow, run_askRoom, run_zeroValue w hi hzz]
              refine OpOk.newArr hst hs ⟨fun j row e => ?_, fun j row x a e1 e2 => ?_⟩ (by simp) (by omega) (by simp) hrun
              · rw [List.getElem?_replicate] at e
                split at e
                · cases e; exact h3
                · cases e
              · rw [List.getElem?_replicate] at e1
                split at e1
                · rename_i hj
                  cases e1
                  obtain ⟨v, z1, z2, z3⟩ := hr.2 x a e2
                  have hx : x < i.size := by rw [← h3]; exact (List.getElem?_eq_some_iff.1 e2).1
                  refine ⟨v, ?_, z2, z3.ofData 6 (h4 a (List.mem_of_getElem? e2))⟩
                  have hlt : j * i.size + x < m.toNat * i.size := by
                    have : j * i.size + i.size ≤ m.toNat * i.size := by rw [← Nat.succ_mul]; exact Nat.mul_le_mul_right _ (by omega)
                    omega
                  have hmod : (j * i.size + x) % z.cells.size = x := by rw [hr.1, h3, Nat.mul_comm, Nat.mul_add_mod]; exact Nat.mod_eq_of_lt hx
                  rw [Array.getElem?_map, Array.getElem?_range, if_pos hlt]
                  simp only [Option.map_some, Option.some.injEq, hmod]
                  rw [getElem!_def, z1]
                · cases e1
          · cases h
        · cases h
      · cases h
    · cases h
  · cases h

/-! ### maps keyed by strings -/
theorem bbeq (a b : ByteArray) : (a == b) = true ↔ a = b := by
  cases a; cases b
  show ByteArray.beq _ _ = true ↔ _
  simp [ByteArray.beq]

def findM (s : ByteArray) : List (ByteArray × AV) → Option AV
  | [] => none
  | (k, a) :: r => if s == k then some a else findM s r

def setM (s : ByteArray) (a : AV) : List (ByteArray × AV) → List (ByteArray × AV)
  | [] => [(s, a)]
  | (k, b) :: r => if s == k then (s, a) :: r else (k, b) :: setM s a r

theorem find_rep (s : ByteArray) : ∀ (es : List (ByteArray × AV)) (ms : List MapEntry) (i : Nat), ms.length = es.length →
    (∀ (j : Nat) (key : ByteArray) (a : AV), es[j]? = some (key, a) → ∃ e, ms[j]? = some e ∧ e.key = .string key ∧ RepV M [] a e.val) →
    (findM s es = none ∧ Instr.findNow .string (.string s) ms i = some none) ∨
    ∃ j a e, findM s es = some a ∧ Instr.findNow .string (.string s) ms i = some (some (i + j, e.val)) ∧ RepV M [] a e.val ∧ ms[j]? = some e ∧ e.key = .string s ∧
      ∀ b, setM s b es = es.set j (s, b)
  | [], [], i, _, _ => .inl ⟨rfl, rfl⟩
  | [], _ :: _, _, hl, _ => by simp at hl
  | _ :: _, [], _, hl, _ => by simp at hl
  | (k, a) :: es, m :: ms, i, hl, h => by
    obtain ⟨e, h1, h2, h3⟩ := h 0 k a rfl
    simp only [List.getElem?_cons_zero, Option.some.injEq] at h1
    subst h1
    by_cases hk : (s == k) = true
    · refine .inr ⟨0, a, m, by simp [findM, hk], by simp [Instr.findNow, Instr.sameNow, h2, hk], h3, rfl, ?_, fun b => by simp [setM, hk]⟩
      rw [h2, (bbeq _ _).1 hk]
    · have hk' : (s == k) = false := by simpa using hk
      rcases find_rep s es ms (i + 1) (by simpa using hl) (fun j key a e => by simpa using h (j + 1) key a (by simpa using e)) with ⟨q1, q2⟩ | ⟨j, a', e, q1, q2, q3, q4, q5, q6⟩
      · exact .inl ⟨by simp [findM, hk', q1], by simp [Instr.findNow, Instr.sameNow, h2, hk', q2]⟩
      · exact .inr ⟨j + 1, a', e, by simp [findM, hk', q1], by simp [Instr.findNow, Instr.sameNow, h2, hk', q2]; omega, q3, by simpa using q4, q5, fun b => by simp [setM, hk', q6]⟩

theorem run_checkKey {t : TypeId} (hu : P.underlying t = some .string) (b : Bool) (s : ByteArray) (w : World) : ∀ n, (Instr.checkKey b (n + 1) t (.string s)).run P w = .ok () w := fun n => by
  simp [Instr.checkKey, run_underlying hu]

theorem obj_map (hst : StoreOk M μ st w) {l : Nat} {es : List (ByteArray × AV)} {v : Value} (h : getO st l = .map es) (hr : RepV M μ (.mp l) v) :
    ∃ b ms k, v = .map (some b) ∧ w.heap[b]? = some (.map ms k) ∧ ms.size = es.length ∧
      (∀ (j : Nat) (key : ByteArray) (a : AV), es[j]? = some (key, a) → ∃ e, ms[j]? = some e ∧ e.key = .string key ∧ RepV M [] a e.val) ∧ st[l]? = some (.map es) ∧ μ[l]? = some (Bd.at b) ∧ (∀ x, M b x = none) := by
  have e1 := getO_some h rfl
  cases hr with
  | mp e2 =>
    obtain ⟨b, ms, k, e3, h2, h3, h4, h5⟩ := hst.rep l _ _ e1 e2
    have e4 := congrArg Bd.b e3
    simp only [Bd.at, Option.some.injEq] at e4
    subst e4
    exact ⟨_, ms, k, rfl, h2, h3, h4, e1, e2, h5⟩

def makeMapA (slot : Nat) : Option Res := some ⟨.mp slot, [(slot, .map [])], [(slot, true)], []⟩

theorem ok_makeMap (hst : StoreOk M μ st w) (hs : st[slot]? = some .gone) {t : TypeId} (ho : o.op = .makeMap t none) {res : Res}
    (h : makeMapA slot = some res) : OpOk M μ st w res ((execOp ρc o).run P w) := by
  cases h
  have hl : slot < μ.length := by rw [hst.len]; exact (List.getElem?_eq_some_iff.1 hs).1
  obtain ⟨h1, h2, h3⟩ := hst.newObj (o := .map []) (bd := Bd.at w.heap.size) (ob := .map #[] 0) hs rfl rfl
    ⟨w.heap.size, #[], 0, rfl, alloc_heap_new w _, rfl, by simp, fun x => Mem.none hst.mem (Nat.le_refl _) x⟩
  refine ⟨_, _, M, _, .inl ?_, h1, h2, h3, .mp (List.getElem?_set_self hl)⟩
  simp only [execOp, ho]
  exact exec_v (by simp [Instr.makeMap])

def lookupA (P : Program) (look : Nat → AObj) (en : Ent) (t : TypeId) (m k : AV) (ok : Bool) : Option Res :=
  match P.underlying t with
  | some (.map kt et) => match P.underlying kt with
    | some .string => match P.info? et with
      | some i => match i.zero with
        | some z => match m with
          | .mp l => match look l with
            | .map es => match k with
              | .sc (.string s) => match en with
                | .look r => some ⟨bif ok then .tup [r.getD (cvt z), .sc (.bool r.isSome)] else r.getD (cvt z), [], [(l, false)], [findM s es = r]⟩
                | _ => none
              | _ => none
            | _ => none
          | _ => none
        | none => none
      | none => none
    | _ => none
  | _ => none

theorem ok_lookup (hst : StoreOk M μ st w) (hρ : ∀ x, RepV M μ (ρ x) (ρc x)) {t : TypeId} {m k : Operand} {ok : Bool} (ho : o.op = .lookup t m k ok) {res : Res}
    (h : lookupA P (getO st) en t (ρ m) (ρ k) ok = some res) (hob : AllP res.ob) : OpOk M μ st w res ((execOp ρc o).run P w) := by
  have hm := hρ m
  have hk := hρ k
  unfold lookupA at h
  split at h
  · rename_i kt et hu
    split at h
    · rename_i hku
      split at h
      · rename_i i hi
        split at h
        · rename_i z hz
          split at h
          · rename_i l em
            split at h
            · rename_i es hl
              split at h
              · rename_i s ek
                split at h
                · rename_i r
                  cases h
                  simp only [AllP, and_true] at hob
                  rw [em] at hm
                  rw [ek] at hk
                  obtain ⟨b, ms, kk, hmv, h2, h3, h4, h5, h6, h7⟩ := obj_map hst hl hm
                  have hfin : ∀ v, RepV M μ (r.getD (cvt z)) v → (execOp ρc o).run P w = .ok (.value (if ok then .tuple #[v, .bool r.isSome] else v)) w →
                      OpOk M μ st w ⟨bif ok then .tup [r.getD (cvt z), .sc (.bool r.isSome)] else r.getD (cvt z), [], [(l, false)], [findM s es = r]⟩ ((execOp ρc o).run P w) := fun v hv hrun => by
                    refine OpOk.val hst hrun ?_
                    cases ok with
                    | false => exact hv
                    | true =>
                      refine RepV.tup (us := [v, .bool r.isSome]) rfl fun j a u e1 e2 => ?_
                      match j with
                      | 0 => simp at e1 e2; subst e1; subst e2; exact hv
                      | 1 => simp at e1 e2; subst e1; subst e2; exact .sc
                      | j + 2 => simp at e1
                  have hrun0 : ∀ (r' : Option (Nat × Value)), Instr.findNow .string (.string s) ms.toList 0 = some r' →
                      (execOp ρc o).run P w = .ok (.value (if ok then .tuple #[(match r' with | some (_, v) => v | none => z), .bool r'.isSome] else (match r' with | some (_, v) => v | none => z))) w := fun r' hf => by
                    simp only [execOp, ho, hmv, hk.scv]
                    refine exec_v ?_
                    have hg : (getObj b).run P w = .ok (.map ms kk) w := by simp [getObj, Sem.run, h2]
                    have hfk : (Instr.findKey kt (.string s) ms.toList).run P w = .ok r' w := by simp [Instr.findKey, run_underlying hku, hf]
                    simp only [Instr.lookup, Sem.run_bind, run_underlying hu, Result.andThen_ok, hg, run_checkKey hku _ s w 9999, hfk, Sem.run_pure]
                    cases r' with
                    | none => simp [run_zeroValue w hi hz]
                    | some p => cases p; simp
                  rcases find_rep (M := M) s es ms.toList 0 (by simpa using h3) (fun j key a e => by obtain ⟨x, q1, q2, q3⟩ := h4 j key a e; exact ⟨x, by simpa using q1, q2, q3⟩) with ⟨q1, q2⟩ | ⟨j, a, e, q1, q2, q3, _, _, _⟩
                  · rw [q1] at hob
                    subst hob
                    exact hfin z (cvt_rep M μ z) (hrun0 none q2)
                  · rw [q1] at hob
                    subst hob
                    exact hfin e.val q3.data (hrun0 (some (0 + j, e.val)) q2)
                · cases h
              · cases h
            · cases h
          · cases h
        · cases h
      · cases h
    · cases h
  · cases h

/-- A map's entries are others. -/
theorem StoreOk.setMap (hst : StoreOk M μ st w) {l b : Nat} {es es' : List (ByteArray × AV)} {ms ms' : Array MapEntry} {k k' : Nat} (e1 : st[l]? = some (.map es)) (e2 : μ[l]? = some (Bd.at b)) (h2 : w.heap[b]? = some (.map ms k))
    (hm : ∀ x, M b x = none) (h3 : ms'.size = es'.length) (h4 : ∀ (j : Nat) (key : ByteArray) (a : AV), es'[j]? = some (key, a) → ∃ e, ms'[j]? = some e ∧ e.key = .string key ∧ RepV M [] a e.val) :
    StoreOk M μ (st.set l (.map es')) { w with heap := w.heap.setIfInBounds b (.map ms' k') } ∧ Stp M μ st w M μ (st.set l (.map es')) { w with heap := w.heap.setIfInBounds b (.map ms' k') } := by
  have hl : l < st.length := (List.getElem?_eq_some_iff.1 e1).1
  have hset : μ.set l (Bd.at b) = μ := by
    apply List.ext_getElem?
    intro j
    by_cases hj : j = l
    · subst hj; rw [List.getElem?_set_self (by rw [hst.len]; exact hl), e2]
    · rw [List.getElem?_set_ne (Ne.symm hj)]
  have hbs : b < w.heap.size := (Array.getElem?_eq_some_iff.1 h2).1
  have hother : ∀ b', b' ≠ b → (w.heap.setIfInBounds b (.map ms' k'))[b']? = w.heap[b']? := fun b' hb => Array.getElem?_setIfInBounds_ne (Ne.symm hb)
  have hup : StoreOk M (μ.set l (Bd.at b)) (st.set l (.map es')) { w with heap := w.heap.setIfInBounds b (.map ms' k') } := by
    refine hst.update hl (.refl M) (fun q e => by rw [e2] at e; cases e; exact .refl _) (fun b' _ ⟨j, y, q, hj, z1, hy, z2, z3⟩ => ?_) (fun j y q b' z1 hy z2 z3 => hst.lt z1 hy z2 z3) ?_ (fun e => by cases e) (fun b' e _ j y q hj z1 hy z2 z3 => ?_) (fun b' y u e => ?_)
    · exact ⟨hother b' (fun e => hst.apart l j _ y _ q b (Ne.symm hj) e1 z1 rfl hy e2 z2 rfl (e ▸ z3)), fun _ h => h⟩
    · exact ⟨b, ms', k', rfl, by simp [hbs], h3, h4, hm⟩
    · cases e
      exact hst.apart l j _ y _ q b (Ne.symm hj) e1 z1 rfl hy e2 z2 rfl z3
    · obtain ⟨m1, m2⟩ := hst.mem b' y u e
      refine ⟨?_, m2⟩
      have hne : b' ≠ b := fun e' => by subst e'; rw [hm y] at e; cases e
      simp only [World.cell?, hother b' hne] at m1 ⊢
      exact m1
  rw [hset] at hup
  refine ⟨hup, rfl, rfl, rfl, by simp, fun b' _ hown => hother b' (fun e => hown ⟨l, _, _, e1, rfl, e2, by rw [e]; rfl⟩), .refl M, fun b' y u e k => by simp [e] at k, fun b' ⟨j, y, q, z1, hy, z2, z3⟩ => .inr ?_⟩
  by_cases hj : j = l
  · subst hj; exact ⟨j, _, q, e1, rfl, z2, z3⟩
  · rw [List.getElem?_set_ne (Ne.symm hj)] at z1
    exact ⟨j, y, q, z1, hy, z2, z3⟩

def mapUpdateA (P : Program) (look : Nat → AObj) (en : Ent) (t : TypeId) (m k x : AV) : Option Res :=
  match P.underlying t with
  | some (.map kt _) => match P.underlying kt with
    | some .string => match m with
      | .mp l => match look l with
        | .map es => match k with
          | .sc (.string s) => match en with
            | .look none => bif dataB 6 x then some ⟨.sc undef, [(l, .map (es ++ [(s, x)]))], [(l, true)], [findM s es = none]⟩ else none
            | _ => none
          | _ => none
        | _ => none
      | _ => none
    | _ => none
  | _ => none

theorem ok_mapUpdate (hst : StoreOk M μ st w) (hρ : ∀ x, RepV M μ (ρ x) (ρc x)) {t : TypeId} {m k x : Operand} (ho : o.op = .mapUpdate t m k x) {res : Res}
    (h : mapUpdateA P (getO st) en t (ρ m) (ρ k) (ρ x) = some res) (hob : AllP res.ob) : OpOk M μ st w res ((execOp ρc o).run P w) := by
  have hm := hρ m
  have hk := hρ k
  have hx := hρ x
  unfold mapUpdateA at h
  split at h
  · rename_i kt et hu
    split at h
    · rename_i hku
      split at h
      · rename_i l em
        split at h
        · rename_i es hl
          split at h
          · rename_i s ek
            split at h
            · cases hd : dataB 6 (ρ x) with
              | false => rw [hd] at h; cases h
              | true =>
                rw [hd] at h
                cases h
                simp only [AllP, and_true] at hob
                rw [em] at hm
                rw [ek] at hk
                obtain ⟨b, ms, kk, hmv, h2, h3, h4, h5, h6, h7⟩ := obj_map hst hl hm
                have hf : Instr.findNow .string (.string s) ms.toList 0 = some none := by
                  rcases find_rep (M := M) s es ms.toList 0 (by simpa using h3) (fun j key a e => by obtain ⟨x, q1, q2, q3⟩ := h4 j key a e; exact ⟨x, by simpa using q1, q2, q3⟩) with ⟨_, q2⟩ | ⟨j, a, e, q1, _⟩
                  · exact q2
                  · rw [q1] at hob; cases hob
                have hg : (getObj b).run P w = .ok (.map ms kk) w := by simp [getObj, Sem.run, h2]
                have hfk : (Instr.findKey kt (.string s) ms.toList).run P w = .ok none w := by simp [Instr.findKey, run_underlying hku, hf]
                have hso : ∀ o', (setObj b o').run P w = .ok () { w with heap := w.heap.setIfInBounds b o' } := fun o' => by simp [setObj, Sem.run, h2]
                obtain ⟨u1, u2⟩ := hst.setMap (es' := es ++ [(s, ρ x)]) (ms' := ms.push { key := .string s, val := ρc x, born := kk }) (k' := kk + 1) h5 h6 h2 h7 (by simp [h3]) (fun j key a e => by
                  by_cases hj : j < es.length
                  · rw [List.getElem?_append_left hj] at e
                    obtain ⟨e', q1, q2, q3⟩ := h4 j key a e
                    exact ⟨e', by rw [Array.getElem?_push, if_neg (by omega)]; exact q1, q2, q3⟩
                  · rw [List.getElem?_append_right (by omega)] at e
                    have : j - es.length = 0 := by have := (List.getElem?_eq_some_iff.1 e).1; simp at this; omega
                    rw [this] at e
                    simp only [List.getElem?_cons_zero, Option.some.injEq, Prod.mk.injEq] at e
                    obtain ⟨rfl, rfl⟩ := e
                    exact ⟨_, by rw [Array.getElem?_push, if_pos (by omega)], rfl, hx.ofData 6 hd⟩)
                refine ⟨undef, _, M, μ, .inr ⟨?_, rfl⟩, u1, u2, .refl μ, .sc⟩
                simp only [execOp, ho, hmv, hk.scv]
                refine exec_u ?_
                simp only [Instr.mapUpdate, Sem.run_bind, run_underlying hu, Result.andThen_ok, hg, run_checkKey hku _ s w 9999, hfk, hso]
            · cases h
          · cases h
        · cases h
      · cases h
    · cases h
  · cases h

def clearA (P : Program) (look : Nat → AObj) (t : TypeId) (x : AV) : Option Res :=
  match P.underlying t with
  | some (.map ..) => match x with
    | .mp l => match look l with
      | .map _ => some ⟨.sc (.tuple #[]), [(l, .map [])], [(l, true)], []⟩
      | _ => none
    | _ => none
  | _ => none

theorem ok_clear (hst : StoreOk M μ st w) (hρ : ∀ x, RepV M μ (ρ x) (ρc x)) {t : TypeId} {x : Operand} (ho : o.op = .call { callee := .builtin .clear, args := #[x], argTypes := #[t] }) {res : Res}
    (h : clearA P (getO st) t (ρ x) = some res) : OpOk M μ st w res ((execOp ρc o).run P w) := by
  have hx := hρ x
  obtain ⟨cs, hex⟩ := exec_builtin (ρc := ρc) ho
  unfold clearA at h
  split at h
  · rename_i kt et hu
    split at h
    · rename_i l ex
      split at h
      · rename_i es hl
        cases h
        rw [ex] at hx
        obtain ⟨b, ms, kk, hmv, h2, h3, h4, h5, h6, h7⟩ := obj_map hst hl hx
        obtain ⟨u1, u2⟩ := hst.setMap (es' := []) (ms' := #[]) (k' := kk) h5 h6 h2 h7 rfl (by simp)
        have hg : (getObj b).run P w = .ok (.map ms kk) w := by simp [getObj, Sem.run, h2]
        have hso : ∀ o', (setObj b o').run P w = .ok () { w with heap := w.heap.setIfInBounds b o' } := fun o' => by simp [setObj, Sem.run, h2]
        refine ⟨.tuple #[], _, M, μ, .inl ?_, u1, u2, .refl μ, .sc⟩
        rw [hex]
        simp only [builtin]
        refine exec_v ?_
        have : #[x].map ρc = #[.map (some b)] := by simp [hmv]
        rw [this]
        simp [Builtin.clear_, run_underlying hu, hg, hso]
      · cases h
    · cases h
  · cases h

end
end Go.Ae

/- The abstract executor, part 7: places, cuts, numbers, texts. -/
import Derived.Test.YtpcnfjddleceiaaGreatAe6
namespace Go.Ae
section
variable {P : Program} {M : Mem} {μ : List Bd} {st : List AObj} {w : World} {ρ : Operand → AV} {ρc : Operand → Value} {o : Oper} {en : Ent} {slot : Nat}

/-! ### nilCheck -/
def nilCheckA (look : Nat → AObj) (x : AV) : Option Res :=
  match x with
  | .lp .. => some ⟨x, [], [], []⟩
  | .ip .. => some ⟨x, [], [], []⟩
  | .fn .. => some ⟨x, [], [], []⟩
  | .ifc .. => some ⟨x, [], [], []⟩
  | .le l g _ _ => match look l with
    | .arr c _ _ => bif Nat.beq g c then some ⟨x, [], [(l, false)], []⟩ else none
    | _ => none
  | _ => none

theorem RepV.leCur (hst : StoreOk M μ st w) {l g i off c sz : Nat} {rows : List (List AV)} {v : Value} (hl : getO st l = .arr c sz rows) (hg : Nat.beq g c = true) (h : RepV M μ (.le l g i off) v) :
    ∃ bd b, μ[l]? = some bd ∧ bd.g = g ∧ 0 < g ∧ bd.sz = sz ∧ bd.b = some b ∧ v = .pointer (some ⟨b, i * sz + off, none⟩) := by
  have := Nat.eq_of_beq_eq_true hg
  subst this
  obtain ⟨bd, e1, e2, q1, q2, q3, q4, q5⟩ := obj_arr hst hl
  cases h with
  | le k1 k2 k3 k4 k5 =>
    rw [e2] at k1
    cases k1
    obtain ⟨b, hb, rfl⟩ := k4 q2
    exact ⟨bd, b, e2, q2, k2, q3, hb, by rw [q3]⟩

theorem ok_nilCheck (hst : StoreOk M μ st w) (hρ : ∀ x, RepV M μ (ρ x) (ρc x)) {x : Operand} (ho : o.op = .nilCheck x) {res : Res} (h : nilCheckA (getO st) (ρ x) = some res) :
    OpOk M μ st w res ((execOp ρc o).run P w) := by
  have hx := hρ x
  have key : ∀ v, ρc x = v → (match v with | .pointer (some _) => True | .func (.func _) _ _ => True | .iface .. => True | _ => False) → (execOp ρc o).run P w = .ok (.value v) w := fun v e hv => by
    simp only [execOp, ho, e]
    split at hv <;> first | rfl | exact hv.elim
  generalize hax : ρ x = ax at h hx
  cases ax with
  | lp l off =>
    simp only [nilCheckA, Option.some.injEq] at h
    subst h
    refine OpOk.val hst (key _ rfl ?_) hx
    generalize ρc x = v at hx
    cases hx; trivial
  | ip cs off =>
    simp only [nilCheckA, Option.some.injEq] at h
    subst h
    refine OpOk.val hst (key _ rfl ?_) hx
    generalize ρc x = v at hx
    cases hx; trivial
  | fn f cs =>
    simp only [nilCheckA, Option.some.injEq] at h
    subst h
    refine OpOk.val hst (key _ rfl ?_) hx
    generalize ρc x = v at hx
    cases hx; trivial
  | ifc t y =>
    simp only [nilCheckA, Option.some.injEq] at h
    subst h
    refine OpOk.val hst (key _ rfl ?_) hx
    generalize ρc x = v at hx
    cases hx; trivial
  | le l g i off =>
    simp only [nilCheckA] at h
    split at h
    · rename_i c sz rows hl
      cases hg : Nat.beq g c with
      | false => rw [hg] at h; cases h
      | true =>
        rw [hg] at h
        cases h
        obtain ⟨bd, b, k1, k2, k3, k4, k5, k6⟩ := hx.leCur hst hl hg
        exact OpOk.val hst (key _ rfl (by rw [k6]; trivial)) hx
    · cases h
  | _ => simp [nilCheckA] at h

/-! ### places -/
def fieldOff (P : Program) (s : TypeId) (f : Nat) : Option Nat :=
  match P.underlying s with
  | some (.struct fields) => match fields[f]? with
    | some fd => match szT P fd.type with
      | some n => bif Nat.ble 1 n then some fd.offset else none
      | none => none
    | none => none
  | _ => none

theorem run_fieldAt {s : TypeId} {f fo : Nat} (h : fieldOff P s f = some fo) (b o : Nat) (w : World) :
    (Instr.fieldAt s (.pointer (some ⟨b, o, none⟩)) f).run P w = .ok (.pointer (some ⟨b, o + fo, none⟩)) w := by
  unfold fieldOff at h
  split at h
  · rename_i fields hu
    split at h
    · rename_i fd hf
      split at h
      · rename_i n hn
        cases hb : Nat.ble 1 n with
        | false => rw [hb] at h; cases h
        | true =>
          rw [hb] at h
          cases h
          have hn1 : 1 ≤ n := Nat.le_of_ble_eq_true hb
          obtain ⟨i, hi, rfl⟩ := Option.map_eq_some_iff.1 hn
          simp only [Instr.fieldAt, Sem.run_bind, run_underlying hu, Result.andThen_ok, hf]
          simp only [Sem.run_bind, Instr.sureAddr, Sem.run_pure, Result.andThen_ok, fieldPlace, run_sizeOf w hi]
          rw [if_neg (by omega)]
          simp [addr_add]
      · cases h
    · cases h
  · cases h

def fieldAddrA (P : Program) (look : Nat → AObj) (s : TypeId) (x : AV) (f : Nat) : Option Res :=
  match fieldOff P s f with
  | some fo => match x with
    | .lp l o => some ⟨.lp l (o + fo), [], [], []⟩
    | .ip cs o => some ⟨.ip cs (o + fo), [], [], []⟩
    | .le l g i o => match look l with
      | .arr c _ _ => bif Nat.beq g c then some ⟨.le l g i (o + fo), [], [(l, false)], []⟩ else none
      | _ => none
    | _ => none
  | none => none

theorem ok_fieldAddr (hst : StoreOk M μ st w) (hρ : ∀ x, RepV M μ (ρ x) (ρc x)) {s : TypeId} {x : Operand} {f : Nat} (ho : o.op = .fieldAddr s x f) {res : Res}
    (h : fieldAddrA P (getO st) s (ρ x) f = some res) : OpOk M μ st w res ((execOp ρc o).run P w) := by
  have hx := hρ x
  unfold fieldAddrA at h
  split at h
  · rename_i fo hfo
    have key : ∀ b o', ρc x = .pointer (some ⟨b, o', none⟩) → (execOp ρc o).run P w = .ok (.value (.pointer (some ⟨b, o' + fo, none⟩))) w := fun b o' e => by
      simp only [execOp, ho, e]; exact exec_v (run_fieldAt hfo b o' w)
    split at h
    · rename_i l off e
      cases h
      rw [e] at hx
      generalize hv : ρc x = v at *
      cases hx with
      | lp e2 => exact OpOk.val hst (key _ _ rfl) (.lp e2)
    · rename_i cs off e
      cases h
      rw [e] at hx
      generalize hv : ρc x = v at *
      cases hx with
      | ip fv hm hr => exact OpOk.val hst (key _ _ rfl) (by rw [Nat.add_assoc]; exact .ip fv hm hr)
    · rename_i l g i off e
      split at h
      · rename_i c sz rows hl
        cases hg : Nat.beq g c with
        | false => rw [hg] at h; cases h
        | true =>
          rw [hg] at h
          cases h
          rw [e] at hx
          obtain ⟨bd, b, k1, k2, k3, k4, k5, k6⟩ := hx.leCur hst hl hg
          exact OpOk.val hst (key _ _ k6) (.le k1 k3 (by omega) (fun _ => ⟨b, k5, by rw [k4, Nat.add_assoc]⟩) rfl)
      · cases h
    · cases h
  · cases h

def fieldA (P : Program) (s : TypeId) (x : AV) (f : Nat) : Option Res :=
  match P.underlying s with
  | some (.struct fields) => match fields[f]?, x with
    | some fd, .agg cs => (ldA P fd.type cs fd.offset).map fun r => ⟨r, [], [], []⟩
    | _, _ => none
  | _ => none

theorem run_part {t : TypeId} {cs : List AV} {off : Nat} {r : AV} {us : List Value} (h : ldA P t cs off = some r) (hl : us.length = cs.length)
    (hc : ∀ (j : Nat) (a : AV) (u : Value), cs[j]? = some a → us[j]? = some u → RepV M μ a u) (w : World) :
    ∃ v, (part t us.toArray off).run P w = .ok v w ∧ RepV M μ r v := by
  unfold ldA at h
  cases ha : aggT P t with
  | none => simp [ha] at h
  | some agg =>
    cases hs : szT P t with
    | none => cases agg <;> simp [ha, hs] at h
    | some n =>
      obtain ⟨i, hi, rfl⟩ := Option.map_eq_some_iff.1 hs
      cases agg with
      | false =>
        simp only [ha, hs] at h
        have hoff : off < us.length := by rw [hl]; exact (List.getElem?_eq_some_iff.1 h).1
        refine ⟨us[off], ?_, hc off r _ h (List.getElem?_eq_getElem hoff)⟩
        simp only [part, Sem.run_bind, run_isAgg w ha, Result.andThen_ok, Bool.false_eq_true, if_false]
        have : us.toArray[off]? = some us[off] := by simp [hoff]
        rw [this]; rfl
      | true =>
        simp only [ha, hs] at h
        cases hb : Nat.beq ((cs.drop off).take i.size).length i.size with
        | false => rw [hb] at h; cases h
        | true =>
          rw [hb] at h
          cases h
          refine ⟨.agg ((us.drop off).take i.size).toArray, ?_, .agg (by simp [hl]) fun j a u e1 e2 => ?_⟩
          · simp only [part, Sem.run_bind, run_isAgg w ha, Result.andThen_ok, if_true, run_sizeOf w hi, Sem.run_pure]
            congr 2
            apply Array.ext'
            simp
          · rw [List.getElem?_take] at e1 e2
            split at e1
            · rw [List.getElem?_drop] at e1 e2
              exact hc _ a u e1 (by simpa [*] using e2)
            · cases e1

theorem ok_field (hst : StoreOk M μ st w) (hρ : ∀ x, RepV M μ (ρ x) (ρc x)) {s : TypeId} {x : Operand} {f : Nat} (ho : o.op = .field s x f) {res : Res}
    (h : fieldA P s (ρ x) f = some res) : OpOk M μ st w res ((execOp ρc o).run P w) := by
  have hx := hρ x
  unfold fieldA at h
  split at h
  · rename_i fields hu
    split at h
    · rename_i fd cs hf e
      obtain ⟨r, hld, rfl⟩ := Option.map_eq_some_iff.1 h
      rw [e] at hx
      generalize hv : ρc x = v at *
      cases hx with
      | agg hl hr =>
        obtain ⟨u, h1, h2⟩ := run_part (P := P) hld hl hr w
        refine OpOk.val hst (v := u) ?_ h2
        simp only [execOp, ho, hv]
        exact exec_v (by simp [Instr.field, run_underlying hu, hf, asAgg, h1])
    · cases h
  · cases h

/-! ### elements -/
def indexAddrA (P : Program) (look : Nat → AObj) (en : Ent) (t : TypeId) (x ix : AV) : Option Res :=
  match P.underlying t with
  | some (.slice e) => match szT P e, ix with
    | some n, .sc (.int _ i) => match x with
      | .sl sz xs _ => match en with
        | .row k cs => bif Nat.beq n sz then some ⟨.ip cs 0, [], [], [i = (k : Int), xs[k]? = some cs]⟩ else none
        | _ => none
      | .la l g => match look l with
        | .arr c sz rows => match en with
          | .nat k => bif Nat.beq g c && Nat.beq n sz then some ⟨.le l g k 0, [], [(l, false)], [i = (k : Int), k < rows.length]⟩ else none
          | _ => none
        | _ => none
      | _ => none
    | _, _ => none
  | _ => none

theorem run_indexAt {t e : TypeId} {i : TypeInfo} (hu : P.underlying t = some (.slice e)) (hi : P.info? e = some i) {b o n c k : Nat} {kd : IntKind} (hk : k < n) (w : World) :
    (Instr.indexAt t (.slice (some ⟨b, o, none⟩) n c) (.int kd (k : Int))).run P w = .ok (.pointer (some ⟨b, o + k * i.size, none⟩)) w := by
  simp only [Instr.indexAt, Sem.run_bind, asIntOf, Sem.run_pure, Result.andThen_ok, run_underlying hu]
  rw [if_pos ⟨by omega, by omega⟩]
  simp [run_sizeOf w hi, addr_add]

theorem RepV.slc {M : Mem} {μ : List Bd} {sz : Nat} {xs : List (List AV)} {full : Bool} {v : Value} (h : RepV M μ (.sl sz xs full) v) : ∃ A c, v = .slice A xs.length c ∧ xs.length ≤ c ∧ (full = true → c = xs.length) := by
  cases h with
  | sl0 => exact ⟨_, _, rfl, Nat.zero_le _, by simp⟩
  | sl0f => exact ⟨_, _, rfl, Nat.zero_le _, by simp⟩
  | sl f hne hc hf => exact ⟨_, _, rfl, hc, hf⟩

theorem RepV.laCur (hst : StoreOk M μ st w) {l g c sz : Nat} {rows : List (List AV)} {v : Value} (hl : getO st l = .arr c sz rows) (hg : Nat.beq g c = true) (h : RepV M μ (.la l g) v) :
    ∃ bd, st[l]? = some (.arr g sz rows) ∧ μ[l]? = some bd ∧ bd.g = g ∧ 0 < g ∧ bd.sz = sz ∧ bd.k = rows.length ∧
      ((bd.b = none ∧ rows = [] ∧ bd.n = 0 ∧ ∃ A, v = .slice A 0 0) ∨
       ∃ b cc t, bd.b = some b ∧ v = .slice (some ⟨b, 0, none⟩) rows.length bd.n ∧ w.heap[b]? = some (.cells cc t (0, 0)) ∧ cc.size = bd.n * sz ∧ rows.length ≤ bd.n ∧ RowsIn M sz rows cc ∧ ∀ x, M b x = none) := by
  have := Nat.eq_of_beq_eq_true hg
  subst this
  obtain ⟨bd, e1, e2, q1, q2, q3, q4, q5⟩ := obj_arr hst hl
  cases h with
  | la k1 k2 k3 k4 k5 =>
    rw [e2] at k1
    cases k1
    have hv := k4 q2
    refine ⟨bd, e1, e2, q2, k2, q3, q4, ?_⟩
    unfold LaOk at hv
    cases hb : bd.b with
    | none => rw [hb] at hv q5; exact .inl ⟨rfl, q5.1, q5.2, hv⟩
    | some b =>
      rw [hb] at hv q5
      obtain ⟨cc, t, m1, m2, m3, m4, m5, m6⟩ := q5
      exact .inr ⟨b, cc, t, rfl, by rw [hv, q4], m1, m2, m3, ⟨m4, m5⟩, m6⟩

theorem ok_indexAddr (hst : StoreOk M μ st w) (hρ : ∀ x, RepV M μ (ρ x) (ρc x)) {t : TypeId} {x ix : Operand} (ho : o.op = .indexAddr t x ix) {res : Res}
    (h : indexAddrA P (getO st) en t (ρ x) (ρ ix) = some res) (hob : AllP res.ob) : OpOk M μ st w res ((execOp ρc o).run P w) := by
  have hx := hρ x
  have hix := hρ ix
  unfold indexAddrA at h
  split at h
  · rename_i e hu
    split at h
    · rename_i n kd i hn ei
      obtain ⟨ti, hti, rfl⟩ := Option.map_eq_some_iff.1 hn
      rw [ei] at hix
      have hiv := hix.scv
      split at h
      · rename_i sz xs full ex
        split at h
        · rename_i k cs
          cases hb : Nat.beq ti.size sz with
          | false => rw [hb] at h; cases h
          | true =>
            rw [hb] at h
            cases h
            have hsz := Nat.eq_of_beq_eq_true hb
            simp only [AllP, and_true] at hob
            obtain ⟨rfl, hget⟩ := hob
            rw [ex] at hx
            have hk : k < xs.length := (List.getElem?_eq_some_iff.1 hget).1
            generalize hxv : ρc x = v at *
            cases hx with
            | sl0 => simp at hk
            | sl0f => simp at hk
            | @sl _ _ _ _ b o' c f hne hc hf hz hm hr =>
              refine OpOk.val hst (v := .pointer (some ⟨b, o' + k * ti.size, none⟩)) ?_ ?_
              · simp only [execOp, ho, hxv, hiv]
                exact exec_v (run_indexAt hu hti hk w)
              · rw [hsz]
                exact .ip (b := b) (o := o' + k * sz) (off := 0) (f k) (fun j a e => hm k cs j a hget e) (fun j a e => hr k cs j a hget e)
        · cases h
      · rename_i l g ex
        split at h
        · rename_i c sz rows hl
          split at h
          · rename_i k
            cases hb : (Nat.beq g c && Nat.beq ti.size sz) with
            | false => rw [hb] at h; cases h
            | true =>
              rw [hb] at h
              cases h
              simp only [Bool.and_eq_true] at hb
              have hsz := Nat.eq_of_beq_eq_true hb.2
              simp only [AllP, and_true] at hob
              obtain ⟨rfl, hk⟩ := hob
              rw [ex] at hx
              obtain ⟨bd, e1, e2, e3, e4, e5, e6, h7⟩ := hx.laCur hst hl hb.1
              rcases h7 with ⟨_, rfl, _⟩ | ⟨b, cc, ty, k1, k2, _⟩
              · simp at hk
              · refine OpOk.val hst (v := .pointer (some ⟨b, 0 + k * ti.size, none⟩)) ?_ (.le e2 e4 (by omega) (fun _ => ⟨b, k1, by rw [e5, hsz, Nat.zero_add, Nat.add_zero]⟩) rfl)
                simp only [execOp, ho, k2, hiv]
                exact exec_v (run_indexAt hu hti hk w)
          · cases h
        · cases h
      · cases h
    · cases h
  · cases h

def indexA (P : Program) (en : Ent) (t : TypeId) (x ix : AV) : Option Res :=
  match P.underlying t with
  | some .string => match x, ix with
    | .sc (.string s), .sc (.int _ i) => match en with
      | .byte k c => some ⟨.sc (.int .u8 c.toNat), [], [], [i = (k : Int), s[k]? = some c]⟩
      | _ => none
    | _, _ => none
  | _ => none

theorem ok_index (hst : StoreOk M μ st w) (hρ : ∀ x, RepV M μ (ρ x) (ρc x)) {t : TypeId} {x ix : Operand} (ho : o.op = .index t x ix) {res : Res}
    (h : indexA P en t (ρ x) (ρ ix) = some res) (hob : AllP res.ob) : OpOk M μ st w res ((execOp ρc o).run P w) := by
  have hx := hρ x
  have hix := hρ ix
  unfold indexA at h
  split at h
  · rename_i hu
    split at h
    · rename_i s kd i ex ei
      split at h
      · rename_i k c
        cases h
        simp only [AllP, and_true] at hob
        obtain ⟨rfl, hget⟩ := hob
        rw [ex] at hx
        rw [ei] at hix
        refine OpOk.val hst (v := .int .u8 c.toNat) ?_ .sc
        simp only [execOp, ho, hx.scv, hix.scv]
        refine exec_v ?_
        simp only [Instr.index, Sem.run_bind, asIntOf, Sem.run_pure, Result.andThen_ok, run_underlying hu]
        rw [if_pos (by omega), Int.toNat_natCast, hget]
        rfl
      · cases h
    · cases h
  · cases h

/-! ### parts of tuples, interfaces, functions -/
def extractA (x : AV) (i : Nat) : Option Res :=
  match x with
  | .tup vs => (vs[i]?).map fun r => ⟨r, [], [], []⟩
  | _ => none

theorem ok_extract (hst : StoreOk M μ st w) (hρ : ∀ x, RepV M μ (ρ x) (ρc x)) {x : Operand} {i : Nat} (ho : o.op = .extract x i) {res : Res}
    (h : extractA (ρ x) i = some res) : OpOk M μ st w res ((execOp ρc o).run P w) := by
  have hx := hρ x
  unfold extractA at h
  split at h
  · rename_i vs e
    obtain ⟨r, hr, rfl⟩ := Option.map_eq_some_iff.1 h
    rw [e] at hx
    generalize hv : ρc x = v at *
    cases hx with
    | @tup _ _ us hl hrep =>
      have hi : i < us.length := by rw [hl]; exact (List.getElem?_eq_some_iff.1 hr).1
      refine OpOk.val hst (v := us[i]) ?_ (hrep i r _ hr (List.getElem?_eq_getElem hi))
      simp only [execOp, ho, hv]
      refine exec_v ?_
      have : us.toArray[i]? = some us[i] := by simp [hi]
      simp only [Instr.extract, this]; rfl
  · cases h

def ifcA (P : Program) (t : TypeId) (x : AV) : Option Res :=
  match P.underlying t with
  | some (.interface _) => none
  | some _ => some ⟨.ifc t x, [], [], []⟩
  | none => none

theorem ok_makeInterface (hst : StoreOk M μ st w) (hρ : ∀ x, RepV M μ (ρ x) (ρc x)) {t : TypeId} {x : Operand} (ho : o.op = .makeInterface t x) {res : Res}
    (h : ifcA P t (ρ x) = some res) : OpOk M μ st w res ((execOp ρc o).run P w) := by
  unfold ifcA at h
  split at h
  · cases h
  · rename_i d hne hu
    cases h
    refine OpOk.val hst (v := .iface t (ρc x)) ?_ (.ifc (hρ x))
    simp only [execOp, ho]
    refine exec_v ?_
    simp only [Instr.makeInterface, Sem.run_bind, run_underlying hu, Result.andThen_ok]
    cases d <;> first | rfl | exact absurd rfl (hne _)
  · cases h

def fnA (fn : Fn) (first : Array Operand) (caps : List AV) : Option Res :=
  match fn with
  | .func f => bif Nat.beq first.size 0 then some ⟨.fn f caps, [], [], []⟩ else none
  | _ => none

theorem ok_makeFunc (hst : StoreOk M μ st w) (hρ : ∀ x, RepV M μ (ρ x) (ρc x)) {fn : Fn} {first caps : Array Operand} (ho : o.op = .makeFunc fn first caps) {res : Res}
    (h : fnA fn first (caps.toList.map ρ) = some res) : OpOk M μ st w res ((execOp ρc o).run P w) := by
  unfold fnA at h
  split at h
  · rename_i f
    cases hb : Nat.beq first.size 0 with
    | false => rw [hb] at h; cases h
    | true =>
      rw [hb] at h
      cases h
      have h0 : first = #[] := Array.eq_empty_of_size_eq_zero (Nat.eq_of_beq_eq_true hb)
      subst h0
      refine OpOk.val hst (v := .func (.func f) #[] (caps.toList.map ρc).toArray) ?_ (.fn (by simp) fun j a u e1 e2 => ?_)
      · simp only [execOp, ho]
        refine exec_v ?_
        have : Array.map ρc caps = (List.map ρc caps.toList).toArray := by apply Array.ext'; simp
        simp [Instr.makeFunc, this]
      · rw [List.getElem?_map] at e1 e2
        obtain ⟨x, e3, rfl⟩ := Option.map_eq_some_iff.1 e1
        rw [e3] at e2
        cases e2
        exact hρ x
  · cases h

end
end Go.Ae

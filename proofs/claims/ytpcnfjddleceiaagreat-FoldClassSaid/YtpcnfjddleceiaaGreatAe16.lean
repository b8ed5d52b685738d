/- The abstract executor, part 16: a region, in the order of the text or in any other. -/
import Derived.Test.YtpcnfjddleceiaaGreatAe15
namespace Go.Ae

def entOf : List (Nat × Ent) → Nat → Ent
  | [], _ => .no
  | (k, e) :: r, i => bif Nat.beq k i then e else entOf r i

def wantedA (ops : Array Oper) (tm : Nat → AV) (o : Oper) : Option Bool :=
  match o.guard with
  | none => some true
  | some (j, want) => match (ops[j]?).bind (·.dst) with
    | some d => match tm d with
      | .sc (.bool b) => some (bif want then b else !b)
      | .sc (.tuple _) => some false
      | _ => none
    | none => none

def putO (tm : Nat → AV) (d : Option Tmp) (v : AV) : Nat → AV :=
  match d with
  | some d => putT tm d v
  | none => tm

def hasW (l : Nat) : List (Nat × Bool) → Bool
  | [] => false
  | (k, b) :: r => bif Nat.beq k l && b then true else hasW l r

theorem hasW_iff {l : Nat} : ∀ {ac : List (Nat × Bool)}, hasW l ac = true ↔ (l, true) ∈ ac
  | [] => by simp [hasW]
  | (k, b) :: r => by
    simp only [hasW, List.mem_cons, Prod.mk.injEq]
    cases hb : (Nat.beq k l && b) with
    | true =>
      simp only [Bool.and_eq_true] at hb
      simp [Nat.eq_of_beq_eq_true hb.1, hb.2]
    | false =>
      simp only [cond_false, hasW_iff]
      refine ⟨.inr, fun h => h.resolve_left fun ⟨e1, e2⟩ => ?_⟩
      subst e1; subst e2
      simp at hb

def okE (n : Nat) (e : Eff) : Bool := e.wr.all (fun p => Nat.blt p.1 (n + e.pad) && hasW p.1 e.ac) && (List.range e.pad).all fun k => hasW (n + k) e.ac

structure StepR where
  s : ASt
  ac : List (Nat × Bool)
  pad : Nat
  ob : List Prop

def dstOk (N : Nat) : Option Tmp → Bool
  | some d => Nat.blt d N
  | none => true

/-- The places for new blocks: one for each operation that makes one. -/
def slotOf (ops : Array Oper) (base i : Nat) : Nat := base + ((ops.toList.take i).filter allocB).length
def slotsOf (ops : Array Oper) : Nat := (ops.toList.filter allocB).length

def stepA (P : Program) (K : Kinds) (N base : Nat) (ops : Array Oper) (es : List (Nat × Ent)) (i : Nat) (s : ASt) : Option StepR :=
  match ops[i]? with
  | none => none
  | some o => bif dstOk N o.dst then (match wantedA ops s.tm o with
    | some true => (effA P K (slotOf ops base i) (base + slotsOf ops) s.st.length (evA s) (getO s.st) (entOf es i) o).bind fun e =>
        bif okE s.st.length e then some ⟨⟨putO s.tm o.dst e.r, applyE s.st e⟩, e.ac, e.pad, e.ob⟩ else none
    | some false => some ⟨⟨putO s.tm o.dst (.sc undef), s.st⟩, [], 0, []⟩
    | none => none) else none

section
variable {P : Program} {K : Kinds} {N base : Nat} {ops : Array Oper} {es : List (Nat × Ent)} {M : Mem} {μ : List Bd} {w : World} {a : Act}

theorem put_getD (a : Act) (dst : Option Tmp) (v : Value) (t : Nat) : (a.put dst v).tmps.getD t undef = match dst with
    | some d => if t = d ∧ d < a.tmps.size then v else a.tmps.getD t undef
    | none => a.tmps.getD t undef := by
  cases dst with
  | none => rfl
  | some d =>
    simp only [Act.put, Array.getD_eq_getD_getElem?, Array.getElem?_setIfInBounds]
    by_cases h : d = t
    · subst h
      by_cases h2 : d < a.tmps.size
      · simp [h2]
      · simp [h2, Array.getElem?_eq_none (Nat.le_of_not_lt h2)]
    · rw [if_neg h, if_neg (fun e => h e.1.symm)]

theorem Rel.put {M' : Mem} {μ' : List Bd} {s : ASt} {st' : List AObj} {w' : World} {dst : Option Tmp} {r : AV} {v : Value} (h : Rel N M μ s a w) (hd : dstOk N dst = true)
    (hst : StoreOk M' μ' st' w') (hM : M.le M') (hE : EvoAll μ μ') (hr : RepV M' μ' r v) : Rel N M' μ' ⟨putO s.tm dst r, st'⟩ (a.put dst v) w' := by
  refine ⟨?_, ?_, fun t => ?_, hst⟩
  · cases dst <;> simp [Act.put, h.size]
  · cases dst <;> exact h.defers
  · rw [put_getD]
    cases dst with
    | none => exact (h.tm t).mono hM hE
    | some d =>
      have hdl : d < a.tmps.size := by rw [h.size]; exact Nat.le_of_ble_eq_true hd
      simp only [putO, putT]
      cases hb : Nat.beq t d with
      | true =>
        have := Nat.eq_of_beq_eq_true hb
        rw [if_pos ⟨this, hdl⟩]; exact hr
      | false =>
        rw [if_neg (fun e => by rw [e.1] at hb; simp at hb)]
        exact (h.tm t).mono hM hE

theorem wantedA_spec {s : ASt} (h : Rel N M μ s a w) {o : Oper} {b : Bool} (hw : wantedA ops s.tm o = some b) : Region.wanted o (yielded ops a.tmps) = b := by
  unfold wantedA at hw
  unfold Region.wanted
  cases hg : o.guard with
  | none => simp only [hg] at hw ⊢; cases hw; rfl
  | some p =>
    obtain ⟨j, want⟩ := p
    simp only [hg] at hw ⊢
    split at hw
    · rename_i d hd
      split at hw
      · rename_i x e
        cases hw
        have ht := h.tm d
        rw [e] at ht
        have hv := ht.scv
        have hsome : a.tmps[d]? = some (.bool x) := by
          rw [Array.getD_eq_getD_getElem?] at hv
          cases ho : a.tmps[d]? with
          | none => rw [ho] at hv; simp [undef] at hv
          | some u => rw [ho] at hv; simp at hv; rw [hv]
        simp only [yielded, hd, Option.bind_some, hsome]
        cases want <;> cases x <;> rfl
      · rename_i x e
        cases hw
        have ht := h.tm d
        rw [e] at ht
        have hv := ht.scv
        rw [Array.getD_eq_getD_getElem?] at hv
        simp only [yielded, hd, Option.bind_some]
        cases ho : a.tmps[d]? with
        | none => rfl
        | some u => rw [ho] at hv; simp only [Option.getD_some] at hv; subst hv; rfl
      · cases hw
    · cases hw

/-- A step of the abstract executor is one of the machine's. -/
theorem step_ok {i : Nat} {s : ASt} {r : StepR} (h : stepA P K N base ops es i s = some r) (hob : AllP r.ob) (hcap : base + slotsOf ops ≤ s.st.length) (hR : Rel N M μ s a w)
    {K' : Act → World → Prop} {Q : Exit → Act → World → Prop}
    (hK : ∀ a' w' M' μ', Rel N M' μ' r.s a' w' → Stp M μ s.st w M' μ' r.s.st w' → EvoAll μ μ' → K' a' w') : wpOp P ops Q i K' a w := by
  unfold stepA at h
  unfold wpOp
  split at h
  · cases h
  · rename_i o ho
    rw [ho]
    simp only
    cases hd : dstOk N o.dst with
    | false => rw [hd] at h; cases h
    | true =>
      rw [hd] at h
      simp only [cond_true] at h
      split at h
      · rename_i hw
        rw [wantedA_spec hR hw]
        obtain ⟨e, he, h⟩ := Option.bind_eq_some_iff.1 h
        cases hok : okE s.st.length e with
        | false => rw [hok] at h; cases h
        | true =>
          rw [hok] at h
          cases h
          rw [if_pos rfl]
          exact .inl (eff_ok hR.st hcap (evA_rep hR) he hob fun v w' M' μ' h1 h2 h3 h4 => hK _ _ M' μ' (hR.put hd h1 h2.mono h3 h4) h2 h3)
      · rename_i hw
        rw [wantedA_spec hR hw]
        cases h
        rw [if_neg (by simp)]
        exact hK _ _ M μ (hR.put hd hR.st (.refl M) (.refl μ) .sc) (.refl M μ s.st w) (.refl μ)
      · cases h

/-! ### two steps exchanged -/
def noConf (x y : List (Nat × Bool)) : Bool := x.all fun p => y.all fun q => bif Nat.beq p.1 q.1 then !(p.2 || q.2) else true

theorem noConf_spec {x y : List (Nat × Bool)} (h : noConf x y = true) {l : Nat} {b c : Bool} (hx : (l, b) ∈ x) (hy : (l, c) ∈ y) : b = false ∧ c = false := by
  have := List.all_eq_true.1 (List.all_eq_true.1 h _ hx) _ hy
  simp at this
  exact this

theorem getO_apply {st : List AObj} {e : Eff} {l : Nat} (h : ∀ p ∈ e.wr, p.1 ≠ l) : getO (applyE st e) l = getO st l := by
  unfold getO applyE
  rw [List.getD_eq_getElem?_getD, List.getD_eq_getElem?_getD, applyWr_miss _ _ _ h]
  by_cases hl : l < st.length
  · rw [List.getElem?_append_left hl]
  · rw [List.getElem?_append_right (by omega), List.getElem?_eq_none (show st.length ≤ l by omega)]
    cases e2 : (List.replicate e.pad AObj.gone)[l - st.length]? with
    | none => rfl
    | some x => rw [List.eq_of_mem_replicate (List.mem_of_getElem? e2)]; rfl

theorem applyE_length (st : List AObj) (e : Eff) : (applyE st e).length = st.length + e.pad := by
  unfold applyE; rw [applyWr_length]; simp

theorem set_comm_wr : ∀ (wr : List (Nat × AObj)) (st : List AObj) (l : Nat) (o : AObj), (∀ p ∈ wr, p.1 ≠ l) → applyWr (st.set l o) wr = (applyWr st wr).set l o
  | [], _, _, _, _ => rfl
  | p :: wr, st, l, o, h => by
    show applyWr ((st.set l o).set p.1 p.2) wr = (applyWr (st.set p.1 p.2) wr).set l o
    rw [List.set_comm _ _ (Ne.symm (h p (by simp))), set_comm_wr wr _ l o (fun q hq => h q (by simp [hq]))]

theorem applyWr_comm : ∀ (x y : List (Nat × AObj)) (st : List AObj), (∀ p ∈ x, ∀ q ∈ y, p.1 ≠ q.1) → applyWr (applyWr st x) y = applyWr (applyWr st y) x
  | [], _, _, _ => rfl
  | p :: x, y, st, h => by
    show applyWr (applyWr (st.set p.1 p.2) x) y = applyWr ((applyWr st y).set p.1 p.2) x
    rw [applyWr_comm x y _ (fun q hq r hr => h q (by simp [hq]) r hr), set_comm_wr y st p.1 p.2 (fun q hq => Ne.symm (h p (by simp) q hq))]

theorem applyWr_append_left : ∀ (wr : List (Nat × AObj)) (st t : List AObj), (∀ p ∈ wr, p.1 < st.length) → applyWr (st ++ t) wr = applyWr st wr ++ t
  | [], _, _, _ => rfl
  | p :: wr, st, t, h => by
    show applyWr ((st ++ t).set p.1 p.2) wr = applyWr (st.set p.1 p.2) wr ++ t
    rw [List.set_append_left _ _ (h p (by simp)), applyWr_append_left wr _ t (fun q hq => by simpa using h q (by simp [hq]))]

theorem okE_spec {n : Nat} {e : Eff} (h : okE n e = true) : (∀ p ∈ e.wr, p.1 < n + e.pad ∧ (p.1, true) ∈ e.ac) ∧ ∀ k, k < e.pad → (n + k, true) ∈ e.ac := by
  unfold okE at h
  simp only [Bool.and_eq_true, List.all_eq_true] at h
  refine ⟨fun p hp => ?_, fun k hk => hasW_iff.1 (h.2 k (by simpa using hk))⟩
  obtain ⟨h1, h2⟩ := h.1 p hp
  exact ⟨Nat.le_of_ble_eq_true h1, hasW_iff.1 h2⟩

theorem apply_comm {st : List AObj} {x y : Eff} (hx : okE st.length x = true) (hy : okE (st.length + x.pad) y = true) (hc : noConf x.ac y.ac = true) (hp : x.pad = 0 ∨ y.pad = 0) :
    applyE (applyE st x) y = applyE (applyE st y) x ∧ okE st.length y = true ∧ okE (st.length + y.pad) x = true := by
  obtain ⟨x1, x2⟩ := okE_spec hx
  obtain ⟨y1, y2⟩ := okE_spec hy
  have hne : ∀ p ∈ x.wr, ∀ q ∈ y.wr, p.1 ≠ q.1 := fun p hp q hq e => by
    have := noConf_spec hc (x1 p hp).2 (e ▸ (y1 q hq).2)
    cases this.1
  have hylt : ∀ q ∈ y.wr, q.1 < st.length + y.pad := fun q hq => by
    have h := (y1 q hq).1
    rcases hp with h0 | h0
    · omega
    · by_cases hlt : q.1 < st.length
      · omega
      · have := x2 (q.1 - st.length) (by omega)
        rw [show st.length + (q.1 - st.length) = q.1 by omega] at this
        have := noConf_spec hc this (y1 q hq).2
        cases this.1
  refine ⟨?_, ?_, ?_⟩
  · unfold applyE
    rcases hp with h0 | h0
    · rw [h0]
      simp only [List.replicate_zero, List.append_nil]
      have hxlt : ∀ q ∈ x.wr, q.1 < st.length := fun q hq => by have := (x1 q hq).1; omega
      rw [← applyWr_append_left x.wr st _ hxlt, applyWr_comm _ _ _ hne]
    · rw [h0]
      simp only [List.replicate_zero, List.append_nil]
      have hylt' : ∀ q ∈ y.wr, q.1 < st.length := fun q hq => by have := hylt q hq; omega
      rw [← applyWr_append_left y.wr st _ hylt', applyWr_comm _ _ _ hne]
  · unfold okE
    simp only [Bool.and_eq_true, List.all_eq_true]
    refine ⟨fun p hp2 => ⟨Nat.ble_eq_true_of_le (hylt p hp2), hasW_iff.2 (y1 p hp2).2⟩, fun k hk => ?_⟩
    have hk : k < y.pad := by simpa using hk
    rcases hp with h0 | h0
    · have := y2 k hk
      rw [h0, Nat.add_zero] at this
      exact hasW_iff.2 this
    · omega
  · unfold okE
    simp only [Bool.and_eq_true, List.all_eq_true]
    refine ⟨fun p hp2 => ⟨Nat.ble_eq_true_of_le (by have := (x1 p hp2).1; omega), hasW_iff.2 (x1 p hp2).2⟩, fun k hk => ?_⟩
    have hk : k < x.pad := by simpa using hk
    rcases hp with h0 | h0
    · omega
    · have := x2 k hk
      rw [h0, Nat.add_zero]
      exact hasW_iff.2 this

theorem ev_put {s : ASt} {st' : List AObj} {d : Option Tmp} {v : AV} {x : Operand} (h : ∀ t, d = some t → x ≠ .tmp t) : evA ⟨putO s.tm d v, st'⟩ x = evA s x := by
  cases x with
  | tmp t =>
    cases d with
    | none => rfl
    | some d =>
      have : t ≠ d := fun e => h d rfl (by rw [e])
      simp only [evA, putO, putT]
      cases hb : Nat.beq t d with
      | true => exact absurd (Nat.eq_of_beq_eq_true hb) this
      | false => rfl
  | _ => rfl

theorem putO_comm {tm : Nat → AV} {d e : Option Tmp} {u v : AV} (h : ∀ t, d = some t → e ≠ some t) : putO (putO tm d u) e v = putO (putO tm e v) d u := by
  cases d with
  | none => rfl
  | some d =>
    cases e with
    | none => rfl
    | some e =>
      have hne : d ≠ e := fun he => h d rfl (by rw [he])
      funext t
      simp only [putO, putT]
      cases h1 : Nat.beq t e with
      | false => rfl
      | true =>
        have := Nat.eq_of_beq_eq_true h1
        subst this
        cases h2 : Nat.beq t d with
        | false => rfl
        | true => exact absurd (Nat.eq_of_beq_eq_true h2).symm hne

theorem wanted_put {tm : Nat → AV} {o : Oper} {d : Option Tmp} {v : AV} (h : ∀ t, d = some t → t ∉ o.looksAt ops) : wantedA ops (putO tm d v) o = wantedA ops tm o := by
  unfold wantedA
  cases hg : o.guard with
  | none => rfl
  | some p =>
    obtain ⟨j, want⟩ := p
    simp only
    cases hj : (ops[j]?).bind (·.dst) with
    | none => rfl
    | some e =>
      simp only
      cases d with
      | none => rfl
      | some d =>
        have hne : e ≠ d := fun he => h d rfl (by simp [Oper.looksAt, hg, hj, he])
        simp only [putO, putT]
        cases hb : Nat.beq e d with
        | true => exact absurd (Nat.eq_of_beq_eq_true hb) hne
        | false => rfl

theorem looks_operand {o : Oper} {d : Tmp} (h : d ∉ o.looksAt ops) {x : Operand} (hx : x ∈ o.op.operands) : x ≠ .tmp d := fun e => by
  subst e
  refine h ?_
  simp only [Oper.looksAt, List.mem_append, List.mem_filterMap]
  exact .inl ⟨_, by simpa using hx, rfl⟩

theorem swap {i j : Nat} {oi oj : Oper} {s : ASt} {r1 r2 : StepR} (hi : ops[i]? = some oi) (hj : ops[j]? = some oj) (hap : oi.apart ops oj = true)
    (h1 : stepA P K N base ops es i s = some r1) (h2 : stepA P K N base ops es j r1.s = some r2) (hc : noConf r1.ac r2.ac = true) (hp : r1.pad = 0 ∨ r2.pad = 0) :
    ∃ s', stepA P K N base ops es j s = some ⟨s', r2.ac, r2.pad, r2.ob⟩ ∧ stepA P K N base ops es i s' = some ⟨r2.s, r1.ac, r1.pad, r1.ob⟩ := by
  obtain ⟨p1, p2, p3⟩ := Oper.apart_spec hap
  unfold stepA at h1 h2 ⊢
  rw [hi] at h1 ⊢
  rw [hj] at h2 ⊢
  simp only at h1 h2 ⊢
  cases hdi : dstOk N oi.dst with
  | false => rw [hdi] at h1; cases h1
  | true =>
    cases hdj : dstOk N oj.dst with
    | false => rw [hdj] at h2; cases h2
    | true =>
      rw [hdi] at h1
      rw [hdj] at h2
      simp only [cond_true] at h1 h2 ⊢
      -- what the first step is, whatever it did
      cases hwi : wantedA ops s.tm oi with
      | none => rw [hwi] at h1; cases h1
      | some bi =>
        rw [hwi] at h1
        cases bi with
        | false =>
          simp only [Option.some.injEq] at h1
          subst h1
          simp only at h2
          rw [wanted_put (p1)] at h2
          cases hwj : wantedA ops s.tm oj with
          | none => rw [hwj] at h2; cases h2
          | some bj =>
            rw [hwj] at h2
            cases bj with
            | false =>
              simp only [Option.some.injEq] at h2
              subst h2
              refine ⟨_, rfl, ?_⟩
              simp only
              rw [wanted_put (p3), hwi]
              simp only [putO_comm p2]
            | true =>
              simp only at h2
              obtain ⟨e, he, h2⟩ := Option.bind_eq_some_iff.1 h2
              cases hok : okE s.st.length e with
              | false => rw [hok] at h2; cases h2
              | true =>
                rw [hok] at h2
                cases h2
                have he' := eff_loc he (ρ' := evA s) (look' := getO s.st) (endS' := s.st.length) (fun x hx => (ev_put fun t ht => looks_operand (p1 t ht) hx).symm) (fun _ _ => rfl) (.inl rfl)
                refine ⟨⟨putO s.tm oj.dst e.r, applyE s.st e⟩, by rw [he']; simp only [Option.bind_some, hok, cond_true], ?_⟩
                simp only
                rw [wanted_put (p3), hwi]
                simp only [putO_comm p2]
        | true =>
          simp only at h1
          obtain ⟨ei, hei, h1⟩ := Option.bind_eq_some_iff.1 h1
          cases hoki : okE s.st.length ei with
          | false => rw [hoki] at h1; cases h1
          | true =>
            rw [hoki] at h1
            cases h1
            simp only at h2 hc hp
            rw [wanted_put (p1)] at h2
            cases hwj : wantedA ops s.tm oj with
            | none => rw [hwj] at h2; cases h2
            | some bj =>
              rw [hwj] at h2
              cases bj with
              | false =>
                simp only [Option.some.injEq] at h2
                subst h2
                refine ⟨_, rfl, ?_⟩
                simp only
                rw [wanted_put (p3), hwi]
                have he' := eff_loc hei (ρ' := evA ⟨putO s.tm oj.dst (.sc undef), s.st⟩) (look' := getO s.st) (endS' := s.st.length) (fun x hx => ev_put fun t ht => looks_operand (p3 t ht) hx) (fun _ _ => rfl) (.inl rfl)
                simp only [he', Option.bind_some, hoki, cond_true, putO_comm p2]
              | true =>
                simp only at h2
                obtain ⟨ej, hej, h2⟩ := Option.bind_eq_some_iff.1 h2
                cases hokj : okE (applyE s.st ei).length ej with
                | false => rw [hokj] at h2; cases h2
                | true =>
                  rw [hokj] at h2
                  cases h2
                  simp only at hc hp
                  rw [applyE_length] at hokj
                  obtain ⟨q1, q2, q3⟩ := apply_comm hoki hokj hc hp
                  obtain ⟨x1, x2⟩ := okE_spec hoki
                  obtain ⟨y1, y2⟩ := okE_spec hokj
                  -- the second step, taken first
                  have hsame1 : SameAt ej.ac (getO (applyE s.st ei)) (getO s.st) := fun p hp2 => (getO_apply fun q hq e => by
                    have h := (x1 q hq).2
                    rw [e] at h
                    have := noConf_spec hc h (show (p.1, p.2) ∈ ej.ac from hp2)
                    cases this.1).symm
                  have hej' : effA P K (slotOf ops base j) (base + slotsOf ops) s.st.length (evA s) (getO s.st) (entOf es j) oj = some ej := by
                    refine eff_loc hej (fun x hx => (ev_put fun t ht => looks_operand (p1 t ht) hx).symm) hsame1 ?_
                    rcases hp with h0 | h0
                    · refine .inl ?_
                      rw [applyE_length, h0, Nat.add_zero]
                    · refine .inr ⟨h0, fun p hp2 hlt => ?_⟩
                      rw [applyE_length] at hlt
                      by_cases hlt2 : p.1 < s.st.length
                      · exact hlt2
                      · have h := x2 (p.1 - s.st.length) (by omega)
                        rw [show s.st.length + (p.1 - s.st.length) = p.1 by omega] at h
                        have := noConf_spec hc h (show (p.1, p.2) ∈ ej.ac from hp2)
                        cases this.1
                  refine ⟨⟨putO s.tm oj.dst ej.r, applyE s.st ej⟩, by rw [hej']; simp only [Option.bind_some, q2, cond_true], ?_⟩
                  simp only
                  rw [wanted_put (p3), hwi]
                  have hsame2 : SameAt ei.ac (getO s.st) (getO (applyE s.st ej)) := fun p hp2 => getO_apply fun q hq e => by
                    have h := (y1 q hq).2
                    rw [e] at h
                    have := noConf_spec hc (show (p.1, p.2) ∈ ei.ac from hp2) h
                    cases this.2
                  have hei' : effA P K (slotOf ops base i) (base + slotsOf ops) (applyE s.st ej).length (evA ⟨putO s.tm oj.dst ej.r, applyE s.st ej⟩) (getO (applyE s.st ej)) (entOf es i) oi = some ei := by
                    refine eff_loc hei (fun x hx => ev_put fun t ht => looks_operand (p3 t ht) hx) hsame2 ?_
                    rw [applyE_length]
                    rcases hp with h0 | h0
                    · exact .inr ⟨h0, fun p _ hlt => by omega⟩
                    · exact .inl (by omega)
                  rw [applyE_length] at hei'
                  simp only [applyE_length, hei', Option.bind_some, q3, cond_true, putO_comm p2, q1]
end
end Go.Ae

/- The abstract executor, part 17: regions. -/
import Derived.Test.YtpcnfjddleceiaaGreatAe16
namespace Go.Ae

section
variable (P : Program) (K : Kinds) (N base : Nat) (ops : Array Oper) (es : List (Nat × Ent))

inductive Run (rc : Nat → List (Nat × Bool) × Nat) : List Nat → ASt → ASt → Prop
  | nil {s} : Run rc [] s s
  | cons {i L s s'} (r : StepR) (h : stepA P K N base ops es i s = some r) (hob : AllP r.ob) (hrc : rc i = (r.ac, r.pad)) (k : Run rc L r.s s') : Run rc (i :: L) s s'

def evOps : List Nat → ASt → Option (ASt × List (Nat × List (Nat × Bool) × Nat) × List Prop)
  | [], s => some (s, [], [])
  | i :: L, s => (stepA P K N base ops es i s).bind fun r => (evOps L r.s).map fun q => (q.1, (i, r.ac, r.pad) :: q.2.1, r.ob ++ q.2.2)
end

section
variable {P : Program} {K : Kinds} {N base : Nat} {ops : Array Oper} {es : List (Nat × Ent)} {M : Mem} {μ : List Bd} {w : World} {a : Act} {rc : Nat → List (Nat × Bool) × Nat}

theorem step_length {i : Nat} {s : ASt} {r : StepR} (h : stepA P K N base ops es i s = some r) : s.st.length ≤ r.s.st.length := by
  unfold stepA at h
  split at h
  · cases h
  · rename_i o ho
    cases hd : dstOk N o.dst with
    | false => rw [hd] at h; cases h
    | true =>
      rw [hd] at h
      simp only [cond_true] at h
      split at h
      · obtain ⟨e, he, h⟩ := Option.bind_eq_some_iff.1 h
        cases hok : okE s.st.length e with
        | false => rw [hok] at h; cases h
        | true => rw [hok] at h; cases h; simp only [applyE_length]; omega
      · cases h; exact Nat.le_refl _
      · cases h

theorem Run.length {L : List Nat} {s s' : ASt} (h : Run P K N base ops es rc L s s') : s.st.length ≤ s'.st.length := by
  induction h with
  | nil => exact Nat.le_refl _
  | cons r h _ _ _ ih => exact Nat.le_trans (step_length h) ih

theorem Run.ok {Q : Exit → Act → World → Prop} {L : List Nat} {s s' : ASt} (h : Run P K N base ops es rc L s s') : ∀ {M : Mem} {μ : List Bd} {a : Act} {w : World}, base + slotsOf ops ≤ s.st.length → Rel N M μ s a w →
    (∀ a' w' M' μ', Rel N M' μ' s' a' w' → Stp M μ s.st w M' μ' s'.st w' → EvoAll μ μ' → Q .normal a' w') → wpOps P ops Q L a w := by
  induction h with
  | nil => intro M μ a w _ hR hK; exact hK a w M μ hR (.refl ..) (.refl μ)
  | cons r h hob hrc k ih =>
    intro M μ a w hcap hR hK
    rw [wpOps_cons]
    exact step_ok h hob hcap hR fun a1 w1 M1 μ1 r1 p1 e1 => ih (Nat.le_trans hcap (step_length h)) r1 fun a2 w2 M2 μ2 r2 p2 e2 => hK a2 w2 M2 μ2 r2 (p1.trans p2) (e1.trans e2)

/-! ### whatever order -/
def OkPair (ops : Array Oper) (rc : Nat → List (Nat × Bool) × Nat) (i j : Nat) : Prop :=
  ∃ oi oj, ops[i]? = some oi ∧ ops[j]? = some oj ∧ oi.apart ops oj = true ∧ noConf (rc i).1 (rc j).1 = true ∧ ((rc i).2 = 0 ∨ (rc j).2 = 0)

theorem Run.front {j : Nat} {L2 : List Nat} {s' : ASt} : ∀ {L1 : List Nat} {s : ASt}, Run P K N base ops es rc (L1 ++ j :: L2) s s' → (∀ i ∈ L1, OkPair ops rc i j) → Run P K N base ops es rc (j :: (L1 ++ L2)) s s'
  | [], s, h, _ => h
  | i :: L1, s, h, hp => by
    cases h with
    | cons r h1 hob hrc k =>
      have k' := Run.front k (fun i hi => hp i (by simp [hi]))
      cases k' with
      | cons r2 h2 hob2 hrc2 k2 =>
        obtain ⟨oi, oj, e1, e2, hap, hc, hpad⟩ := hp i (by simp)
        rw [hrc, hrc2] at hc hpad
        obtain ⟨s1, q1, q2⟩ := swap e1 e2 hap h1 h2 hc hpad
        exact .cons _ q1 hob2 hrc2 (.cons _ q2 hob hrc k2)

/-- The operations that must stand ahead of an operation, in every order. -/
def predMask (acc : List Nat) (l : List Edge) : Nat :=
  match l with
  | [] => 0
  | e :: r => bif Region.binds .any e then (predMask acc r ||| (2 ^ e.on ||| acc.getD e.on 0)) else predMask acc r

def masks : List Oper → List Nat → List Nat
  | [], acc => acc
  | o :: r, acc => masks r (acc ++ [predMask acc o.after.toList])

theorem predMask_bit {acc : List Nat} {i : Nat} : ∀ {l : List Edge}, (predMask acc l).testBit i = true → ∃ e ∈ l, Region.binds .any e = true ∧ (i = e.on ∨ (acc.getD e.on 0).testBit i = true)
  | [], h => by simp [predMask] at h
  | e :: r, h => by
    simp only [predMask] at h
    cases hb : Region.binds .any e with
    | false =>
      rw [hb] at h
      obtain ⟨e', he, h1, h2⟩ := predMask_bit h
      exact ⟨e', by simp [he], h1, h2⟩
    | true =>
      rw [hb] at h
      simp only [cond_true, Nat.testBit_or, Bool.or_eq_true] at h
      rcases h with h | h | h
      · obtain ⟨e', he, h1, h2⟩ := predMask_bit h
        exact ⟨e', by simp [he], h1, h2⟩
      · rw [Nat.testBit_two_pow] at h
        simp at h
        exact ⟨e, by simp, hb, .inl h.symm⟩
      · exact ⟨e, by simp, hb, .inr h⟩

theorem masks_get : ∀ (l : List Oper) (acc : List Nat) (j : Nat), (j < acc.length → (masks l acc)[j]? = acc[j]?) ∧
    ((masks l acc).length = acc.length + l.length) ∧
    (∀ o, acc.length ≤ j → l[j - acc.length]? = some o → ∃ pre, pre.length = j ∧ (∀ k, k < j → (masks l acc)[k]? = pre[k]?) ∧ (masks l acc)[j]? = some (predMask pre o.after.toList))
  | [], acc, j => ⟨fun _ => rfl, rfl, fun o _ h => by simp at h⟩
  | o :: r, acc, j => by
    simp only [masks]
    obtain ⟨h1, h2, h3⟩ := masks_get r (acc ++ [predMask acc o.after.toList]) j
    refine ⟨fun hj => ?_, by rw [h2]; simp; omega, fun o' hj ho => ?_⟩
    · rw [h1 (by simp; omega), List.getElem?_append_left hj]
    · by_cases he : j = acc.length
      · subst he
        simp at ho
        subst ho
        refine ⟨acc, rfl, fun k hk => ?_, ?_⟩
        · obtain ⟨q1, _, _⟩ := masks_get r (acc ++ [predMask acc o.after.toList]) k
          rw [q1 (by simp; omega), List.getElem?_append_left hk]
        · rw [h1 (by simp)]; simp
      · refine h3 o' (by simp; omega) ?_
        rw [show j - acc.length = (j - (acc.length + 1)) + 1 by omega] at ho
        simpa using ho

/-- What has been done is closed under 'must stand ahead'. -/
def Closed (ops : Array Oper) (listed : Array Bool) : Prop :=
  ∀ (j : Nat) (o : Oper), ops[j]? = some o → listed.getD j false = true → ∀ e ∈ o.after.toList, Region.binds .any e = true → listed.getD e.on false = true

def edgesOk (ops : Array Oper) : Bool := ops.toList.zipIdx.all fun p => p.1.after.toList.all fun e => bif Region.binds .any e then Nat.blt e.on p.2 else true

theorem edgesOk_spec (h : edgesOk ops = true) {j : Nat} {o : Oper} (ho : ops[j]? = some o) {e : Edge} (he : e ∈ o.after.toList) (hb : Region.binds .any e = true) : e.on < j := by
  unfold edgesOk at h
  have := List.all_eq_true.1 h (o, j) (List.mem_of_getElem? (i := j) (by simp [List.getElem?_zipIdx, ho]))
  have := List.all_eq_true.1 this e he
  rw [hb] at this
  exact Nat.le_of_ble_eq_true this

theorem mask_listed (hedge : edgesOk ops = true) {listed : Array Bool} (hcl : Closed ops listed) : ∀ (n j : Nat), j ≤ n → ∀ (o : Oper), ops[j]? = some o → (∀ e ∈ o.after.toList, Region.binds .any e = true → listed.getD e.on false = true) →
    ∀ i, ((masks ops.toList []).getD j 0).testBit i = true → listed.getD i false = true := by
  intro n
  induction n with
  | zero =>
    intro j hj o ho hready i hi
    obtain rfl : j = 0 := by omega
    obtain ⟨_, _, h3⟩ := masks_get ops.toList [] 0
    obtain ⟨pre, p1, p2, p3⟩ := h3 o (by simp) (by simpa using ho)
    rw [List.getD_eq_getElem?_getD, p3] at hi
    simp only [Option.getD_some] at hi
    obtain ⟨e, he, hb, _⟩ := predMask_bit hi
    have := edgesOk_spec hedge ho he hb
    omega
  | succ n ih =>
    intro j hj o ho hready i hi
    obtain ⟨_, _, h3⟩ := masks_get ops.toList [] j
    obtain ⟨pre, p1, p2, p3⟩ := h3 o (by simp) (by simpa using ho)
    rw [List.getD_eq_getElem?_getD, p3] at hi
    simp only [Option.getD_some] at hi
    obtain ⟨e, he, hb, h⟩ := predMask_bit hi
    have hlt := edgesOk_spec hedge ho he hb
    have hl := hready e he hb
    rcases h with rfl | h
    · exact hl
    · have hjs : j < ops.size := (Array.getElem?_eq_some_iff.1 ho).1
      have hoe : ops[e.on]? = some ops[e.on] := Array.getElem?_eq_getElem (by omega)
      refine ih e.on (by omega) _ hoe (fun e' he' hb' => hcl e.on _ hoe hl e' he' hb') i ?_
      rw [List.getD_eq_getElem?_getD] at h ⊢
      rw [p2 e.on hlt]
      exact h

def todoOf (n : Nat) (listed : Array Bool) : List Nat := (List.range n).filter fun i => !listed.getD i false

theorem todo_mem {n : Nat} {listed : Array Bool} {i : Nat} : i ∈ todoOf n listed ↔ i < n ∧ listed.getD i false = false := by
  simp [todoOf]

theorem getD_set_bool (listed : Array Bool) (i j : Nat) (hi : i < listed.size) : (listed.setIfInBounds i true).getD j false = if i = j then true else listed.getD j false := by
  simp only [Array.getD_eq_getD_getElem?, Array.getElem?_setIfInBounds]
  split
  · rename_i h; subst h; simp [hi]
  · rfl

theorem range_split {n j : Nat} (h : j < n) : List.range n = List.range j ++ j :: (List.range (n - j - 1)).map (fun k => j + 1 + k) := by
  apply List.ext_getElem?
  intro i
  by_cases h1 : i < j
  · rw [List.getElem?_append_left (by simpa using h1)]
    simp [h1, show i < n by omega]
  · rw [List.getElem?_append_right (by simpa using Nat.le_of_not_lt h1)]
    simp only [List.length_range]
    by_cases h2 : i = j
    · subst h2; simp [h]
    · rw [show i - j = (i - j - 1) + 1 by omega, List.getElem?_cons_succ, List.getElem?_map]
      by_cases h3 : i < n
      · rw [List.getElem?_range h3, List.getElem?_range (by omega)]
        simp; omega
      · rw [List.getElem?_eq_none (by simpa using h3), List.getElem?_eq_none (by simp; omega)]
        rfl

/-- What is left to do, parted at one of it. -/
theorem todo_split {n : Nat} {listed : Array Bool} {j : Nat} (hj : j ∈ todoOf n listed) (hs : listed.size = n) :
    ∃ L1 L2, todoOf n listed = L1 ++ j :: L2 ∧ todoOf n (listed.setIfInBounds j true) = L1 ++ L2 ∧ ∀ i ∈ L1, i < j ∧ listed.getD i false = false := by
  obtain ⟨hjn, hjl⟩ := todo_mem.1 hj
  have hsp := range_split hjn
  refine ⟨(List.range j).filter (fun i => !listed.getD i false), ((List.range (n - j - 1)).map (fun k => j + 1 + k)).filter (fun i => !listed.getD i false), ?_, ?_, fun i hi => by simpa using hi⟩
  · unfold todoOf
    rw [hsp, List.filter_append, List.filter_cons_of_pos (by simp [hjl])]
  · unfold todoOf
    rw [hsp, List.filter_append, List.filter_cons_of_neg (by simp [getD_set_bool _ _ _ (show j < listed.size by omega)])]
    congr 1
    · apply List.filter_congr
      intro i hi
      rw [getD_set_bool _ _ _ (by omega), if_neg (by have := List.mem_range.1 hi; omega)]
    · apply List.filter_congr
      intro i hi
      obtain ⟨k, _, rfl⟩ := List.mem_map.1 hi
      rw [getD_set_bool _ _ _ (by omega), if_neg (by omega)]

theorem Run.any {Q : Exit → Act → World → Prop} {s' : ASt} (hedge : edgesOk ops = true)
    (hpairs : ∀ i j, i < j → j < ops.size → ((masks ops.toList []).getD j 0).testBit i = true ∨ OkPair ops rc i j) :
    ∀ (fuel : Nat) (listed : Array Bool) (s : ASt) (M : Mem) (μ : List Bd) (a : Act) (w : World), listed.size = ops.size → Closed ops listed → (todoOf ops.size listed).length = fuel →
      Run P K N base ops es rc (todoOf ops.size listed) s s' → base + slotsOf ops ≤ s.st.length → Rel N M μ s a w →
      (∀ a' w' M' μ', Rel N M' μ' s' a' w' → Stp M μ s.st w M' μ' s'.st w' → EvoAll μ μ' → Q .normal a' w') → wpAny P .any ops Q fuel listed a w := by
  have hready : ∀ (listed : Array Bool), listed.size = ops.size → ∀ j, j ∈ Region.ready .any ops listed ↔
      j ∈ todoOf ops.size listed ∧ ∃ o, ops[j]? = some o ∧ ∀ e ∈ o.after.toList, Region.binds .any e = true → listed.getD e.on false = true := fun listed hs j => by
    rw [todo_mem]
    simp only [Region.ready, List.mem_filter, List.mem_range, Bool.and_eq_true]
    constructor
    · rintro ⟨h1, h2, h3⟩
      have ho : ops[j]? = some ops[j] := Array.getElem?_eq_getElem h1
      refine ⟨⟨h1, ?_⟩, ops[j], ho, fun e he hb => ?_⟩
      · simp only [Array.getD_eq_getD_getElem?, Array.getElem?_eq_getElem (show j < listed.size by omega)] at h2 ⊢
        simpa using h2
      · rw [ho] at h3
        simp only [Option.map_some, Option.getD_some, Array.all_eq_true_iff_forall_mem] at h3
        have := h3 e (by simpa using he)
        simpa [hb] using this
    · rintro ⟨⟨h1, h2⟩, o, ho, h3⟩
      refine ⟨h1, ?_, ?_⟩
      · simp only [Array.getD_eq_getD_getElem?, Array.getElem?_eq_getElem (show j < listed.size by omega)] at h2 ⊢
        simpa using h2
      · rw [ho]
        simp only [Option.map_some, Option.getD_some, Array.all_eq_true_iff_forall_mem]
        intro e he
        cases hb : Region.binds .any e with
        | false => rfl
        | true => simpa using h3 e (by simpa using he) hb
  intro fuel
  induction fuel with
  | zero =>
    intro listed s M μ a w hs hcl hlen hrun hcap hR hK
    have hnil := List.eq_nil_of_length_eq_zero hlen
    refine ⟨?_, ?_⟩
    · cases hr : Region.ready .any ops listed with
      | nil => rfl
      | cons x xs =>
        have : x ∈ Region.ready .any ops listed := by rw [hr]; simp
        have := ((hready listed hs x).1 this).1
        rw [hnil] at this
        simp at this
    · rw [hnil] at hrun
      cases hrun
      exact hK a w M μ hR (.refl ..) (.refl μ)
  | succ fuel ih =>
    intro listed s M μ a w hs hcl hlen hrun hcap hR hK
    refine ⟨fun hr => ?_, fun j hj => ?_⟩
    · -- the first of what is left is always ready
      exfalso
      cases ht : todoOf ops.size listed with
      | nil => rw [ht] at hlen; simp at hlen
      | cons x xs =>
        have hx : x ∈ todoOf ops.size listed := by rw [ht]; simp
        obtain ⟨hxn, hxl⟩ := todo_mem.1 hx
        have : x ∈ Region.ready .any ops listed := (hready listed hs x).2 ⟨hx, ops[x], Array.getElem?_eq_getElem hxn, fun e he hb => by
          have hlt := edgesOk_spec hedge (Array.getElem?_eq_getElem hxn) he hb
          cases hle : listed.getD e.on false with
          | true => rfl
          | false =>
            exfalso
            have hm : e.on ∈ todoOf ops.size listed := todo_mem.2 ⟨by omega, hle⟩
            obtain ⟨L1, L2, q1, _, q3⟩ := todo_split hx hs
            rw [q1] at ht
            cases L1 with
            | cons y ys =>
              have : y = x := by simpa using (List.cons.inj ht).1
              have := (q3 y (by simp)).1
              omega
            | nil =>
              obtain ⟨L3, L4, r1, _, r3⟩ := todo_split hm hs
              rw [q1] at r1
              cases L3 with
              | nil => have : x = e.on := by simpa using (List.cons.inj r1).1
                       omega
              | cons y ys =>
                have h1 : x = y := by simpa using (List.cons.inj r1).1
                have := (r3 y (by simp)).1
                omega⟩
        rw [hr] at this
        simp at this
    · obtain ⟨hjt, o, ho, hje⟩ := (hready listed hs j).1 hj
      obtain ⟨L1, L2, q1, q2, q3⟩ := todo_split hjt hs
      obtain ⟨hjn, _⟩ := todo_mem.1 hjt
      rw [q1] at hrun
      have hfront := hrun.front fun i hi => by
        obtain ⟨hij, hil⟩ := q3 i hi
        rcases hpairs i j hij hjn with h | h
        · have := mask_listed hedge hcl j j (Nat.le_refl j) o ho hje i h
          rw [this] at hil; cases hil
        · exact h
      cases hfront with
      | cons r h1 hob hrc k =>
        refine step_ok h1 hob hcap hR fun a1 w1 M1 μ1 r1 p1 e1 => ?_
        refine ih (listed.setIfInBounds j true) r.s M1 μ1 a1 w1 (by simpa using hs) (fun i o' ho' hl e he hb => ?_) (by rw [q1] at hlen; rw [q2]; simp at hlen ⊢; omega) (by rw [q2]; exact k)
          (Nat.le_trans hcap (step_length h1)) r1 fun a2 w2 M2 μ2 r2 p2 e2 => hK a2 w2 M2 μ2 r2 (p1.trans p2) (e1.trans e2)
        rw [getD_set_bool _ _ _ (by omega)] at hl ⊢
        split
        · rfl
        · by_cases hij : j = i
          · subst hij
            rw [ho] at ho'
            cases ho'
            exact hje e he hb
          · rw [if_neg hij] at hl
            exact hcl i o' ho' hl e he hb

end
end Go.Ae

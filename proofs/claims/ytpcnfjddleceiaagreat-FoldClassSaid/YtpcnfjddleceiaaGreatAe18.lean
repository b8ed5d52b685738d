/- The abstract executor, part 18: code. -/
import Derived.Test.YtpcnfjddleceiaaGreatAe17
import Derived.LoopN
namespace Go.Ae

/-! ### a region -/
abbrev Rec := List (Nat × List (Nat × Bool) × Nat)

def recOf : Rec → Nat → List (Nat × Bool) × Nat
  | [], _ => ([], 0)
  | (k, x) :: r, i => bif Nat.beq k i then x else recOf r i

def apartB (ops : Array Oper) (i j : Nat) : Bool :=
  match ops[i]?, ops[j]? with
  | some x, some y => x.apart ops y
  | _, _ => false

def pairB (ops : Array Oper) (ms : List Nat) (x y : Nat × List (Nat × Bool) × Nat) : Bool :=
  bif Nat.blt x.1 y.1 then
    (bif (ms.getD y.1 0).testBit x.1 then true
     else bif noConf x.2.1 y.2.1 then (bif (bif Nat.beq x.2.2 0 then true else Nat.beq y.2.2 0) then apartB ops x.1 y.1 else false) else false)
  else true

def pairsOk (ops : Array Oper) (ms : List Nat) (rec : Rec) : Bool := rec.all fun y => rec.all fun x => pairB ops ms x y

def padS (n : Nat) (s : ASt) : ASt := ⟨s.tm, s.st ++ List.replicate n .gone⟩

def evReg (P : Program) (K : Kinds) (N : Nat) (ops : Array Oper) (draw : Bool) (es : List (Nat × Ent)) (s : ASt) : Option (ASt × List Prop) :=
  match evOps P K N s.st.length ops es (List.range ops.size) (padS (slotsOf ops) s) with
  | some (s', rec, ob) => bif draw then (bif P.follows .mixedOrders && edgesOk ops && pairsOk ops (masks ops.toList []) rec then some (s', ob) else none) else some (s', ob)
  | none => none

section
variable {P : Program} {K : Kinds} {N base : Nat} {ops : Array Oper} {es : List (Nat × Ent)} {M : Mem} {μ : List Bd} {w : World} {a : Act}

theorem evOps_run {rc : Nat → List (Nat × Bool) × Nat} : ∀ {L : List Nat} {s s' : ASt} {rec : Rec} {ob : List Prop}, evOps P K N base ops es L s = some (s', rec, ob) → AllP ob →
    (∀ p ∈ rec, rc p.1 = p.2) → Run P K N base ops es rc L s s' ∧ rec.map (·.1) = L
  | [], s, s', rec, ob, h, _, _ => by simp only [evOps, Option.some.injEq, Prod.mk.injEq] at h; obtain ⟨rfl, rfl, rfl⟩ := h; exact ⟨.nil, rfl⟩
  | i :: L, s, s', rec, ob, h, hob, hrc => by
    simp only [evOps] at h
    obtain ⟨r, hr, h⟩ := Option.bind_eq_some_iff.1 h
    obtain ⟨q, hq, h⟩ := Option.map_eq_some_iff.1 h
    simp only [Prod.mk.injEq] at h
    obtain ⟨rfl, rfl, rfl⟩ := h
    obtain ⟨h1, h2⟩ := AllP_append.1 hob
    obtain ⟨k1, k2⟩ := evOps_run (s := r.s) (s' := q.1) (rec := q.2.1) (ob := q.2.2) hq h2 fun p hp => hrc p (by simp [hp])
    exact ⟨.cons r hr h1 (hrc (i, r.ac, r.pad) (by simp)) k1, by simp [k2]⟩

theorem evOps_keys : ∀ {L : List Nat} {s s' : ASt} {rec : Rec} {ob : List Prop}, evOps P K N base ops es L s = some (s', rec, ob) → rec.map (·.1) = L
  | [], s, s', rec, ob, h => by simp only [evOps, Option.some.injEq, Prod.mk.injEq] at h; obtain ⟨rfl, rfl, rfl⟩ := h; rfl
  | i :: L, s, s', rec, ob, h => by
    simp only [evOps] at h
    obtain ⟨r, hr, h⟩ := Option.bind_eq_some_iff.1 h
    obtain ⟨q, hq, h⟩ := Option.map_eq_some_iff.1 h
    simp only [Prod.mk.injEq] at h
    obtain ⟨rfl, rfl, rfl⟩ := h
    simp [evOps_keys (s := r.s) (s' := q.1) (rec := q.2.1) (ob := q.2.2) hq]

theorem recOf_mem : ∀ {rec : Rec}, (rec.map (·.1)).Nodup → ∀ p ∈ rec, recOf rec p.1 = p.2
  | [], _, p, h => by simp at h
  | (k, x) :: r, hn, p, h => by
    simp only [List.map_cons, List.nodup_cons] at hn
    simp only [recOf]
    rcases List.mem_cons.1 h with rfl | h
    · simp
    · cases hb : Nat.beq k p.1 with
      | true =>
        have := Nat.eq_of_beq_eq_true hb
        exact absurd (List.mem_map.2 ⟨p, h, this.symm⟩) hn.1
      | false => exact recOf_mem hn.2 p h

theorem pairsOk_spec {rec : Rec} (h : pairsOk ops (masks ops.toList []) rec = true) (hk : rec.map (·.1) = List.range ops.size) (i j : Nat) (hij : i < j) (hj : j < ops.size) :
    ((masks ops.toList []).getD j 0).testBit i = true ∨ OkPair ops (recOf rec) i j := by
  have hnd : (rec.map (·.1)).Nodup := by rw [hk]; exact List.nodup_range
  have mem : ∀ k, k < ops.size → ∃ p ∈ rec, p.1 = k := fun k hk' => by
    have : k ∈ rec.map (·.1) := by rw [hk]; simpa using hk'
    obtain ⟨p, hp, e⟩ := List.mem_map.1 this
    exact ⟨p, hp, e⟩
  obtain ⟨p, hp, rfl⟩ := mem i (by omega)
  obtain ⟨q, hq, rfl⟩ := mem j hj
  have := List.all_eq_true.1 (List.all_eq_true.1 h q hq) p hp
  unfold pairB at this
  rw [show Nat.blt p.1 q.1 = true from Nat.ble_eq_true_of_le hij] at this
  simp only [cond_true] at this
  cases hb : ((masks ops.toList []).getD q.1 0).testBit p.1 with
  | true => exact .inl rfl
  | false =>
    refine .inr ?_
    rw [hb] at this
    simp only [cond_false] at this
    cases hc : noConf p.2.1 q.2.1 with
    | false => rw [hc] at this; cases this
    | true =>
      rw [hc] at this
      simp only [cond_true] at this
      cases hz : (bif Nat.beq p.2.2 0 then true else Nat.beq q.2.2 0) with
      | false => rw [hz] at this; cases this
      | true =>
        rw [hz] at this
        simp only [cond_true] at this
        unfold apartB at this
        split at this
        · rename_i x y h1 h2
          refine ⟨x, y, h1, h2, this, ?_, ?_⟩
          · rw [recOf_mem hnd p hp, recOf_mem hnd q hq]; exact hc
          · rw [recOf_mem hnd p hp, recOf_mem hnd q hq]
            cases h0 : Nat.beq p.2.2 0 with
            | true => exact .inl (Nat.eq_of_beq_eq_true h0)
            | false => rw [h0] at hz; exact .inr (Nat.eq_of_beq_eq_true hz)
        · cases this

/-- The code, from this state, comes out so, in that state. -/
def T (P : Program) (N m : Nat) (c : Code) (s : ASt) (e : Exit) (s' : ASt) : Prop := ∀ (M : Mem) (μ : List Bd) (a : Act) (w : World), Rel N M μ s a w → ∀ Q : Exit → Act → World → Prop,
  (∀ a' w' M' μ', Rel N M' μ' s' a' w' → Stp M μ s.st w M' μ' s'.st w' → EvoTo m μ μ' → Q e a' w') → c.wp P Q a w

theorem Rel.pad {s : ASt} (h : Rel N M μ s a w) (n : Nat) : Rel N M (μ ++ List.replicate n Bd.zero) (padS n s) a w ∧ Stp M μ s.st w M (μ ++ List.replicate n Bd.zero) (padS n s).st w ∧
    EvoAll μ (μ ++ List.replicate n Bd.zero) := by
  obtain ⟨h1, h2, h3⟩ := h.st.pad n
  exact ⟨⟨h.size, h.defers, fun t => (h.tm t).mono (.refl M) h2, h1⟩, h3, h2⟩

theorem todo_all (n : Nat) : todoOf n (Array.replicate n false) = List.range n := by
  unfold todoOf
  rw [List.filter_eq_self]
  intro i hi
  simp at hi
  simp [Array.getD_eq_getD_getElem?, hi]

theorem evReg_sound {draw : Bool} {id m : Nat} {s s' : ASt} {ob : List Prop} (h : evReg P K N ops draw es s = some (s', ob)) (hob : AllP ob) : T P N m (.region id ops draw) s .normal s' := by
  intro M μ a w hR Q hQ
  unfold evReg at h
  obtain ⟨p1, p2, p3⟩ := hR.pad (slotsOf ops)
  have hcap : s.st.length + slotsOf ops ≤ (padS (slotsOf ops) s).st.length := by simp [padS]
  split at h
  · rename_i s1 rec ob1 he
    cases draw with
    | false =>
      simp only [cond_false, Option.some.injEq, Prod.mk.injEq] at h
      obtain ⟨rfl, rfl⟩ := h
      have hk := evOps_keys he
      obtain ⟨k1, _⟩ := evOps_run he hob (recOf_mem (by rw [hk]; exact List.nodup_range))
      exact wp_region (k1.ok hcap p1 fun a' w' M' μ' r1 r2 r3 => hQ a' w' M' μ' r1 (p2.trans r2) ((p3.trans r3).to m))
    | true =>
      simp only [cond_true] at h
      cases hc : (P.follows .mixedOrders && edgesOk ops && pairsOk ops (masks ops.toList []) rec) with
      | false => rw [hc] at h; cases h
      | true =>
        rw [hc] at h
        simp only [cond_true, Option.some.injEq, Prod.mk.injEq] at h
        obtain ⟨rfl, rfl⟩ := h
        simp only [Bool.and_eq_true] at hc
        obtain ⟨⟨hc1, hc2⟩, hc3⟩ := hc
        have hk := evOps_keys he
        obtain ⟨k1, _⟩ := evOps_run he hob (recOf_mem (by rw [hk]; exact List.nodup_range))
        refine wp_region_any hc1 ?_
        refine Run.any (rc := recOf rec) hc2 (pairsOk_spec hc3 hk) _ _ _ M (μ ++ List.replicate (slotsOf ops) Bd.zero) a { w with drawn := w.drawn + 1 } (by simp) (fun j o _ hl => ?_) (by rw [todo_all]; simp) (by rw [todo_all]; exact k1) hcap
          ⟨p1.size, p1.defers, p1.tm, p1.st.drew _⟩ fun a' w' M' μ' r1 r2 r3 => hQ a' w' M' μ' r1 (p2.trans ((Stp.drew ..).trans r2)) ((p3.trans r3).to m)
        simp only [Array.getD_eq_getD_getElem?, Array.getElem?_replicate] at hl
        split at hl <;> simp at hl
  · cases h

/-! ### forgetting -/
def tidW (t : Nat) (ks : List (Option Nat)) (s : ASt) : ASt := { tm := putT s.tm t (tidyV ks (s.tm t)), st := s.st }

theorem tidW_weak {m t : Nat} {ks : List (Option Nat)} {s : ASt} : Weak N m s (tidW t ks s) := fun M μ a w hr => by
  refine ⟨M, μ, ⟨hr.size, hr.defers, fun t' => ?_, hr.st⟩, .refl M μ s.st w, .refl m μ⟩
  simp only [tidW, putT]
  cases hb : Nat.beq t' t with
  | true => rw [Nat.eq_of_beq_eq_true hb]; exact (hr.tm t).tidy ks
  | false => exact hr.tm t'

def tidOW (l : Nat) (ks : List (Option Nat)) (s : ASt) : Option ASt :=
  match getO s.st l with
  | .cells cs ro => some { tm := s.tm, st := s.st.set l (.cells (tidyL ks cs) ro) }
  | _ => none

theorem tidOW_weak {m l : Nat} {ks : List (Option Nat)} {s s2 : ASt} (h : tidOW l ks s = some s2) : Weak N m s s2 := fun M μ a w hr => by
  unfold tidOW at h
  split at h
  · rename_i cs ro ho
    cases h
    obtain ⟨hsize, hdef, htm, hst⟩ := hr
    have e1 := getO_some ho rfl
    have hl : l < s.st.length := (List.getElem?_eq_some_iff.1 e1).1
    have hback : ∀ (i : Nat) (x : AObj), (s.st.set l (.cells (tidyL ks cs) ro))[i]? = some x → ∃ y, s.st[i]? = some y ∧ x.here = y.here ∧ (i ≠ l → x = y) ∧ (i = l → x = .cells (tidyL ks cs) ro ∧ y = .cells cs ro) := fun i x g => by
      by_cases hi : i = l
      · subst hi
        rw [List.getElem?_set_self hl] at g
        cases g
        exact ⟨_, e1, rfl, fun h => absurd rfl h, fun _ => ⟨rfl, rfl⟩⟩
      · rw [List.getElem?_set_ne (Ne.symm hi)] at g
        exact ⟨x, g, rfl, fun _ => rfl, fun h => absurd h hi⟩
    refine ⟨M, μ, ⟨hsize, hdef, htm, ⟨by simpa using hst.len, fun i x q g1 g2 => ?_, fun i x q g1 g2 hx => ?_, fun i j x y q r b hij g1 g2 hx hy g3 g4 hq => ?_, hst.mem⟩⟩, ⟨rfl, rfl, rfl, Nat.le_refl _, fun _ _ _ => rfl, .refl M, fun b o v h k => by simp [h] at k, fun b ho => .inr ?_⟩, .refl m μ⟩
    · obtain ⟨y, k1, k2, k3, k4⟩ := hback i x g1
      by_cases hi : i = l
      · obtain ⟨rfl, rfl⟩ := k4 hi
        obtain ⟨b, c, t, z1, z2, z3, z4, z5⟩ := hst.rep i _ q k1 g2
        refine ⟨b, c, t, z1, z2, by rw [tidyL_length]; exact z3, fun j a e => ?_, z5⟩
        have hj : j < cs.length := by have := (List.getElem?_eq_some_iff.1 e).1; rwa [tidyL_length] at this
        obtain ⟨v, y1, y2, _⟩ := z4 j cs[j] (List.getElem?_eq_getElem hj)
        refine ⟨v, y1, y2, tidyL_rep ks cs c.toList (fun j a u e3 e4 => ?_) j a v e (by rw [Array.getElem?_toList]; exact y1)⟩
        obtain ⟨v', y3, _, y5⟩ := z4 j a e3
        rw [Array.getElem?_toList, y3] at e4
        cases e4
        exact y5
      · rw [k3 hi]; exact hst.rep i y q k1 g2
    · obtain ⟨y, k1, k2, _⟩ := hback i x g1
      exact hst.dead i y q k1 g2 (k2 ▸ hx)
    · obtain ⟨x0, k1, k2, _⟩ := hback i x g1
      obtain ⟨y0, k3, k4, _⟩ := hback j y g2
      exact hst.apart i j x0 y0 q r b hij k1 k3 (k2 ▸ hx) (k4 ▸ hy) g3 g4 hq
    · obtain ⟨i, x, q, g1, hx, g2, g3⟩ := ho
      obtain ⟨y, k1, k2, _⟩ := hback i x g1
      exact ⟨i, y, q, k1, k2 ▸ hx, g2, g3⟩
  · cases h

inductive Wk where
  | keep (ts : List (Nat × List (Option Nat)))
  | frz (l : Nat)
  | acc (t sz : Nat)
  | accO (l p sz : Nat)
  | tid (t : Nat) (ks : List (Option Nat))
  | tidO (l : Nat) (ks : List (Option Nat))
  | roO (l p lo n : Nat)

def wk1 (m : Nat) (x : Wk) (s : ASt) : Option ASt :=
  match x with
  | .keep ts => keepW m ts s
  | .frz l => frzW m l s
  | .acc t sz => accW t sz s
  | .accO l p sz => accOW l p sz s
  | .tid t ks => some (tidW t ks s)
  | .tidO l ks => tidOW l ks s
  | .roO l p lo n => roOW l p lo n s

def wkA (m : Nat) : List Wk → ASt → Option ASt
  | [], s => some s
  | x :: xs, s => match wk1 m x s with
    | some s1 => wkA m xs s1
    | none => none

theorem wk1_weak {m : Nat} {x : Wk} {s s' : ASt} (h : wk1 m x s = some s') : Weak N m s s' := by
  cases x with
  | keep ts => exact keepW_weak h
  | frz l => exact frzW_weak h
  | acc t sz => exact accW_weak h
  | accO l p sz => exact accOW_weak h
  | tid t ks => cases h; exact tidW_weak
  | tidO l ks => exact tidOW_weak h
  | roO l p lo n => exact roOW_weak h

theorem wkA_weak {m : Nat} : ∀ {xs : List Wk} {s s' : ASt}, wkA m xs s = some s' → Weak N m s s'
  | [], s, s', h => by cases h; exact .refl N m s
  | x :: xs, s, s', h => by
    simp only [wkA] at h
    split at h
    · rename_i s1 h1
      exact (wk1_weak h1).trans (wkA_weak h)
    · cases h

theorem T.pre {m : Nat} {c : Code} {s s1 s' : ASt} {e : Exit} (h : Weak N m s s1) (k : T P N m c s1 e s') : T P N m c s e s' := fun M μ a w hR Q hQ => by
  obtain ⟨M1, μ1, r1, p1, e1⟩ := h M μ a w hR
  exact k M1 μ1 a w r1 Q fun a' w' M' μ' r2 p2 e2 => hQ a' w' M' μ' r2 (p1.trans p2) (e1.trans e2)

theorem T.post {m : Nat} {c : Code} {s s1 s' : ASt} {e : Exit} (h : T P N m c s e s1) (k : Weak N m s1 s') : T P N m c s e s' := fun M μ a w hR Q hQ =>
  h M μ a w hR Q fun a' w' M1 μ1 r1 p1 e1 => by
    obtain ⟨M2, μ2, r2, p2, e2⟩ := k M1 μ1 a' w' r1
    exact hQ a' w' M2 μ2 r2 (p1.trans p2) (e1.trans e2)

/-! ### loops -/
def Lp (P : Program) (N m : Nat) (c : Code) (s : ASt) (e : Exit) (s' : ASt) : Prop := ∃ n, ∀ (M : Mem) (μ : List Bd) (a : Act) (w : World), Rel N M μ s a w → ∀ Q : Exit → Act → World → Prop,
  (∀ a' w' M' μ', Rel N M' μ' s' a' w' → Stp M μ s.st w M' μ' s'.st w' → EvoTo m μ μ' → Q e a' w') → Code.rounds P c Q n a w

theorem Lp.sound {m : Nat} {c : Code} {s s' : ASt} {e : Exit} (h : Lp P N m c s e s') : T P N m (.loop c) s e s' := fun M μ a w hR Q hQ => by
  obtain ⟨n, h⟩ := h
  exact wp_loop_rounds n (h M μ a w hR Q hQ)

theorem Lp.stop {m : Nat} {c : Code} {s s' : ASt} {e : Exit} (h : T P N m c s e s') (he : e ≠ .normal) : Lp P N m c s e s' := ⟨1, fun M μ a w hR Q hQ => by
  rw [rounds_succ]
  refine h M μ a w hR _ fun a' w' M' μ' r p ev => ?_
  have := hQ a' w' M' μ' r p ev
  cases e <;> first | exact absurd rfl he | exact this⟩

theorem Lp.more {m : Nat} {c : Code} {s s1 s' : ASt} {e : Exit} (h : T P N m c s .normal s1) (k : Lp P N m c s1 e s') : Lp P N m c s e s' := by
  obtain ⟨n, k⟩ := k
  exact ⟨n + 1, fun M μ a w hR Q hQ => by
    rw [rounds_succ]
    refine h M μ a w hR _ fun a1 w1 M1 μ1 r1 p1 e1 => ?_
    exact k M1 μ1 a1 w1 r1 Q fun a' w' M' μ' r p ev => hQ a' w' M' μ' r (p1.trans p) (e1.trans ev)⟩

/-! ### code -/
inductive Or where
  | reg (pre : List Wk) (es : List (Nat × Ent))
  | loop (pre : List Wk) (e : Exit) (s' : ASt)

structure CodeR where
  e : Exit
  s : ASt
  orc : List Or
  ob : List Prop

def blkE (id : Nat) (r : CodeR) : CodeR :=
  match r.e with
  | .exit id' => bif Nat.beq id' id then { r with e := .normal } else r
  | _ => r

def evCode (P : Program) (K : Kinds) (N m : Nat) : Code → List Or → ASt → Option CodeR
  | .skip, orc, s => some ⟨.normal, s, orc, []⟩
  | .region _ ops draw, orc, s => match orc with
    | .reg pre es :: orc' => match wkA m pre s with
      | some s1 => match evReg P K N ops draw es s1 with
        | some (s2, ob) => some ⟨.normal, s2, orc', ob⟩
        | none => none
      | none => none
    | _ => none
  | .seq x y, orc, s => match evCode P K N m x orc s with
    | some ⟨.normal, s1, orc1, ob1⟩ => match evCode P K N m y orc1 s1 with
      | some ⟨e, s2, orc2, ob2⟩ => some ⟨e, s2, orc2, ob1 ++ ob2⟩
      | none => none
    | r => r
  | .cond c x y, orc, s => match evA s c with
    | .sc (.bool b) => bif b then evCode P K N m x orc s else evCode P K N m y orc s
    | _ => none
  | .block id c, orc, s => match evCode P K N m c orc s with
    | some r => some (blkE id r)
    | none => none
  | .loop c, orc, s => match orc with
    | .loop pre e s' :: orc' => match wkA m pre s with
      | some s1 => some ⟨e, s', orc', [Lp P N m c s1 e s']⟩
      | none => none
    | _ => none
  | .exit id, orc, s => some ⟨.exit id, s, orc, []⟩
  | .ret, orc, s => some ⟨.ret, s, orc, []⟩
  | .label _, orc, s => some ⟨.normal, s, orc, []⟩
  | .rangeFunc _ _ _ _, _, _ => none
  | .scope _, _, _ => none
  | .goto _, _, _ => none
  | .refuse _, _, _ => none

theorem evCode_sound {m : Nat} : ∀ {c : Code} {orc : List Or} {s : ASt} {r : CodeR}, evCode P K N m c orc s = some r → AllP r.ob → T P N m c s r.e r.s := by
  intro c
  induction c with
  | skip =>
    intro orc s r h _
    simp only [evCode, Option.some.injEq] at h; subst h
    exact fun M μ a w hR Q hQ => wp_skip (hQ a w M μ hR (.refl ..) (.refl m μ))
  | region id ops draw =>
    intro orc s r h hob
    simp only [evCode] at h
    split at h
    · split at h
      · rename_i s1 h1
        split at h
        · rename_i s2 ob h2
          cases h
          exact (evReg_sound h2 hob).pre (wkA_weak h1)
        · cases h
      · cases h
    · cases h
  | seq x y ihx ihy =>
    intro orc s r h hob
    simp only [evCode] at h
    split at h
    · rename_i s1 orc1 ob1 h1
      split at h
      · rename_i e s2 orc2 ob2 h2
        cases h
        obtain ⟨k1, k2⟩ := AllP_append.1 hob
        refine fun M μ a w hR Q hQ => wp_seq (ihx h1 k1 M μ a w hR _ fun a1 w1 M1 μ1 r1 p1 e1 => ?_)
        exact ihy h2 k2 M1 μ1 a1 w1 r1 Q fun a' w' M' μ' r2 p2 e2 => hQ a' w' M' μ' r2 (p1.trans p2) (e1.trans e2)
      · cases h
    · rename_i hne
      refine fun M μ a w hR Q hQ => wp_seq (ihx h hob M μ a w hR _ fun a1 w1 M1 μ1 r1 p1 e1 => ?_)
      have := hQ a1 w1 M1 μ1 r1 p1 e1
      obtain ⟨e, s2, orc2, ob2⟩ := r
      cases e <;> first | exact absurd h (hne s2 orc2 ob2) | exact this
  | cond c x y ihx ihy =>
    intro orc s r h hob
    simp only [evCode] at h
    split at h
    · rename_i b hb
      refine fun M μ a w hR Q hQ => wp_cond (t := b) ?_ ?_
      · have := evA_rep hR c
        rw [hb] at this
        exact this.scv
      · cases b with
        | true => exact ihx h hob M μ a w hR Q hQ
        | false => exact ihy h hob M μ a w hR Q hQ
    · cases h
  | block id c ih =>
    intro orc s r h hob
    simp only [evCode] at h
    split at h
    · rename_i r1 h1
      cases h
      have hob1 : AllP r1.ob := by
        unfold blkE at hob
        split at hob
        · rename_i id' _
          cases hb : Nat.beq id' id with
          | true => rw [hb] at hob; exact hob
          | false => rw [hb] at hob; exact hob
        · exact hob
      have hs : (blkE id r1).s = r1.s := by
        unfold blkE
        split
        · rename_i id' _
          cases hb : Nat.beq id' id <;> rfl
        · rfl
      rw [hs]
      refine fun M μ a w hR Q hQ => wp_block (ih h1 hob1 M μ a w hR _ fun a1 w1 M1 μ1 q1 p1 e1 => ?_)
      have := hQ a1 w1 M1 μ1 q1 p1 e1
      unfold blkE at this
      split at this
      · rename_i id' hid
        rw [hid]
        simp only [Exit.inBlock]
        cases hb : Nat.beq id' id with
        | true =>
          rw [hb] at this
          rw [if_pos (Nat.eq_of_beq_eq_true hb)]; exact this
        | false =>
          rw [hb] at this
          rw [if_neg (fun e => by rw [e] at hb; simp at hb)]
          simp only [cond_false, hid] at this
          exact this
      · rename_i hne
        cases he : r1.e with
        | exit id' => exact absurd he (hne id')
        | _ => rw [he] at this; exact this
    · cases h
  | loop c ih =>
    intro orc s r h hob
    simp only [evCode] at h
    split at h
    · split at h
      · rename_i s1 h1
        cases h
        exact hob.1.sound.pre (wkA_weak h1)
      · cases h
    · cases h
  | exit id =>
    intro orc s r h _
    simp only [evCode, Option.some.injEq] at h; subst h
    exact fun M μ a w hR Q hQ => wp_exit (hQ a w M μ hR (.refl ..) (.refl m μ))
  | ret =>
    intro orc s r h _
    simp only [evCode, Option.some.injEq] at h; subst h
    exact fun M μ a w hR Q hQ => wp_ret (hQ a w M μ hR (.refl ..) (.refl m μ))
  | label l =>
    intro orc s r h _
    simp only [evCode, Option.some.injEq] at h; subst h
    exact fun M μ a w hR Q hQ => wp_label (hQ a w M μ hR (.refl ..) (.refl m μ))
  | rangeFunc => intro orc s r h; simp only [evCode] at h; cases h
  | scope => intro orc s r h; simp only [evCode] at h; cases h
  | goto => intro orc s r h; simp only [evCode] at h; cases h
  | refuse => intro orc s r h; simp only [evCode] at h; cases h

end
end Go.Ae

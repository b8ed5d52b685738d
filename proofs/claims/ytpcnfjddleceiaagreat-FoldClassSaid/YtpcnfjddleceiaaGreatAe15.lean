/- The abstract executor, part 15: one step, what it hangs on, two steps exchanged. -/
import Derived.Test.YtpcnfjddleceiaaGreatAe14
import Derived.Orders
namespace Go.Ae

structure Eff where
  r : AV
  pad : Nat
  wr : List (Nat × AObj)
  ac : List (Nat × Bool)
  ob : List Prop

def applyE (st : List AObj) (e : Eff) : List AObj := applyWr (st ++ List.replicate e.pad .gone) e.wr

def paramsOf (P : Program) (g : FuncId) : List TypeId :=
  match P.funcs[g]? with
  | some fn => fn.params.toList
  | none => []

def callB (P : Program) (K : Kinds) (endS : Nat) (look : Nat → AObj) (g : FuncId) (args : List AV) (ids : List Nat) (r : AV) (σ : List AObj) : Option Eff :=
  bif nodupB ids && Nat.ble ids.length σ.length && ids.all (fun l => Nat.blt l endS) then
    some { r := renV (outRen ids look endS σ) 6 r, pad := σ.length - ids.length, wr := wrOut ids look endS σ,
           ac := ids.map (fun l => (l, true)) ++ (List.range (σ.length - ids.length)).map (fun k => (endS + k, true)),
           ob := [SoundCall P g (tidyArgs K (paramsOf P g) (args.map (renV (renOf ids 0 look) 6))) (newSt ids 0 look) r σ] }
  else none

def callA (P : Program) (K : Kinds) (endS : Nat) (ρ : Operand → AV) (look : Nat → AObj) (en : Ent) (c : Call) : Option Eff :=
  match en with
  | .call r σ => match targetA P ρ c with
    | some (g, args) => callB P K endS look g args (reach look 1000 [] (args.flatMap (idsV 6))) r σ
    | none => none
  | _ => none

def funcCall (o : Oper) : Option Call :=
  match o.op with
  | .call c => match c.callee with
    | .builtin _ => none
    | _ => some c
  | _ => none

def coreE (P : Program) (slot : Nat) (ρ : Operand → AV) (look : Nat → AObj) (en : Ent) (o : Oper) (more : List (Nat × Bool)) : Option Eff :=
  (core P slot ρ look en o).map fun res => ⟨(res.adj en).r, 0, (res.adj en).wr, more ++ (res.adj en).ac, (res.adj en).ob⟩

def effA (P : Program) (K : Kinds) (slot cap endS : Nat) (ρ : Operand → AV) (look : Nat → AObj) (en : Ent) (o : Oper) : Option Eff :=
  match funcCall o with
  | some c => callA P K endS ρ look en c
  | none => bif allocB o then (match look slot with
    | .gone => bif Nat.blt slot cap then coreE P slot ρ look en o [(slot, true)] else none
    | _ => none) else coreE P slot ρ look en o []

theorem Res.adj_wr (en : Ent) (res : Res) : (res.adj en).wr = res.wr ∧ (res.adj en).ac = res.ac := by
  unfold Res.adj
  cases en <;> first | exact ⟨rfl, rfl⟩ | (simp only; split <;> exact ⟨rfl, rfl⟩)

theorem funcCall_spec {o : Oper} {c : Call} (h : funcCall o = some c) : o.op = .call c := by
  unfold funcCall at h
  split at h
  · rename_i c' ho
    split at h
    · cases h
    · cases h; exact ho
  · cases h

section
variable {P : Program} {K : Kinds} {M : Mem} {μ : List Bd} {st : List AObj} {w : World} {o : Oper} {en : Ent} {slot cap : Nat} {a : Act} {ρ : Operand → AV}

/-! ### what is named lies among the objects -/
theorem idsV_lt {v : Value} {x : AV} (h : RepV M μ x v) : ∀ (n l : Nat), l ∈ idsV n x → l < μ.length := by
  have lt : ∀ {μ : List Bd} {l : Nat} {bd : Bd}, μ[l]? = some bd → l < μ.length := fun h => (List.getElem?_eq_some_iff.1 h).1
  induction h with
  | any => intro n l h; cases n <;> simp [idsV] at h
  | sc => intro n l h; cases n <;> simp [idsV] at h
  | nil => intro n l h; cases n <;> simp [idsV] at h
  | sl0 => intro n l h; cases n <;> simp [idsV] at h
  | sl0f => intro n l h; cases n <;> simp [idsV] at h
  | sl => intro n l h; cases n <;> simp [idsV] at h
  | ip => intro n l h; cases n <;> simp [idsV] at h
  | lp e => intro n l h; cases n <;> simp [idsV] at h; subst h; exact lt e
  | mp e => intro n l h; cases n <;> simp [idsV] at h; subst h; exact lt e
  | le e => intro n l h; cases n <;> simp [idsV] at h; subst h; exact lt e
  | la e => intro n l h; cases n <;> simp [idsV] at h; subst h; exact lt e
  | @fn μ f caps us hl hr ih =>
    intro n l h
    cases n with
    | zero => simp [idsV] at h
    | succ n =>
      simp only [idsV, List.mem_flatMap] at h
      obtain ⟨x, hx, h⟩ := h
      obtain ⟨j, hj⟩ := List.getElem?_of_mem hx
      have hj2 : j < us.length := by rw [hl]; exact (List.getElem?_eq_some_iff.1 hj).1
      exact ih j x _ hj (List.getElem?_eq_getElem hj2) n l h
  | ifc hr ih =>
    intro n l h
    cases n with
    | zero => simp [idsV] at h
    | succ n => simp only [idsV] at h; exact ih n l h
  | @agg μ cs us hl hr ih =>
    intro n l h
    cases n with
    | zero => simp [idsV] at h
    | succ n =>
      simp only [idsV, List.mem_flatMap] at h
      obtain ⟨x, hx, h⟩ := h
      obtain ⟨j, hj⟩ := List.getElem?_of_mem hx
      have hj2 : j < us.length := by rw [hl]; exact (List.getElem?_eq_some_iff.1 hj).1
      exact ih j x _ hj (List.getElem?_eq_getElem hj2) n l h
  | @tup μ cs us hl hr ih =>
    intro n l h
    cases n with
    | zero => simp [idsV] at h
    | succ n =>
      simp only [idsV, List.mem_flatMap] at h
      obtain ⟨x, hx, h⟩ := h
      obtain ⟨j, hj⟩ := List.getElem?_of_mem hx
      have hj2 : j < us.length := by rw [hl]; exact (List.getElem?_eq_some_iff.1 hj).1
      exact ih j x _ hj (List.getElem?_eq_getElem hj2) n l h

/-! ### a step's soundness -/
theorem eff_ok (hst : StoreOk M μ st w) (hcap : cap ≤ st.length) (hρ : ∀ x, RepV M μ (ρ x) (a.eval x)) {e : Eff} (h : effA P K slot cap st.length ρ (getO st) en o = some e) (hob : AllP e.ob)
    {next : Act → World → Prop} {Q : Exit → Act → World → Prop}
    (hK : ∀ v w' M' μ', StoreOk M' μ' (applyE st e) w' → Stp M μ st w M' μ' (applyE st e) w' → EvoAll μ μ' → RepV M' μ' e.r v → next (a.put o.dst v) w') : o.wp P a w next Q := by
  have hcore : ∀ (more : List (Nat × Bool)), (allocB o = true → st[slot]? = some .gone) → coreE P slot ρ (getO st) en o more = some e → o.wp P a w next Q := fun more hs hc => by
    obtain ⟨res, hres, rfl⟩ := Option.map_eq_some_iff.1 hc
    have hok : OpOk M μ st w (res.adj en) ((execOp a.eval o).run P w) := OpOk.adj hob fun hob' => core_ok hst hs hρ hres hob'
    obtain ⟨v, w', M', μ', h1, h2, h3, h4, h5⟩ := hok
    have happ : applyE st ⟨(res.adj en).r, 0, (res.adj en).wr, more ++ (res.adj en).ac, (res.adj en).ob⟩ = applyWr st (res.adj en).wr := by simp [applyE]
    rw [happ] at hK
    have := hK v w' M' μ' h2 h3 h4 h5
    unfold Oper.wp
    rcases h1 with h1 | ⟨h1, rfl⟩
    · rw [h1]; exact this
    · rw [h1]; exact this
  unfold effA at h
  split at h
  · rename_i c hc
    have ho := funcCall_spec hc
    unfold callA at h
    split at h
    · rename_i r σ
      split at h
      · rename_i g args ht
        unfold callB at h
        generalize hids : reach (getO st) 1000 [] (args.flatMap (idsV 6)) = ids at h
        cases hb : (nodupB ids && Nat.ble ids.length σ.length && ids.all (fun l => Nat.blt l st.length)) with
        | false => rw [hb] at h; cases h
        | true =>
          rw [hb] at h
          cases h
          simp only [Bool.and_eq_true] at hb
          have hn := hb.1.1
          have hk : ids.length ≤ σ.length := Nat.le_of_ble_eq_true hb.1.2
          have hlt : ∀ l ∈ ids, l < st.length := fun l hl => Nat.le_of_ble_eq_true (List.all_eq_true.1 hb.2 l hl)
          simp only [AllP, and_true] at hob
          obtain ⟨hex, hlen, hsound⟩ := hob
          obtain ⟨vs, hv1, hv2, hrun⟩ := targetA_ok (P := P) (w := w) hρ ho ht hex
          obtain ⟨s1, s2, s3⟩ := hst.sub ids 0 hn
          have hargs : ∀ (j : Nat) (x : AV) (v : Value), (args.map (renV (renOf ids 0 (getO st)) 6))[j]? = some x → vs[j]? = some v → RepV M (newMu ids 0 (getO st) μ) x v := fun j x v e1 e2 => by
            rw [List.getElem?_map] at e1
            obtain ⟨y, e3, rfl⟩ := Option.map_eq_some_iff.1 e1
            exact (hv2 j y v e3 e2).ren s2 6
          have hcall := hsound M _ w vs s1 (by rw [tidyArgs_length]; simpa using hv1) (tidyArgs_rep K _ _ _ hargs)
          unfold Oper.wp
          rw [hrun]
          show Calls P g vs.toArray w _
          refine Calls.mono hcall fun e w' he => ?_
          obtain ⟨v, M', μ', rfl, k1, k2, k3, k4⟩ := he
          have hlen0 : (newSt ids 0 (getO st)).length = ids.length := by simp [newSt]
          rw [hlen0] at k3
          obtain ⟨μ2, q1, q2, q3, q4⟩ := call_back hst hn hlt hk k1 k2 k3
          exact hK v w' M' μ2 q1 q2 q3 (k4.ren q4 6)
      · cases h
    · cases h
  · cases hal : allocB o with
    | false =>
      rw [hal] at h
      exact hcore [] (by rw [hal]; intro e; cases e) h
    | true =>
      rw [hal] at h
      simp only [cond_true] at h
      split at h
      · rename_i hg
        cases hb : Nat.blt slot cap with
        | false => rw [hb] at h; cases h
        | true =>
          rw [hb] at h
          have hlt : slot < st.length := Nat.lt_of_lt_of_le (Nat.le_of_ble_eq_true hb) hcap
          refine hcore _ (fun _ => ?_) h
          rw [← hg]
          simp [getO, List.getD_eq_getElem?_getD, List.getElem?_eq_getElem hlt]
      · cases h

/-! ### what a step hangs on -/
theorem reach_sub {look : Nat → AObj} : ∀ (n : Nat) (acc todo : List Nat) (x : Nat), x ∈ acc → x ∈ reach look n acc todo
  | 0, _, _, _, h => h
  | _ + 1, _, [], _, h => h
  | n + 1, acc, l :: todo, x, h => by
    simp only [reach]
    cases memB l acc with
    | true => exact reach_sub n acc todo x h
    | false => exact reach_sub n _ _ x (by simp [h])

theorem reach_loc {look look' : Nat → AObj} : ∀ (n : Nat) (acc todo : List Nat), (∀ l ∈ reach look n acc todo, look' l = look l) → reach look' n acc todo = reach look n acc todo
  | 0, _, _, _ => rfl
  | _ + 1, _, [], _ => rfl
  | n + 1, acc, l :: todo, h => by
    simp only [reach] at h ⊢
    cases hb : memB l acc with
    | true => rw [hb] at h; exact reach_loc n acc todo h
    | false =>
      rw [hb] at h
      simp only [cond_false] at h ⊢
      have : look' l = look l := h l (reach_sub n _ _ l (by simp))
      rw [this]
      exact reach_loc n _ _ h

theorem renOf_loc {look look' : Nat → AObj} {ids : List Nat} {m : Nat} (h : ∀ l ∈ ids, look' l = look l) : renOf ids m look' = renOf ids m look := by
  funext l
  unfold renOf
  cases e : posOf l ids 0 with
  | none => rfl
  | some i =>
    have hm : l ∈ ids := by
      have := (posOf_spec l ids 0 i e).2
      exact List.mem_of_getElem? this
    simp only [h l hm]

theorem newSt_loc {look look' : Nat → AObj} {ids : List Nat} {m : Nat} (h : ∀ l ∈ ids, look' l = look l) : newSt ids m look' = newSt ids m look := by
  unfold newSt
  rw [renOf_loc h]
  apply List.map_congr_left
  intro p hp
  have : p.1 ∈ ids := by
    obtain ⟨i, hi⟩ := List.getElem?_of_mem hp
    rw [List.getElem?_zipIdx] at hi
    obtain ⟨x, hx, rfl⟩ := Option.map_eq_some_iff.1 hi
    exact List.mem_of_getElem? hx
  rw [h _ this]

theorem nwJ_loc {look look' : Nat → AObj} {ids : List Nat} {σ : List AObj} (h : ∀ l ∈ ids, look' l = look l) (j : Nat) : nwJ ids look' σ j = nwJ ids look σ j := by
  unfold nwJ
  cases e : ids[j]? with
  | none => rfl
  | some l => simp only [h l (List.mem_of_getElem? e)]

theorem outRen_loc {look look' : Nat → AObj} {ids : List Nat} {endS : Nat} {σ : List AObj} (h : ∀ l ∈ ids, look' l = look l) : outRen ids look' endS σ = outRen ids look endS σ := by
  funext j; unfold outRen; rw [nwJ_loc h]

theorem wrOut_loc {look look' : Nat → AObj} {ids : List Nat} {endS : Nat} {σ : List AObj} (h : ∀ l ∈ ids, look' l = look l) : wrOut ids look' endS σ = wrOut ids look endS σ := by
  unfold wrOut
  rw [outRen_loc h]
  apply List.map_congr_left
  intro j _
  rw [nwJ_loc h]

theorem locOf_end {ids : List Nat} {j : Nat} (h : j < ids.length) (e e' : Nat) : locOf ids e j = locOf ids e' j := by
  unfold locOf; rw [List.getElem?_eq_getElem h]

theorem outRen_end {look : Nat → AObj} {ids : List Nat} {σ : List AObj} (h : σ.length ≤ ids.length) (e e' : Nat) : outRen ids look e σ = outRen ids look e' σ := by
  funext j
  unfold outRen
  cases hb : Nat.blt j σ.length with
  | false => rfl
  | true => simp only [cond_true]; rw [locOf_end (Nat.lt_of_lt_of_le (Nat.le_of_ble_eq_true hb) h) e e']

theorem wrOut_end {look : Nat → AObj} {ids : List Nat} {σ : List AObj} (h : σ.length ≤ ids.length) (e e' : Nat) : wrOut ids look e σ = wrOut ids look e' σ := by
  unfold wrOut
  rw [outRen_end h e e']
  apply List.map_congr_left
  intro j hj
  rw [locOf_end (by have := List.mem_range.1 hj; omega) e e']

theorem targetA_loc {ρ' : Operand → AV} {c : Call} (h : ∀ x ∈ c.operands, ρ' x = ρ x) : targetA P ρ' c = targetA P ρ c := by
  have hargs : c.args.toList.map ρ' = c.args.toList.map ρ := List.map_congr_left fun x hx => h x (by
    simp only [Call.operands, Array.mem_append]
    exact .inr (by simpa using hx))
  unfold targetA
  rw [hargs]
  cases hc : c.callee with
  | value f => simp only; rw [h f (by simp [Call.operands, hc])]
  | invoke r m => simp only; rw [h r (by simp [Call.operands, hc])]
  | builtin b => rfl

/-- Another state that agrees where the step looks. -/
theorem eff_loc {ρ' : Operand → AV} {look look' : Nat → AObj} {endS endS' : Nat} {e : Eff} (h : effA P K slot cap endS ρ look en o = some e) (hρ : ∀ x ∈ o.op.operands, ρ' x = ρ x) (hl : SameAt e.ac look look')
    (hend : endS' = endS ∨ (e.pad = 0 ∧ ∀ p ∈ e.ac, p.1 < endS → p.1 < endS')) : effA P K slot cap endS' ρ' look' en o = some e := by
  unfold effA at h ⊢
  split at h
  · rename_i c hc
    have ho := funcCall_spec hc
    try simp only [hc]
    unfold callA at h ⊢
    split at h
    · rename_i r σ
      have htl : targetA P ρ' c = targetA P ρ c := targetA_loc fun x hx => hρ x (by rw [ho]; exact hx)
      simp only [htl]
      split at h
      · rename_i g args ht
        try simp only [htl, ht]
        unfold callB at h
        generalize hids : reach look 1000 [] (args.flatMap (idsV 6)) = ids at h
        cases hb : (nodupB ids && Nat.ble ids.length σ.length && ids.all (fun l => Nat.blt l endS)) with
        | false => rw [hb] at h; cases h
        | true =>
          rw [hb] at h
          cases h
          have hsame : ∀ l ∈ ids, look' l = look l := fun l hl2 => hl (l, true) (by simp [hl2])
          have hids' : reach look' 1000 [] (args.flatMap (idsV 6)) = ids := by rw [reach_loc 1000 _ _ (by rw [hids]; exact hsame), hids]
          rw [hids']
          unfold callB
          rw [renOf_loc hsame, newSt_loc hsame, outRen_loc hsame, wrOut_loc hsame]
          rcases hend with rfl | ⟨hp, hend⟩
          · rw [hb]; rfl
          · simp only at hp hend
            have hle : σ.length ≤ ids.length := by omega
            simp only [Bool.and_eq_true] at hb
            have hb' : (nodupB ids && Nat.ble ids.length σ.length && ids.all (fun l => Nat.blt l endS')) = true := by
              simp only [Bool.and_eq_true]
              refine ⟨hb.1, List.all_eq_true.2 fun l hl2 => Nat.ble_eq_true_of_le (hend (l, true) (by simp [hl2]) (Nat.le_of_ble_eq_true (List.all_eq_true.1 hb.2 l hl2)))⟩
            rw [hb', outRen_end hle endS' endS, wrOut_end hle endS' endS]
            have h0 : σ.length - ids.length = 0 := by omega
            simp only [cond_true, h0, List.range_zero, List.map_nil]
      · cases h
    · cases h
  · rename_i hc
    try simp only [hc]
    have hcore : ∀ more, (∀ p ∈ more, p ∈ e.ac) → coreE P slot ρ look en o more = some e → coreE P slot ρ' look' en o more = some e := fun more _ hc => by
      unfold coreE at hc ⊢
      obtain ⟨res, hres, he⟩ := Option.map_eq_some_iff.1 hc
      have := core_loc (look' := look') hres hρ (fun p hp => hl p (by rw [← he]; simp [(Res.adj_wr en res).2, hp]))
      rw [this]
      simp [he]
    cases hal : allocB o with
    | false => rw [hal] at h; exact hcore [] (by simp) h
    | true =>
      rw [hal] at h
      simp only [cond_true] at h ⊢
      split at h
      · rename_i hg
        cases hb : Nat.blt slot cap with
        | false => rw [hb] at h; cases h
        | true =>
          rw [hb] at h
          simp only [cond_true] at h
          have hin : (slot, true) ∈ e.ac := by
            unfold coreE at h
            obtain ⟨res, _, he⟩ := Option.map_eq_some_iff.1 h
            rw [← he]; simp
          have : look' slot = look slot := hl _ hin
          rw [this, hg]
          simp only [cond_true]
          exact hcore _ (by simpa using hin) h
      · cases h

end
end Go.Ae

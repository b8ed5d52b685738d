/- The abstract executor, part 12: all operations; calls of functions. -/
import Derived.Test.YtpcnfjddleceiaaGreatAe11
namespace Go.Ae

/-- What an operation without a call of a function does. -/
def core (P : Program) (slot : Nat) (ρ : Operand → AV) (look : Nat → AObj) (en : Ent) (o : Oper) : Option Res :=
  match o.op with
  | .move x => some ⟨ρ x, [], [], []⟩
  | .assign x => some ⟨ρ x, [], [], []⟩
  | .pick c a b => pickA (ρ c) (ρ a) (ρ b)
  | .alloc t => allocA P slot t
  | .box _ x => boxA slot (ρ x)
  | .build t ps => buildA P t (partsA ρ ps)
  | .buildSlice t n ps => buildSliceA P slot en t n (partsA ρ ps)
  | .load t x => loadA P look en t (ρ x)
  | .store t p x => storeA P look en t (ρ p) (ρ x)
  | .nilCheck x => nilCheckA look (ρ x)
  | .binOp op t x y _ => binOpA P op t (ρ x) (ρ y)
  | .unOp op _ x => unOpA op (ρ x)
  | .convert s d x => convertA P s d (ρ x)
  | .fieldAddr s x f => fieldAddrA P look s (ρ x) f
  | .field s x f => fieldA P s (ρ x) f
  | .indexAddr t x i => indexAddrA P look en t (ρ x) (ρ i)
  | .index t x i => indexA P en t (ρ x) (ρ i)
  | .extract x i => extractA (ρ x) i
  | .makeInterface t x => ifcA P t (ρ x)
  | .makeFunc fn first caps => fnA fn first (caps.toList.map ρ)
  | .slice t x lo hi mx => sliceA P look t (ρ x) (bndA ρ lo) (bndA ρ hi) (bndA ρ mx)
  | .makeSlice t l c => makeSliceA P slot en t (ρ l) (ρ c)
  | .makeMap _ r => match r with
    | none => makeMapA slot
    | some _ => none
  | .lookup t m k ok => lookupA P look en t (ρ m) (ρ k) ok
  | .mapUpdate t m k x => mapUpdateA P look en t (ρ m) (ρ k) (ρ x)
  | .call c => match c.callee with
    | .builtin b => match b with
      | .len => match c.args.toList with
        | [x] => match c.argTypes.toList with
          | [t] => lenA P look t (ρ x)
          | _ => none
        | _ => none
      | .append => match c.args.toList with
        | [x, y] => match c.argTypes.toList with
          | [t, t2] => appendA P slot look en t t2 (ρ x) (ρ y)
          | _ => none
        | _ => none
      | .max => match c.args.toList with
        | [x, y] => maxA (ρ x) (ρ y)
        | _ => none
      | .clear => match c.args.toList with
        | [x] => match c.argTypes.toList with
          | [t] => clearA P look t (ρ x)
          | _ => none
        | _ => none
      | _ => none
    | _ => none
  | _ => none

theorem toList_one {α : Type} {a : Array α} {x : α} (h : a.toList = [x]) : a = #[x] := by
  have : a = a.toList.toArray := by simp
  rw [this, h]
theorem toList_two {α : Type} {a : Array α} {x y : α} (h : a.toList = [x, y]) : a = #[x, y] := by
  have : a = a.toList.toArray := by simp
  rw [this, h]

section
variable {P : Program} {M : Mem} {μ : List Bd} {st : List AObj} {w : World} {ρ : Operand → AV} {ρc : Operand → Value} {o : Oper} {en : Ent} {slot : Nat}

/-- Does the operation make a block? -/
def allocB (o : Oper) : Bool :=
  match o.op with
  | .alloc _ => true
  | .box .. => true
  | .buildSlice .. => true
  | .makeSlice .. => true
  | .makeMap .. => true
  | .call c => match c.callee with
    | .builtin b => match b with
      | .append => true
      | _ => false
    | _ => false
  | _ => false

theorem core_ok (hst : StoreOk M μ st w) (hs0 : allocB o = true → st[slot]? = some .gone) (hρ : ∀ x, RepV M μ (ρ x) (ρc x)) {res : Res}
    (h : core P slot ρ (getO st) en o = some res) (hob : AllP res.ob) : OpOk M μ st w res ((execOp ρc o).run P w) := by
  unfold core at h
  split at h
  · rename_i x ho; cases h; exact ok_move hst hρ ho
  · rename_i x ho; cases h; exact ok_assign hst hρ ho
  · rename_i ho; exact ok_pick hst hρ ho h
  · rename_i ho; exact ok_alloc hst (hs0 (by simp [allocB, ho])) ho h
  · rename_i ho; exact ok_box hst (hs0 (by simp [allocB, ho])) hρ ho h
  · rename_i ho; exact ok_build hst hρ ho h
  · rename_i ho; exact ok_buildSlice hst (hs0 (by simp [allocB, ho])) hρ ho h
  · rename_i ho; exact ok_load hst hρ ho h hob
  · rename_i ho; exact ok_store hst hρ ho h hob
  · rename_i ho; exact ok_nilCheck hst hρ ho h
  · rename_i ho; exact ok_binOp hst hρ ho h hob
  · rename_i ho; exact ok_unOp hst hρ ho h
  · rename_i ho; exact ok_convert hst hρ ho h
  · rename_i ho; exact ok_fieldAddr hst hρ ho h
  · rename_i ho; exact ok_field hst hρ ho h
  · rename_i ho; exact ok_indexAddr hst hρ ho h hob
  · rename_i ho; exact ok_index hst hρ ho h hob
  · rename_i ho; exact ok_extract hst hρ ho h
  · rename_i ho; exact ok_makeInterface hst hρ ho h
  · rename_i ho; exact ok_makeFunc hst hρ ho h
  · rename_i ho; exact ok_slice hst hρ ho h hob
  · rename_i ho; exact ok_makeSlice hst (hs0 (by simp [allocB, ho])) hρ ho h hob
  · rename_i ho
    split at h
    · exact ok_makeMap hst (hs0 (by simp [allocB, ho])) ho h
    · cases h
  · rename_i ho; exact ok_lookup hst hρ ho h hob
  · rename_i ho; exact ok_mapUpdate hst hρ ho h hob
  · rename_i c ho
    obtain ⟨callee, args, argTypes⟩ := c
    simp only at h
    split at h
    · split at h
      · split at h
        · rename_i x hx
          split at h
          · rename_i t ht
            have := toList_one hx; subst this
            have := toList_one ht; subst this
            exact ok_len hst hρ ho h
          · cases h
        · cases h
      · split at h
        · rename_i x y hx
          split at h
          · rename_i t t2 ht
            have := toList_two hx; subst this
            have := toList_two ht; subst this
            exact ok_append hst (hs0 (by simp [allocB, ho])) hρ ho h hob
          · cases h
        · cases h
      · split at h
        · rename_i x y hx
          have := toList_two hx; subst this
          exact ok_max hst hρ ho h
        · cases h
      · split at h
        · rename_i x hx
          split at h
          · rename_i t ht
            have := toList_one hx; subst this
            have := toList_one ht; subst this
            exact ok_clear hst hρ ho h
          · cases h
        · cases h
      · cases h
    · cases h
  · cases h

/-! ### it hangs on its operands and on the objects that it names alone -/
theorem parts_congr {ρ ρ' : Operand → AV} {ps : Array (Nat × Operand)} (h : ∀ x ∈ (ps.toList.map (·.2)).toArray, ρ' x = ρ x) : partsA ρ' ps = partsA ρ ps := by
  simp only [partsA]
  apply List.map_congr_left
  intro p hp
  rw [h p.2 (by simpa using ⟨p.1, by simpa using hp⟩)]

def SameAt (ac : List (Nat × Bool)) (look look' : Nat → AObj) : Prop := ∀ p ∈ ac, look' p.1 = look p.1

theorem bnd_congr {ρ ρ' : Operand → AV} {x : Option Operand} (h : ∀ y, x = some y → ρ' y = ρ y) : bndA ρ' x = bndA ρ x := by
  cases x with
  | none => rfl
  | some y => simp [bndA, h y rfl]

theorem loadA_loc {look look' : Nat → AObj} {t : TypeId} {p : AV} {res : Res} (h : loadA P look en t p = some res) (hl : SameAt res.ac look look') : loadA P look' en t p = some res := by
  cases p with
  | lp l off =>
    have key : (l, false) ∈ res.ac := by
      simp only [loadA] at h
      split at h
      · obtain ⟨r, _, rfl⟩ := Option.map_eq_some_iff.1 h; simp
      · cases h
    have e : look' l = look l := hl _ key
    simp only [loadA] at h ⊢; rw [e]; exact h
  | le l g i off =>
    have key : (l, false) ∈ res.ac := by
      simp only [loadA] at h
      split at h
      · split at h
        · rename_i c _ rows _ _ k cs
          cases hg : Nat.beq g c with
          | false => rw [hg] at h; cases h
          | true =>
            rw [hg] at h
            obtain ⟨r, _, rfl⟩ := Option.map_eq_some_iff.1 h; simp
        · cases h
      · cases h
    have e : look' l = look l := hl _ key
    simp only [loadA] at h ⊢; rw [e]; exact h
  | _ => exact h

theorem storeA_loc {look look' : Nat → AObj} {t : TypeId} {p x : AV} {res : Res} (h : storeA P look en t p x = some res) (hl : SameAt res.ac look look') : storeA P look' en t p x = some res := by
  unfold storeA at h ⊢
  split at h
  · rename_i n vs hn hv
    cases p with
    | lp l off =>
      have key : (l, true) ∈ res.ac := by
        simp only at h
        split at h
        · generalize (Nat.beq vs.length n && _ && _) = b at h
          cases b <;> cases h
          simp
        · cases h
      have e : look' l = look l := hl _ key
      simp only at h ⊢; rw [e]; exact h
    | le l g i off =>
      have key : (l, true) ∈ res.ac := by
        simp only at h
        split at h
        · split at h
          · generalize (Nat.beq g _ && _ && _ && _) = b at h
            cases b <;> cases h
            simp
          · cases h
        · cases h
      have e : look' l = look l := hl _ key
      simp only at h ⊢; rw [e]; exact h
    | _ => cases h
  · cases h

theorem nilCheckA_loc {look look' : Nat → AObj} {x : AV} {res : Res} (h : nilCheckA look x = some res) (hl : SameAt res.ac look look') : nilCheckA look' x = some res := by
  cases x with
  | le l g i off =>
    have key : (l, false) ∈ res.ac := by
      simp only [nilCheckA] at h
      split at h
      · generalize Nat.beq g _ = b at h
        cases b <;> cases h
        simp
      · cases h
    have e : look' l = look l := hl _ key
    simp only [nilCheckA] at h ⊢; rw [e]; exact h
  | _ => exact h

theorem fieldAddrA_loc {look look' : Nat → AObj} {s : TypeId} {x : AV} {f : Nat} {res : Res} (h : fieldAddrA P look s x f = some res) (hl : SameAt res.ac look look') : fieldAddrA P look' s x f = some res := by
  unfold fieldAddrA at h ⊢
  split at h
  · cases x with
    | le l g i off =>
      have key : (l, false) ∈ res.ac := by
        simp only at h
        split at h
        · generalize Nat.beq g _ = b at h
          cases b <;> cases h
          simp
        · cases h
      have e : look' l = look l := hl _ key
      simp only at h ⊢; rw [e]; exact h
    | _ => exact h
  · cases h

theorem indexAddrA_loc {look look' : Nat → AObj} {t : TypeId} {x i : AV} {res : Res} (h : indexAddrA P look en t x i = some res) (hl : SameAt res.ac look look') : indexAddrA P look' en t x i = some res := by
  unfold indexAddrA at h ⊢
  split at h
  · split at h
    · cases x with
      | la l g =>
        have key : (l, false) ∈ res.ac := by
          simp only at h
          split at h
          · split at h
            · generalize (Nat.beq g _ && _) = b at h
              cases b <;> cases h
              simp
            · cases h
          · cases h
        have e : look' l = look l := hl _ key
        simp only at h ⊢; rw [e]; exact h
      | _ => exact h
    · cases h
  · cases h

theorem sliceA_loc {look look' : Nat → AObj} {t : TypeId} {x : AV} {lo hi mx : Option (Option Int)} {res : Res} (h : sliceA P look t x lo hi mx = some res) (hl : SameAt res.ac look look') : sliceA P look' t x lo hi mx = some res := by
  unfold sliceA at h ⊢
  split at h
  · split at h
    · exact h
    · split at h
      · cases x with
        | la l g =>
          have key : (l, true) ∈ res.ac := by
            simp only at h
            split at h
            · split at h
              · generalize (Nat.beq g _ && _) = b at h
                cases b <;> cases h
                simp
              · cases h
            · cases h
          have e : look' l = look l := hl _ key
          simp only at h ⊢; rw [e]; exact h
        | _ => exact h
      · cases h
    · cases h
  · cases h

theorem lenA_loc {look look' : Nat → AObj} {t : TypeId} {x : AV} {res : Res} (h : lenA P look t x = some res) (hl : SameAt res.ac look look') : lenA P look' t x = some res := by
  unfold lenA at h ⊢
  split at h
  · exact h
  · cases x with
    | la l g =>
      have key : (l, false) ∈ res.ac := by
        simp only at h
        split at h
        · generalize Nat.beq g _ = b at h
          cases b <;> cases h
          simp
        · cases h
      have e : look' l = look l := hl _ key
      simp only at h ⊢; rw [e]; exact h
    | _ => exact h
  · cases h

theorem rowsA_loc {look look' : Nat → AObj} {n : Nat} {y : AV} {ys : List (List AV)} {ac : List (Nat × Bool)} (h : rowsA look n y = some (ys, ac)) (hl : SameAt ac look look') : rowsA look' n y = some (ys, ac) := by
  cases y with
  | la l g =>
    have key : (l, false) ∈ ac := by
      simp only [rowsA] at h
      split at h
      · generalize (Nat.beq g _ && _) = b at h
        cases b <;> cases h
        simp
      · cases h
    have e : look' l = look l := hl _ key
    simp only [rowsA] at h ⊢; rw [e]; exact h
  | _ => exact h

theorem appendA_loc {look look' : Nat → AObj} {t t2 : TypeId} {x y : AV} {res : Res} (h : appendA P slot look en t t2 x y = some res) (hl : SameAt res.ac look look') : appendA P slot look' en t t2 x y = some res := by
  unfold appendA at h ⊢
  split at h
  · split at h
    · split at h
      · rename_i i _ _ z _
        generalize (Nat.ble 1 i.size && Nat.ble 1 i.bytes && Nat.beq z.cells.size i.size) = bb at h ⊢
        cases bb with
        | false => cases h
        | true =>
          simp only [cond_true] at h ⊢
          split at h
          · rename_i ys ac hr
            have hsub : ∀ p ∈ ac, p ∈ res.ac := by
              split at h
              · split at h <;> cases h <;> simp_all
              · split at h
                · generalize Nat.beq _ _ = b at h
                  cases b with
                  | false => cases h
                  | true =>
                    simp only [cond_true] at h
                    split at h
                    · split at h
                      · cases h; simp_all
                      · split at h
                        · cases h
                        · cases h; simp_all
                    · cases h; simp_all
                · cases h
              · split at h
                · generalize (Nat.beq _ _ && _) = b at h
                  cases b <;> cases h
                  simp_all
                · cases h
              · cases h
            rw [rowsA_loc hr (fun p hp => hl p (hsub p hp))]
            simp only
            cases x with
            | la l g =>
              have key : (l, true) ∈ res.ac := by
                simp only at h
                split at h
                · generalize (Nat.beq _ _ && _) = b at h
                  cases b <;> cases h
                  simp
                · cases h
              have e : look' l = look l := hl _ key
              simp only at h ⊢; rw [e]; exact h
            | _ => exact h
          · cases h
      · cases h
    · cases h
  · cases h

theorem lookupA_loc {look look' : Nat → AObj} {t : TypeId} {m k : AV} {ok : Bool} {res : Res} (h : lookupA P look en t m k ok = some res) (hl : SameAt res.ac look look') : lookupA P look' en t m k ok = some res := by
  unfold lookupA at h ⊢
  split at h
  · split at h
    · split at h
      · split at h
        · cases m with
          | mp l =>
            have key : (l, false) ∈ res.ac := by
              simp only at h
              split at h
              · split at h
                · split at h
                  · cases h; simp
                  · cases h
                · cases h
              · cases h
            have e : look' l = look l := hl _ key
            simp only at h ⊢; rw [e]; exact h
          | _ => exact h
        · cases h
      · cases h
    · cases h
  · cases h

theorem mapUpdateA_loc {look look' : Nat → AObj} {t : TypeId} {m k x : AV} {res : Res} (h : mapUpdateA P look en t m k x = some res) (hl : SameAt res.ac look look') : mapUpdateA P look' en t m k x = some res := by
  unfold mapUpdateA at h ⊢
  split at h
  · split at h
    · cases m with
      | mp l =>
        have key : (l, true) ∈ res.ac := by
          simp only at h
          split at h
          · split at h
            · split at h
              · generalize dataB 6 x = b at h
                cases b <;> cases h
                simp
              · cases h
            · cases h
          · cases h
        have e : look' l = look l := hl _ key
        simp only at h ⊢; rw [e]; exact h
      | _ => exact h
    · cases h
  · cases h

theorem clearA_loc {look look' : Nat → AObj} {t : TypeId} {x : AV} {res : Res} (h : clearA P look t x = some res) (hl : SameAt res.ac look look') : clearA P look' t x = some res := by
  unfold clearA at h ⊢
  split at h
  · cases x with
    | mp l =>
      have key : (l, true) ∈ res.ac := by
        simp only at h
        split at h
        · cases h; simp
        · cases h
      have e : look' l = look l := hl _ key
      simp only at h ⊢; rw [e]; exact h
    | _ => exact h
  · cases h

theorem core_loc {ρ' : Operand → AV} {look look' : Nat → AObj} {res : Res} (h : core P slot ρ look en o = some res) (hρ : ∀ x ∈ o.op.operands, ρ' x = ρ x) (hl : SameAt res.ac look look') :
    core P slot ρ' look' en o = some res := by
  obtain ⟨dst, op, ty, pos, after, guard⟩ := o
  simp only at hρ
  unfold core at h ⊢
  simp only at h ⊢
  cases op <;> simp only [Op.operands] at hρ <;> simp only at h ⊢
  case move x => rw [hρ x (by simp)]; exact h
  case assign x => rw [hρ x (by simp)]; exact h
  case pick c a b => rw [hρ c (by simp), hρ a (by simp), hρ b (by simp)]; exact h
  case alloc t => exact h
  case box t x => rw [hρ x (by simp)]; exact h
  case build t ps => rw [parts_congr hρ]; exact h
  case buildSlice t n ps => rw [parts_congr hρ]; exact h
  case load t x => rw [hρ x (by simp)]; exact loadA_loc h hl
  case store t p x => rw [hρ p (by simp), hρ x (by simp)]; exact storeA_loc h hl
  case nilCheck x => rw [hρ x (by simp)]; exact nilCheckA_loc h hl
  case binOp op t x y yt => rw [hρ x (by simp), hρ y (by simp)]; exact h
  case unOp op t x => rw [hρ x (by simp)]; exact h
  case convert s d x => rw [hρ x (by simp)]; exact h
  case fieldAddr s x f => rw [hρ x (by simp)]; exact fieldAddrA_loc h hl
  case field s x f => rw [hρ x (by simp)]; exact h
  case indexAddr t x i => rw [hρ x (by simp), hρ i (by simp)]; exact indexAddrA_loc h hl
  case index t x i => rw [hρ x (by simp), hρ i (by simp)]; exact h
  case extract x i => rw [hρ x (by simp)]; exact h
  case makeInterface t x => rw [hρ x (by simp)]; exact h
  case makeFunc fn first caps =>
    have : caps.toList.map ρ' = caps.toList.map ρ := List.map_congr_left fun x hx => hρ x (by simp; exact .inr (by simpa using hx))
    rw [this]; exact h
  case slice t x lo hi mx =>
    rw [hρ x (by simp), bnd_congr (x := lo) (fun y e => hρ y (by simp [e])), bnd_congr (x := hi) (fun y e => hρ y (by simp [e])), bnd_congr (x := mx) (fun y e => hρ y (by simp [e]))]
    exact sliceA_loc h hl
  case makeSlice t l c => rw [hρ l (by simp), hρ c (by simp)]; exact h
  case makeMap t r => exact h
  case lookup t m k ok => rw [hρ m (by simp), hρ k (by simp)]; exact lookupA_loc h hl
  case mapUpdate t m k x => rw [hρ m (by simp), hρ k (by simp), hρ x (by simp)]; exact mapUpdateA_loc h hl
  case call c =>
    obtain ⟨callee, args, argTypes⟩ := c
    simp only [Call.operands] at hρ
    simp only at h ⊢
    split at h
    · split at h
      · split at h
        · rename_i x hx
          have := toList_one hx; subst this
          split at h
          · rw [hρ x (by simp)]; exact lenA_loc h hl
          · cases h
        · cases h
      · split at h
        · rename_i x y hx
          have := toList_two hx; subst this
          split at h
          · rw [hρ x (by simp), hρ y (by simp)]; exact appendA_loc h hl
          · cases h
        · cases h
      · split at h
        · rename_i x y hx
          have := toList_two hx; subst this
          rw [hρ x (by simp), hρ y (by simp)]; exact h
        · cases h
      · split at h
        · rename_i x hx
          have := toList_one hx; subst this
          split at h
          · rw [hρ x (by simp)]; exact clearA_loc h hl
          · cases h
        · cases h
      · cases h
    · cases h
  all_goals cases h

end
end Go.Ae

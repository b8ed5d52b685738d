/- The abstract executor, part 22: closed calls, with less work for the kernel: what hangs on the text alone is found once. -/
import Derived.Test.YtpcnfjddleceiaaGreatAe21
namespace Go.Ae

/-! ### the temporaries: a tree -/
inductive Tr where
  | e
  | n (v : AV) (l r : Tr)

noncomputable def Tr.get (t : Tr) : Nat → AV :=
  Tr.rec (motive := fun _ => Nat → AV) (fun _ => .any) (fun v _ _ gl gr i => bif Nat.beq i 0 then v else bif Nat.beq (Nat.mod i 2) 1 then gl (Nat.div i 2) else gr (Nat.pred (Nat.div i 2))) t

section
universe u
variable {β : Type u}
noncomputable def Tr.put (t : Tr) : Nat → AV → (Tr → Option β) → Option β :=
  Tr.rec (motive := fun _ => Nat → AV → (Tr → Option β) → Option β) (fun _ _ _ => none)
    (fun v l r gl gr i x k => bif Nat.beq i 0 then k (.n x l r) else bif Nat.beq (Nat.mod i 2) 1 then gl (Nat.div i 2) x fun l' => k (.n v l' r) else gr (Nat.pred (Nat.div i 2)) x fun r' => k (.n v l r')) t

theorem Tr.put_spec : ∀ (t : Tr) (i : Nat) (x : AV) (k : Tr → Option β) (r : β), t.put i x k = some r → ∃ t', k t' = some r ∧ ∀ j, t'.get j = putT t.get i x j
  | .e, i, x, k, r, h => by cases h
  | .n v l r0, i, x, k, r, h => by
    have e1 : (Tr.n v l r0).put i x k = bif Nat.beq i 0 then k (.n x l r0) else bif Nat.beq (Nat.mod i 2) 1 then l.put (Nat.div i 2) x fun l' => k (.n v l' r0) else r0.put (Nat.pred (Nat.div i 2)) x fun r' => k (.n v l r') := rfl
    have e2 : ∀ (v : AV) (l r : Tr) (j : Nat), (Tr.n v l r).get j = bif Nat.beq j 0 then v else bif Nat.beq (Nat.mod j 2) 1 then l.get (Nat.div j 2) else r.get (Nat.pred (Nat.div j 2)) := fun _ _ _ _ => rfl
    have hb : ∀ (a b : Nat), Nat.beq a b = decide (a = b) := fun a b => by
      cases h : Nat.beq a b with
      | true => rw [decide_eq_true (Nat.eq_of_beq_eq_true h)]
      | false => rw [decide_eq_false (fun e => by rw [e] at h; simp at h)]
    rw [e1] at h
    simp only [hb, cond_eq_ite, decide_eq_true_eq] at h e2
    have hmod : ∀ a, Nat.mod a 2 = a % 2 := fun _ => rfl
    have hdiv : ∀ a, Nat.div a 2 = a / 2 := fun _ => rfl
    simp only [hmod, hdiv, Nat.pred_eq_sub_one] at h e2
    split at h
    · rename_i h0
      refine ⟨_, h, fun j => ?_⟩
      simp only [e2, putT, hb, cond_eq_ite, decide_eq_true_eq, h0]
      split <;> rfl
    · rename_i h0
      split at h
      · rename_i h1
        obtain ⟨t', k1, k2⟩ := Tr.put_spec l _ _ _ _ h
        refine ⟨_, k1, fun j => ?_⟩
        simp only [e2, k2, putT, hb, cond_eq_ite, decide_eq_true_eq]
        by_cases hj : j = i
        · subst hj; simp [h0, h1]
        · simp only [if_neg hj]
          split
          · rfl
          · rename_i hj0
            split
            · rename_i hj1
              rw [if_neg (by omega)]
            · rfl
      · rename_i h1
        obtain ⟨t', k1, k2⟩ := Tr.put_spec r0 _ _ _ _ h
        refine ⟨_, k1, fun j => ?_⟩
        simp only [e2, k2, putT, hb, cond_eq_ite, decide_eq_true_eq]
        by_cases hj : j = i
        · subst hj; simp [h0, h1]
        · simp only [if_neg hj]
          split
          · rfl
          · rename_i hj0
            split
            · rfl
            · rename_i hj1
              rw [if_neg (by omega)]
end

def Tr.full : Nat → Tr
  | 0 => .e
  | m + 1 => .n (.sc undef) (Tr.full m) (Tr.full m)

/-- The arguments. -/
noncomputable def Tr.args {β : Type} : List AV → Tr → Nat → (Tr → Option β) → Option β
  | [], t, _, k => k t
  | a :: as, t, i, k => t.put i a fun t => Tr.args as t (Nat.succ i) k

/-! ### objects by their places -/
noncomputable def nthO (st : List AObj) : Nat → AObj :=
  List.rec (motive := fun _ => Nat → AObj) (fun _ => .gone) (fun o _ g i => bif Nat.beq i 0 then o else g (Nat.pred i)) st

theorem nthO_eq : ∀ (st : List AObj), nthO st = getO st
  | [] => by funext i; simp [getO, nthO]
  | o :: st => by
    funext i
    have e : nthO (o :: st) i = bif Nat.beq i 0 then o else nthO st (Nat.pred i) := rfl
    rw [e, nthO_eq st]
    cases i with
    | zero => rfl
    | succ i =>
      show (bif Nat.beq (i + 1) 0 then o else getO st i) = _
      rw [show Nat.beq (i + 1) 0 = false from rfl]
      simp [getO]

/-! ### what the text alone says of an operation -/
structure F3 where
  f : (Operand → AV) → (Nat → AObj) → Nat → Option Res

def xRun (P : Program) (o : Oper) (ρ : Operand → AV) (look : Nat → AObj) (slot : Nat) : Option Res :=
  match entX P ρ look o with
  | some en => core P slot ρ look en o
  | none => none

def yLoad (P : Program) (look : Nat → AObj) (t : TypeId) (p : AV) : Option Res :=
  match p with
  | .ip cs off => (ldA P t cs off).map fun r => ⟨r, [], [], []⟩
  | .lp l off => match look l with
    | .cells cs _ => (ldA P t cs off).map fun r => ⟨r, [], [(l, false)], []⟩
    | _ => none
  | .le l g i off => match look l with
    | .arr c _ rows => match rows[i]? with
      | some cs => bif Nat.beq g c then (ldA P t cs off).map fun r => ⟨r, [], [(l, false)], [rows[i]? = some cs]⟩ else none
      | none => none
    | _ => none
  | _ => none

def cRun (P : Program) (o : Oper) : F3 :=
  match o.op with
  | .move x => ⟨fun ρ _ _ => some ⟨ρ x, [], [], []⟩⟩
  | .assign x => ⟨fun ρ _ _ => some ⟨ρ x, [], [], []⟩⟩
  | .fieldAddr s x f => ⟨fun ρ look _ => fieldAddrA P look s (ρ x) f⟩
  | .nilCheck x => ⟨fun ρ look _ => nilCheckA look (ρ x)⟩
  | .extract x i => ⟨fun ρ _ _ => extractA (ρ x) i⟩
  | .field s x f => ⟨fun ρ _ _ => fieldA P s (ρ x) f⟩
  | .pick c a b => ⟨fun ρ _ _ => pickA (ρ c) (ρ a) (ρ b)⟩
  | .alloc t => ⟨fun _ _ slot => allocA P slot t⟩
  | .box _ x => ⟨fun ρ _ slot => boxA slot (ρ x)⟩
  | .unOp op _ x => ⟨fun ρ _ _ => unOpA op (ρ x)⟩
  | .convert s d x => ⟨fun ρ _ _ => convertA P s d (ρ x)⟩
  | .load t x => ⟨fun ρ look _ => yLoad P look t (ρ x)⟩
  | .binOp .eql t x y _ => ⟨fun ρ _ _ => binOpA P .eql t (ρ x) (ρ y)⟩
  | .binOp .neq t x y _ => ⟨fun ρ _ _ => binOpA P .neq t (ρ x) (ρ y)⟩
  | .binOp .lss t x y _ => ⟨fun ρ _ _ => binOpA P .lss t (ρ x) (ρ y)⟩
  | .binOp .leq t x y _ => ⟨fun ρ _ _ => binOpA P .leq t (ρ x) (ρ y)⟩
  | .binOp .gtr t x y _ => ⟨fun ρ _ _ => binOpA P .gtr t (ρ x) (ρ y)⟩
  | .binOp .geq t x y _ => ⟨fun ρ _ _ => binOpA P .geq t (ρ x) (ρ y)⟩
  | .binOp .sub t x y _ => ⟨fun ρ _ _ => binOpA P .sub t (ρ x) (ρ y)⟩
  | _ => ⟨fun ρ look slot => xRun P o ρ look slot⟩

theorem cRun_eq (P : Program) (o : Oper) (ρ : Operand → AV) (look : Nat → AObj) (slot : Nat) : (cRun P o).f ρ look slot = xRun P o ρ look slot := by
  unfold cRun
  split <;> first | rfl | skip
  all_goals
    rename_i ho
    unfold xRun
    unfold entX core
    rw [ho]
  case h_12 t x =>
    show yLoad P look t (ρ x) = match (match ρ x with
      | .le l _ i _ => match look l with
        | .arr _ _ rows => match rows[i]? with
          | some cs => some (Ent.row i cs)
          | none => none
        | _ => none
      | _ => some .no) with
      | some en => loadA P look en t (ρ x)
      | none => none
    unfold loadA yLoad
    generalize ρ x = p
    cases p <;> try rfl
    rename_i l g i off
    simp only
    generalize look l = ob
    cases ob <;> try rfl
    rename_i c sz rows
    simp only
    generalize rows[i]? = q
    cases q <;> rfl

/-- What the text says of an operation. -/
structure Cp where
  dst : Option Tmp
  guard : Option (Option Tmp × Bool)
  call : Option Call
  alloc : Bool
  slot : Nat
  run : F3

def guardC (ops : Array Oper) (o : Oper) : Option (Option Tmp × Bool) :=
  match o.guard with
  | none => none
  | some (j, w) => some ((ops[j]?).bind (·.dst), w)

def cOf (P : Program) (N : Nat) (ops : Array Oper) (i : Nat) : Option Cp :=
  match ops[i]? with
  | some o => bif dstOk N o.dst then some ⟨o.dst, guardC ops o, funcCall o, allocB o, ((ops.toList.take i).filter allocB).length, cRun P o⟩ else none
  | none => none

def wantC (tm : Nat → AV) (g : Option (Option Tmp × Bool)) : Option Bool :=
  match g with
  | none => some true
  | some (d, want) => match d with
    | some d => match tm d with
      | .sc (.bool b) => some (bif want then b else !b)
      | .sc (.tuple _) => some false
      | _ => none
    | none => none

theorem wantC_eq (ops : Array Oper) (tm : Nat → AV) (o : Oper) : wantC tm (guardC ops o) = wantedA ops tm o := by
  unfold wantedA wantC guardC
  generalize o.guard = g
  cases g with
  | none => rfl
  | some p =>
    obtain ⟨j, w⟩ := p
    generalize hd : (ops[j]?).bind (·.dst) = d
    simp only [hd]
    cases d with
    | none => rfl
    | some d =>
      simp only
      generalize tm d = v
      cases v <;> rfl

/-! ### a state, one operation -/
structure YS where
  tr : Tr
  st : List AObj

noncomputable def YS.a (s : YS) : ASt := ⟨s.tr.get, s.st⟩

section
universe u
variable {α : Type u}
/-- Small values are rebuilt whole; of rows the spine alone. -/
def gA (a : AV) (k : AV → α) : α :=
  match a with
  | .sc v => fVal v fun v => k (.sc v)
  | .sl sz xs f => fL (fun r k => fL (fun a k => k a) r k) xs fun xs => fBool f fun f => k (.sl sz xs f)
  | .ip cs off => fL (fun a k => k a) cs fun cs => fNat off fun off => k (.ip cs off)
  | .lp l off => fNat l fun l => fNat off fun off => k (.lp l off)
  | .le l g i off => fNat l fun l => fNat g fun g => fNat i fun i => fNat off fun off => k (.le l g i off)
  | .la l g => fNat l fun l => fNat g fun g => k (.la l g)
  | .agg cs => fL (fun a k => k a) cs fun cs => k (.agg cs)
  | .tup cs => fL (fun a k => k a) cs fun cs => k (.tup cs)
  | a => k a
theorem gA_eq (a : AV) (k : AV → α) : gA a k = k a := by
  have h1 : ∀ (l : List AV) (k : List AV → α), fL (fun a k => k a) l k = k l := fL_eq fun _ _ => rfl
  have h2 : ∀ (l : List (List AV)) (k : List (List AV) → α), fL (fun r k => k r) l k = k l := fL_eq fun _ _ => rfl
  cases a <;> simp [gA, h1, h2]

/-- Handed over: what is not data is rebuilt. -/
def hA : Nat → AV → (AV → α) → α
  | 0, a, k => k a
  | n + 1, a, k => match a with
    | .sc v => fVal v fun v => k (.sc v)
    | .lp l off => fNat l fun l => fNat off fun off => k (.lp l off)
    | .le l g i off => fNat l fun l => fNat g fun g => fNat i fun i => fNat off fun off => k (.le l g i off)
    | .la l g => fNat l fun l => fNat g fun g => k (.la l g)
    | .mp l => fNat l fun l => k (.mp l)
    | .fn f cs => fL (hA n) cs fun cs => k (.fn f cs)
    | .ifc t x => hA n x fun x => k (.ifc t x)
    | .agg cs => fL (hA n) cs fun cs => k (.agg cs)
    | .tup cs => fL (hA n) cs fun cs => k (.tup cs)
    | .sl sz xs f => k (.sl sz xs f)
    | .ip cs off => k (.ip cs off)
    | .any => k .any
    | .nil => k .nil
theorem hA_eq : ∀ (n : Nat) (a : AV) (k : AV → α), hA n a k = k a
  | 0, a, k => rfl
  | n + 1, a, k => by
    have h1 : ∀ (l : List AV) (k : List AV → α), fL (hA n) l k = k l := fL_eq (hA_eq n)
    cases a <;> simp [hA, h1, hA_eq n]

def gO (o : AObj) (k : AObj → α) : α :=
  match o with
  | .gone => k .gone
  | .cells cs ro => fL (hA 8) cs fun cs => k (.cells cs ro)
  | .arr g sz rows => fNat g fun g => fL (fL (hA 8)) rows fun rows => k (.arr g sz rows)
  | .map es => fL (fun p k => fStr p.1 fun s => hA 8 p.2 fun a => k (s, a)) es fun es => k (.map es)
theorem gO_eq (o : AObj) (k : AObj → α) : gO o k = k o := by
  have h1 : ∀ (l : List AV) (k : List AV → α), fL (hA 8) l k = k l := fL_eq (hA_eq 8)
  have h2 : ∀ (l : List (List AV)) (k : List (List AV) → α), fL (fL (hA 8)) l k = k l := fL_eq h1
  have h4 : ∀ (l : List (ByteArray × AV)) (k : List (ByteArray × AV) → α), fL (fun p k => fStr p.1 fun s => hA 8 p.2 fun a => k (s, a)) l k = k l := fL_eq fun b k => by
    simp [hA_eq]
  cases o <;> simp only [gO, h1, h2, h4, fNat_eq]

def gWr : List AObj → List (Nat × AObj) → (List AObj → α) → α
  | st, [], k => k st
  | st, (l, o) :: r, k => gO o fun o => fSet st l o fun st => gWr st r k
theorem gWr_eq : ∀ (st : List AObj) (wr : List (Nat × AObj)) (k : List AObj → α), gWr st wr k = k (applyWr st wr)
  | st, [], k => rfl
  | st, (l, o) :: r, k => by simp only [gWr, gO_eq, fSet_eq]; rw [gWr_eq _ r]; rfl

def gApp (st : List AObj) (n : Nat) (k : List AObj → α) : α :=
  match n with
  | 0 => k st
  | n + 1 => fApp st (Nat.succ n) k
theorem gApp_eq (st : List AObj) (n : Nat) (k : List AObj → α) : gApp st n k = k (st ++ List.replicate n .gone) := by
  cases n with
  | zero => simp [gApp]
  | succ n => simp [gApp, fApp_eq]
end

/-- A call: what is called, with what, its result, what it leaves. -/
def yCall (P : Program) (cal : Cal) (ρ : Operand → AV) (look : Nat → AObj) (endS : Nat) (c : Call) : Option Eff :=
  match targetA P ρ c with
  | some (g, args) =>
    fL fNat (reach look 1000 [] (args.flatMap (idsV 6))) fun ids =>
    fL (hA 8) (args.map (renV (renOf ids 0 look) 6)) fun as =>
    fL gO (newSt ids 0 look) fun σ =>
    match cal g as σ with
    | some (r, σ2) => bif nodupB ids && Nat.ble ids.length σ2.length && ids.all (fun l => Nat.blt l endS) then
        some ⟨renV (outRen ids look endS σ2) 6 r, σ2.length - ids.length, wrOut ids look endS σ2,
           ids.map (fun l => (l, true)) ++ (List.range (σ2.length - ids.length)).map (fun k => (endS + k, true)), [SoundCall P g as σ r σ2]⟩ else none
    | none => none
  | none => none

noncomputable def yPut {β : Type} (tr : Tr) (d : Option Tmp) (r : AV) (k : Tr → Option β) : Option β :=
  match d with
  | some d => tr.put d r k
  | none => k tr

noncomputable def yFin (s : YS) (i : Nat) (d : Option Tmp) (more : List (Nat × Bool)) (res : Option Res) : Option (YS × Nat × List (Nat × Bool) × Nat) :=
  match res with
  | none => none
  | some ⟨r, wr, ac, ob⟩ => match wr with
    | [] => gA r fun r => yPut s.tr d r fun tr => some (⟨tr, s.st⟩, i, more ++ ac, 0)
    | p :: ps => bif okE s.st.length ⟨r, 0, p :: ps, more ++ ac, ob⟩ then gA r fun r => gWr s.st (p :: ps) fun st => yPut s.tr d r fun tr => some (⟨tr, st⟩, i, more ++ ac, 0) else none

noncomputable def yStep (P : Program) (cal : Cal) (N base : Nat) (ops : Array Oper) (i : Nat) (s : YS) : Option (YS × Nat × List (Nat × Bool) × Nat) :=
  match cOf P N ops i with
  | none => none
  | some c => match wantC s.tr.get c.guard with
    | some true => match c.call with
      | some k => match yCall P cal (evA s.a) (nthO s.st) s.st.length k with
        | some e => bif okE s.st.length e then
            hA 8 e.r fun r => fNat e.pad fun pad => gApp s.st pad fun st => gWr st e.wr fun st => yPut s.tr c.dst r fun tr => some (⟨tr, st⟩, i, e.ac, pad) else none
        | none => none
      | none => bif c.alloc then
          (match nthO s.st (base + c.slot) with
          | .gone => bif Nat.blt c.slot (slotsOf ops) then yFin s i c.dst [(base + c.slot, true)] (F3.f c.run (evA s.a) (nthO s.st) (base + c.slot)) else none
          | _ => none)
        else yFin s i c.dst [] (F3.f c.run (evA s.a) (nthO s.st) (base + c.slot))
    | some false => yPut s.tr c.dst (.sc undef) fun tr => some (⟨tr, s.st⟩, i, [], 0)
    | none => none

section
variable {P : Program} {cal : Cal} {N base : Nat} {ops : Array Oper}

theorem yPut_spec {β : Type} {s : YS} {d : Option Tmp} {r : AV} {st : List AObj} {k : Tr → Option β} {x : β} (h : yPut s.tr d r k = some x) : ∃ tr, k tr = some x ∧ YS.a ⟨tr, st⟩ = ⟨putO s.tr.get d r, st⟩ := by
  cases d with
  | none => exact ⟨s.tr, h, rfl⟩
  | some d =>
    obtain ⟨t', h1, h2⟩ := Tr.put_spec s.tr d r k x h
    refine ⟨t', h1, ?_⟩
    simp only [YS.a, putO]
    congr 1
    funext j
    exact h2 j

theorem tidyArgs_nil : ∀ (ts : List TypeId) (as : List AV), tidyArgs [] ts as = as
  | [], as => rfl
  | t :: ts, [] => rfl
  | t :: ts, a :: as => by
    have : tidyV (kindsOf [] t) a = a := by cases a <;> rfl
    simp only [tidyArgs, this, tidyArgs_nil ts as]

theorem yCall_spec (hcal : CalOk P cal) {ρ : Operand → AV} {look : Nat → AObj} {endS slot cap : Nat} {o : Oper} {c : Call} {e : Eff} (ho : funcCall o = some c) (h : yCall P cal ρ look endS c = some e) :
    ∃ en, effA P [] slot cap endS ρ look en o = some e ∧ AllP e.ob := by
  unfold yCall at h
  split at h
  · rename_i g args ht
    rw [fL_eq fNat_eq, fL_eq (hA_eq 8), fL_eq gO_eq] at h
    split at h
    · rename_i r σ' hc
      simp only [cond_eq_ite, Option.ite_none_right_eq_some, Option.some.injEq] at h
      obtain ⟨h1, rfl⟩ := h
      refine ⟨.call r σ', ?_, ob1 (hcal _ _ _ _ _ hc) ob0⟩
      unfold effA
      rw [ho]
      simp only [callA, ht, callB, h1, cond_true, tidyArgs_nil]
    · cases h
  · cases h

theorem yFin_spec {s s' : YS} {i : Nat} {d : Option Tmp} {more : List (Nat × Bool)} {res : Option Res} {x : Nat × List (Nat × Bool) × Nat} (h : yFin s i d more res = some (s', x)) :
    ∃ r0, res = some r0 ∧ okE s.st.length ⟨r0.r, 0, r0.wr, more ++ r0.ac, r0.ob⟩ = true ∧ x = (i, more ++ r0.ac, 0) ∧ s'.a = ⟨putO s.tr.get d r0.r, applyE s.st ⟨r0.r, 0, r0.wr, more ++ r0.ac, r0.ob⟩⟩ := by
  unfold yFin at h
  split at h
  · cases h
  · rename_i r wr ac ob
    refine ⟨_, rfl, ?_⟩
    split at h
    · rw [gA_eq] at h
      obtain ⟨tr, h1, h2⟩ := yPut_spec (st := s.st) h
      cases h1
      refine ⟨by simp [okE], rfl, ?_⟩
      rw [h2]
      simp [applyE, applyWr]
    · simp only [cond_eq_ite, Option.ite_none_right_eq_some] at h
      obtain ⟨hok, h⟩ := h
      rw [gA_eq, gWr_eq] at h
      obtain ⟨tr, h1, h2⟩ := yPut_spec (st := applyWr s.st _) h
      cases h1
      refine ⟨hok, rfl, ?_⟩
      rw [h2]
      simp [applyE]

theorem yStep_spec (hcal : CalOk P cal) {i : Nat} {s s' : YS} {x : Nat × List (Nat × Bool) × Nat} (h : yStep P cal N base ops i s = some (s', x)) :
    ∃ en, ∀ es, entOf es i = en → ∃ r, stepA P [] N base ops es i s.a = some r ∧ AllP r.ob ∧ x = (i, r.ac, r.pad) ∧ r.s = s'.a := by
  unfold yStep at h
  split at h
  · cases h
  · rename_i c hc
    unfold cOf at hc
    split at hc
    · rename_i o ho
      simp only [cond_eq_ite, Option.ite_none_right_eq_some, Option.some.injEq] at hc
      obtain ⟨hd, rfl⟩ := hc
      simp only [wantC_eq] at h
      have run : ∀ {more : List (Nat × Bool)} {slot : Nat}, allocB o = true ∨ allocB o = false → funcCall o = none → yFin s i o.dst more (F3.f (cRun P o) (evA s.a) (nthO s.st) (base + slot)) = some (s', x) →
          (∀ en e, coreE P (base + slot) (evA s.a) (getO s.st) en o more = some e → effA P [] (slotOf ops base i) (base + slotsOf ops) s.st.length (evA s.a) (getO s.st) en o = some e) →
          wantedA ops s.tr.get o = some true →
          ∃ en, ∀ es, entOf es i = en → ∃ r, stepA P [] N base ops es i s.a = some r ∧ AllP r.ob ∧ x = (i, r.ac, r.pad) ∧ r.s = s'.a := fun {more slot} _ hf hy hef hw => by
        obtain ⟨r0, k1, k2, k3, k4⟩ := yFin_spec hy
        rw [cRun_eq, nthO_eq] at k1
        unfold xRun at k1
        split at k1
        · rename_i en hen
          refine ⟨en, fun es hes => ⟨⟨⟨putO s.tr.get o.dst r0.r, applyE s.st ⟨r0.r, 0, r0.wr, more ++ r0.ac, r0.ob⟩⟩, more ++ r0.ac, 0, r0.ob⟩, ?_, entX_ob hen k1, k3, k4.symm⟩⟩
          unfold stepA
          simp only [ho, hd, cond_true]
          rw [show s.a.tm = s.tr.get from rfl, hw]
          simp only [hes]
          rw [show s.a.st = s.st from rfl, hef en ⟨r0.r, 0, r0.wr, more ++ r0.ac, r0.ob⟩ (by
            unfold coreE
            rw [k1]
            simp only [Option.map_some, adj_plain (entX_plain hen)])]
          simp only [Option.bind_some, k2, cond_true]
        · cases k1
      split at h
      · rename_i hw
        split at h
        · rename_i k hk
          split at h
          · rename_i e he
            rw [nthO_eq] at he
            simp only [cond_eq_ite, Option.ite_none_right_eq_some] at h
            obtain ⟨hok, h⟩ := h
            rw [hA_eq, fNat_eq, gApp_eq, gWr_eq] at h
            obtain ⟨tr, h1, h2⟩ := yPut_spec (st := applyWr (s.st ++ List.replicate e.pad .gone) e.wr) h
            cases h1
            obtain ⟨en, q1, q2⟩ := yCall_spec (slot := slotOf ops base i) (cap := base + slotsOf ops) hcal hk he
            refine ⟨en, fun es hes => ⟨⟨⟨putO s.tr.get o.dst e.r, applyE s.st e⟩, e.ac, e.pad, e.ob⟩, ?_, q2, rfl, h2.symm⟩⟩
            unfold stepA
            simp only [ho, hd, cond_true]
            rw [show s.a.tm = s.tr.get from rfl, hw]
            simp only [hes]
            rw [show s.a.st = s.st from rfl, q1]
            simp only [Option.bind_some, hok, cond_true]
          · cases h
        · rename_i hk
          cases hal : allocB o with
          | true =>
            simp only [hal, cond_true] at h
            split at h
            · rename_i hg
              simp only [cond_eq_ite, Option.ite_none_right_eq_some] at h
              obtain ⟨hlt, h⟩ := h
              refine run (.inl hal) hk h (fun en e hce => ?_) hw
              unfold effA
              rw [hk]
              simp only [hal, cond_true]
              rw [nthO_eq] at hg
              rw [show slotOf ops base i = base + ((ops.toList.take i).filter allocB).length from rfl, hg]
              simp only
              rw [show Nat.blt (base + ((ops.toList.take i).filter allocB).length) (base + slotsOf ops) = true from by
                have := Nat.le_of_ble_eq_true hlt
                exact Nat.ble_eq_true_of_le (by omega)]
              exact hce
            · cases h
          | false =>
            simp only [hal, cond_false] at h
            refine run (.inr hal) hk h (fun en e hce => ?_) hw
            unfold effA
            rw [hk]
            simp only [hal, cond_false]
            exact hce
      · rename_i hw
        obtain ⟨tr, h1, h2⟩ := yPut_spec (st := s.st) h
        cases h1
        refine ⟨.no, fun es hes => ⟨⟨⟨putO s.tr.get o.dst (.sc undef), s.st⟩, [], 0, []⟩, ?_, ob0, rfl, h2.symm⟩⟩
        unfold stepA
        simp only [ho, hd, cond_true]
        rw [show s.a.tm = s.tr.get from rfl, hw]
        rfl
      · cases h
    · cases hc

/-! ### a region -/
noncomputable def yOps (P : Program) (cal : Cal) (N base : Nat) (ops : Array Oper) : List Nat → YS → Option (YS × Rec)
  | [], s => some (s, [])
  | i :: L, s => match yStep P cal N base ops i s with
    | some (s1, x) => match yOps P cal N base ops L s1 with
      | some (s2, rec) => some (s2, x :: rec)
      | none => none
    | none => none

/-- The pairs of operations that may go in either order. -/
def loose (ops : Array Oper) : List (Nat × Nat) :=
  (List.range ops.size).flatMap fun j => ((List.range j).filter fun i => !((masks ops.toList []).getD j 0).testBit i).map fun i => (i, j)

def looseOk (ops : Array Oper) (rec : Rec) : Bool := (loose ops).all fun p =>
  noConf (recOf rec p.1).1 (recOf rec p.2).1 && (bif Nat.beq (recOf rec p.1).2 0 then true else Nat.beq (recOf rec p.2).2 0) && apartB ops p.1 p.2

noncomputable def yReg (P : Program) (cal : Cal) (N : Nat) (ops : Array Oper) (draw : Bool) (s : YS) : Option YS :=
  gApp s.st (slotsOf ops) fun st0 => match yOps P cal N s.st.length ops (List.range ops.size) ⟨s.tr, st0⟩ with
  | some (s', rec) => bif draw then (bif P.follows .mixedOrders && edgesOk ops && looseOk ops rec then some s' else none) else some s'
  | none => none

theorem yOps_run (hcal : CalOk P cal) : ∀ {L : List Nat} {s s' : YS} {rec : Rec}, yOps P cal N base ops L s = some (s', rec) →
    rec.map (·.1) = L ∧ ∃ ens : List Ent, ens.length = L.length ∧ ∀ es rc, (∀ (j : Nat) (i : Nat) (en : Ent), L[j]? = some i → ens[j]? = some en → entOf es i = en) → (∀ p ∈ rec, rc p.1 = p.2) → Run P [] N base ops es rc L s.a s'.a
  | [], s, s', rec, h => by
    simp only [yOps, Option.some.injEq, Prod.mk.injEq] at h
    obtain ⟨rfl, rfl⟩ := h
    exact ⟨rfl, [], rfl, fun _ _ _ _ => .nil⟩
  | i :: L, s, s', rec, h => by
    simp only [yOps] at h
    split at h
    · rename_i s1 x h1
      split at h
      · rename_i s2 rec2 h2
        cases h
        obtain ⟨en, k1⟩ := yStep_spec hcal h1
        obtain ⟨k2, ens, k3, k4⟩ := yOps_run hcal h2
        have hx : x.1 = i := by
          obtain ⟨r, _, _, e, _⟩ := k1 [(i, en)] (by simp [entOf])
          rw [e]
        refine ⟨by simp [hx, k2], en :: ens, by simp [k3], fun es rc hes hrc => ?_⟩
        obtain ⟨r, q1, q2, q3, q4⟩ := k1 es (hes 0 i en rfl rfl)
        refine .cons r q1 q2 ?_ ?_
        · have := hrc x (by simp)
          rw [q3] at this
          exact this
        · rw [q4]
          exact k4 es rc (fun j i' en' e1 e2 => hes (j + 1) i' en' (by simpa using e1) (by simpa using e2)) (fun p hp => hrc p (by simp [hp]))
      · cases h
    · cases h

theorem looseOk_spec {rec : Rec} (h : looseOk ops rec = true) (i j : Nat) (hij : i < j) (hj : j < ops.size) : ((masks ops.toList []).getD j 0).testBit i = true ∨ OkPair ops (recOf rec) i j := by
  cases hb : ((masks ops.toList []).getD j 0).testBit i with
  | true => exact .inl rfl
  | false =>
    refine .inr ?_
    have hm : (i, j) ∈ loose ops := by
      simp only [loose, List.mem_flatMap, List.mem_range, List.mem_map, List.mem_filter]
      exact ⟨j, hj, i, ⟨hij, by rw [hb]; rfl⟩, rfl⟩
    have := List.all_eq_true.1 h _ hm
    simp only [Bool.and_eq_true] at this
    obtain ⟨⟨h1, h2⟩, h3⟩ := this
    unfold apartB at h3
    split at h3
    · rename_i x y e1 e2
      refine ⟨x, y, e1, e2, h3, h1, ?_⟩
      cases h0 : Nat.beq (recOf rec i).2 0 with
      | true => exact .inl (Nat.eq_of_beq_eq_true h0)
      | false => rw [h0] at h2; exact .inr (Nat.eq_of_beq_eq_true h2)
    · cases h3

theorem yReg_sound (hcal : CalOk P cal) {draw : Bool} {id m : Nat} {s s' : YS} (h : yReg P cal N ops draw s = some s') : T P N m (.region id ops draw) s.a .normal s'.a := by
  intro M μ a w hR Q hQ
  unfold yReg at h
  rw [gApp_eq] at h
  obtain ⟨p1, p2, p3⟩ := hR.pad (slotsOf ops)
  have hcap : s.a.st.length + slotsOf ops ≤ (padS (slotsOf ops) s.a).st.length := by simp [padS]
  split at h
  · rename_i s1 rec he
    obtain ⟨hk, ens, hl, hrun⟩ := yOps_run hcal he
    have k1 : Run P [] N s.st.length ops ((List.range ops.size).zip ens) (recOf rec) (List.range ops.size) (padS (slotsOf ops) s.a) s1.a :=
      hrun _ _ (entOf_zip _ _ List.nodup_range) (recOf_mem (by rw [hk]; exact List.nodup_range))
    cases draw with
    | false =>
      simp only [cond_false, Option.some.injEq] at h
      subst h
      exact wp_region (k1.ok hcap p1 fun a' w' M' μ' r1 r2 r3 => hQ a' w' M' μ' r1 (p2.trans r2) ((p3.trans r3).to m))
    | true =>
      simp only [cond_true] at h
      cases hc : (P.follows .mixedOrders && edgesOk ops && looseOk ops rec) with
      | false => rw [hc] at h; cases h
      | true =>
      rw [hc] at h
      simp only [cond_true, Option.some.injEq] at h
      subst h
      simp only [Bool.and_eq_true] at hc
      obtain ⟨⟨hc1, hc2⟩, hc3⟩ := hc
      refine wp_region_any hc1 ?_
      refine Run.any (rc := recOf rec) hc2 (looseOk_spec hc3) _ _ _ M (μ ++ List.replicate (slotsOf ops) Bd.zero) a { w with drawn := w.drawn + 1 } (by simp) (fun j o _ hl => ?_) (by rw [todo_all]; simp) (by rw [todo_all]; exact k1) hcap
        ⟨p1.size, p1.defers, p1.tm, p1.st.drew _⟩ fun a' w' M' μ' r1 r2 r3 => hQ a' w' M' μ' r1 (p2.trans ((Stp.drew ..).trans r2)) ((p3.trans r3).to m)
      simp only [Array.getD_eq_getD_getElem?, Array.getElem?_replicate] at hl
      split at hl <;> simp at hl
  · cases h
end

/-! ### code -/
def yLoop : Nat → (YS → Option (Exit × YS)) → YS → Option (Exit × YS)
  | 0, _, _ => none
  | n + 1, f, s => match f s with
    | some (.normal, s1) => yLoop n f s1
    | r => r

noncomputable def yCode (P : Program) (cal : Cal) (N rounds : Nat) : Code → YS → Option (Exit × YS)
  | .skip, s => some (.normal, s)
  | .region _ ops draw, s => match yReg P cal N ops draw s with
    | some s' => some (.normal, s')
    | none => none
  | .seq x y, s => match yCode P cal N rounds x s with
    | some (.normal, s1) => yCode P cal N rounds y s1
    | r => r
  | .cond c x y, s => match evA s.a c with
    | .sc (.bool b) => bif b then yCode P cal N rounds x s else yCode P cal N rounds y s
    | _ => none
  | .block id c, s => match yCode P cal N rounds c s with
    | some (e, s') => some (blkX id e, s')
    | none => none
  | .loop c, s => yLoop rounds (yCode P cal N rounds c) s
  | .exit id, s => some (.exit id, s)
  | .ret, s => some (.ret, s)
  | .label _, s => some (.normal, s)
  | .rangeFunc _ _ _ _, _ => none
  | .scope _, _ => none
  | .goto _, _ => none
  | .refuse _, _ => none

theorem yCode_sound {P : Program} {cal : Cal} {N m rounds : Nat} (hcal : CalOk P cal) : ∀ {c : Code} {s s' : YS} {e : Exit}, yCode P cal N rounds c s = some (e, s') → T P N m c s.a e s'.a := by
  intro c
  induction c with
  | skip =>
    intro s s' e h
    simp only [yCode, Option.some.injEq, Prod.mk.injEq] at h; obtain ⟨rfl, rfl⟩ := h
    exact fun M μ a w hR Q hQ => wp_skip (hQ a w M μ hR (.refl ..) (.refl m μ))
  | region id ops draw =>
    intro s s' e h
    simp only [yCode] at h
    split at h
    · rename_i s1 h1
      cases h
      exact yReg_sound hcal h1
    · cases h
  | seq x y ihx ihy =>
    intro s s' e h
    simp only [yCode] at h
    split at h
    · rename_i s1 h1
      refine fun M μ a w hR Q hQ => wp_seq (ihx h1 M μ a w hR _ fun a1 w1 M1 μ1 r1 p1 e1 => ?_)
      exact ihy h M1 μ1 a1 w1 r1 Q fun a' w' M' μ' r2 p2 e2 => hQ a' w' M' μ' r2 (p1.trans p2) (e1.trans e2)
    · rename_i hne
      refine fun M μ a w hR Q hQ => wp_seq (ihx h M μ a w hR _ fun a1 w1 M1 μ1 r1 p1 e1 => ?_)
      have := hQ a1 w1 M1 μ1 r1 p1 e1
      cases e <;> first | exact absurd h (hne s') | exact this
  | cond c x y ihx ihy =>
    intro s s' e h
    simp only [yCode] at h
    split at h
    · rename_i b hb
      refine fun M μ a w hR Q hQ => wp_cond (t := b) ?_ ?_
      · have := evA_rep hR c
        rw [hb] at this
        exact this.scv
      · cases b with
        | true => exact ihx h M μ a w hR Q hQ
        | false => exact ihy h M μ a w hR Q hQ
    · cases h
  | block id c ih =>
    intro s s' e h
    simp only [yCode] at h
    split at h
    · rename_i e1 s1 h1
      cases h
      refine fun M μ a w hR Q hQ => wp_block (ih h1 M μ a w hR _ fun a1 w1 M1 μ1 q1 p1 v1 => ?_)
      have := hQ a1 w1 M1 μ1 q1 p1 v1
      unfold blkX at this
      split at this
      · rename_i id'
        simp only [Exit.inBlock]
        cases hb : Nat.beq id' id with
        | true => rw [hb] at this; rw [if_pos (Nat.eq_of_beq_eq_true hb)]; exact this
        | false =>
          rw [hb] at this
          rw [if_neg (fun e => by rw [e] at hb; simp at hb)]
          exact this
      · rename_i hne
        cases e1 with
        | exit id' => exact absurd rfl (hne id')
        | _ => exact this
    · cases h
  | loop c ih =>
    intro s s' e h
    simp only [yCode] at h
    refine Lp.sound ?_
    have key : ∀ (n : Nat) (s : YS), yLoop n (yCode P cal N rounds c) s = some (e, s') → Lp P N m c s.a e s'.a := by
      intro n
      induction n with
      | zero => intro s h; cases h
      | succ n ihn =>
        intro s h
        simp only [yLoop] at h
        split at h
        · rename_i s1 h1
          exact .more (ih h1) (ihn s1 h)
        · rename_i hne
          refine .stop (ih h) fun he => ?_
          subst he
          exact hne s' h
    exact key rounds s h
  | exit id =>
    intro s s' e h
    simp only [yCode, Option.some.injEq, Prod.mk.injEq] at h; obtain ⟨rfl, rfl⟩ := h
    exact fun M μ a w hR Q hQ => wp_exit (hQ a w M μ hR (.refl ..) (.refl m μ))
  | ret =>
    intro s s' e h
    simp only [yCode, Option.some.injEq, Prod.mk.injEq] at h; obtain ⟨rfl, rfl⟩ := h
    exact fun M μ a w hR Q hQ => wp_ret (hQ a w M μ hR (.refl ..) (.refl m μ))
  | label l =>
    intro s s' e h
    simp only [yCode, Option.some.injEq, Prod.mk.injEq] at h; obtain ⟨rfl, rfl⟩ := h
    exact fun M μ a w hR Q hQ => wp_label (hQ a w M μ hR (.refl ..) (.refl m μ))
  | rangeFunc => intro s s' e h; simp only [yCode] at h; cases h
  | scope => intro s s' e h; simp only [yCode] at h; cases h
  | goto => intro s s' e h; simp only [yCode] at h; cases h
  | refuse => intro s s' e h; simp only [yCode] at h; cases h

/-! ### functions -/
/-- What the text says of a function. -/
def fOf (P : Program) (g : FuncId) : Option (Func × Code) :=
  match P.funcs[g]? with
  | some fn => match fn.body with
    | some c => bif fn.name == "runtime.NumGoroutine" then none else some (fn, c)
    | none => none
  | none => none

/-- What is forgotten at a function's end, beside what is frozen by itself. -/
def hintOf (H : List (FuncId × List Wk)) (g : FuncId) : List Wk :=
  match H with
  | [] => []
  | (k, w) :: r => bif Nat.beq k g then w else hintOf r g

noncomputable def yFun (P : Program) (H : List (FuncId × List Wk)) (rounds : Nat) : Nat → Cal
  | 0 => fun _ _ _ => none
  | n + 1 => fun g args σ => match fOf P g with
    | some (fn, c) => Tr.args args (Tr.full 9) 0 fun tr =>
        match yCode P (yFun P H rounds n) (args.length + (fn.ntmps - args.length)) rounds c ⟨tr, σ⟩ with
        | some (e, s) => match evFin P σ.length fn (hintOf H g ++ finX P σ.length fn s.a) [] ⟨e, s.a, [], []⟩ with
          | some (r, σ', _) => hA 8 r fun r => fL gO σ' fun σ' => some (r, σ')
          | none => none
        | none => none
    | none => none

theorem Tr.args_spec {β : Type} : ∀ (as : List AV) (t : Tr) (i : Nat) (k : Tr → Option β) (x : β), Tr.args as t i k = some x → ∃ t', k t' = some x ∧ ∀ j, t'.get j = if i ≤ j ∧ j < i + as.length then as.getD (j - i) .any else t.get j
  | [], t, i, k, x, h => ⟨t, h, fun j => by rw [if_neg (by simp)]⟩
  | a :: as, t, i, k, x, h => by
    obtain ⟨t1, h1, h2⟩ := Tr.put_spec t i a _ x h
    obtain ⟨t2, h3, h4⟩ := Tr.args_spec as t1 (i + 1) k x h1
    refine ⟨t2, h3, fun j => ?_⟩
    rw [h4, h2]
    simp only [putT]
    cases hb : Nat.beq j i with
    | true =>
      have := Nat.eq_of_beq_eq_true hb
      subst this
      rw [if_neg (by omega), if_pos (by simp)]
      simp
    | false =>
      have hne : j ≠ i := fun e => by rw [e] at hb; simp at hb
      by_cases hj : i + 1 ≤ j ∧ j < i + 1 + as.length
      · rw [if_pos hj, if_pos (by simp; omega)]
        rw [show j - i = (j - (i + 1)) + 1 by omega]
        simp
      · rw [if_neg hj, if_neg (by simp; omega)]
        rfl

theorem Tr.full_get : ∀ (d j : Nat), (Tr.full d).get j = .sc undef ∨ (Tr.full d).get j = .any
  | 0, j => .inr rfl
  | d + 1, j => by
    have e : (Tr.full (d + 1)).get j = bif Nat.beq j 0 then .sc undef else bif Nat.beq (Nat.mod j 2) 1 then (Tr.full d).get (Nat.div j 2) else (Tr.full d).get (Nat.pred (Nat.div j 2)) := rfl
    rw [e]
    cases Nat.beq j 0 with
    | true => exact .inl rfl
    | false =>
      cases Nat.beq (Nat.mod j 2) 1 with
      | true => exact Tr.full_get d _
      | false => exact Tr.full_get d _

theorem yFun_sound {P : Program} {H : List (FuncId × List Wk)} {rounds : Nat} : ∀ n, CalOk P (yFun P H rounds n)
  | 0 => fun g as σ r σ' h => by cases h
  | n + 1 => fun g args σ r σ' h => by
    simp only [yFun] at h
    split at h
    · rename_i fn c hfc
      unfold fOf at hfc
      split at hfc
      · rename_i fn' hf
        split at hfc
        · rename_i c' hb
          simp only [cond_eq_ite, Option.ite_none_left_eq_some, Option.some.injEq, Prod.mk.injEq, Bool.not_eq_true] at hfc
          obtain ⟨hn, rfl, rfl⟩ := hfc
          obtain ⟨tr, h, htr⟩ := Tr.args_spec _ _ _ _ _ h
          split at h
          · rename_i e s hc
            split at h
            · rename_i r1 σ1 ob1 he
              rw [hA_eq, fL_eq gO_eq] at h
              cases h
              refine Fn.ofT hf hb hn _ _ (T.pre ?_ (yCode_sound (yFun_sound n) hc)) he
              refine fun M μ a w hR => ⟨M, μ, ⟨hR.size, hR.defers, fun t => ?_, hR.st⟩, .refl .., .refl _ _⟩
              have ht := hR.tm t
              show RepV M μ (tr.get t) _
              rw [htr]
              by_cases h1 : t < args.length
              · rw [if_pos (by omega)]
                simp only [argT] at ht
                rw [List.getElem?_eq_getElem h1] at ht
                simpa [List.getD_eq_getElem?_getD, List.getElem?_eq_getElem h1] using ht
              · rw [if_neg (by omega)]
                simp only [argT, List.getElem?_eq_none (Nat.le_of_not_lt h1)] at ht
                rcases Tr.full_get 9 t with h2 | h2
                · rw [h2]; exact ht
                · rw [h2]; exact .any
            · cases h
          · cases h
        · cases hfc
      · cases hfc
    · cases h

/-- A closed call. -/
theorem closed2 {P : Program} {f : FuncId} {args : List AV} {σ σ' : List AObj} {r : AV} (H : List (FuncId × List Wk)) (rounds n : Nat) (h : yFun P H rounds n f args σ = some (r, σ')) : SoundCall P f args σ r σ' := yFun_sound n _ _ _ _ _ h

end Go.Ae

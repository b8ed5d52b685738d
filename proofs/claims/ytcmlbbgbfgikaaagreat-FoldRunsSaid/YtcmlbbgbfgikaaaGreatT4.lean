/- Part 4 of the proof: Ae20, Ae21, Ae22. -/
import Derived.Test.YtcmlbbgbfgikaaaGreatT3
set_option linter.unusedSimpArgs false
set_option linter.unusedVariables false
namespace Go.Ae
def loopsOf : Code → List Code
 | .seq x y => loopsOf x ++ loopsOf y
 | .cond _ x y => loopsOf x ++ loopsOf y
 | .block _ c => loopsOf c
 | .loop c => c :: loopsOf c
 | _ => []
def loopN (fn : Func) (k : Nat) : Code :=
 match fn.body with
 | some c => (loopsOf c).getD k .skip
 | none => .skip
def evBody (P : Program) (K : Kinds) (N m : Nat) (c : Code) (orc : List Or) (fin : List Wk) (s : ASt) : Option (Exit × ASt × List Prop) :=
 match evCode P K N m c orc s with
 | some r => match wkA m fin r.s with
  | some s' => some (r.e, s', r.ob)
  | none => none
 | none => none
section
variable {P : Program} {K : Kinds} {N m : Nat} {c : Code} {s s1 s' : ASt} {e : Exit} {ob : List Prop}
theorem evBody_sound {orc : List Or} {fin : List Wk} (h : evBody P K N m c orc fin s = some (e, s', ob)) (hob : AllP ob) : T P N m c s e s' := by
 unfold evBody at h
 split at h
 ·rename_i r hr
  split at h
  ·rename_i s2 h2
   cases h
   exact (evCode_sound hr hob).post (wkA_weak h2)
  ·cases h
 ·cases h
theorem Lp.next (K : Kinds) (orc : List Or) (fin : List Wk) (h : evBody P K N m c orc fin s = some (.normal, s1, ob)) (hob : AllP ob) (k : Lp P N m c s1 e s') : Lp P N m c s e s' :=
 Lp.more (evBody_sound h hob) k
theorem Lp.last (K : Kinds) (orc : List Or) (fin : List Wk) (h : evBody P K N m c orc fin s = some (e, s', ob)) (hob : AllP ob) (he : e ≠ .normal) : Lp P N m c s e s' :=
 Lp.stop (evBody_sound h hob) he
end
theorem SoundCall.to {P : Program} {f : FuncId} {args : List AV} {σ σ' σ2 : List AObj} {r r2 : AV} (h : SoundCall P f args σ r σ') (hr : r = r2) (hs : σ' = σ2) : SoundCall P f args σ r2 σ2 := by
 subst hr; subst hs; exact h
theorem wrap64 {x : Int} (h1 : -9223372036854775808 ≤ x) (h2 : x ≤ 9223372036854775807) : IntKind.i64.wrap x = x := by
 simp only [IntKind.wrap, IntKind.signed, IntKind.bits]
 first
  | omega
  | (simp; omega)
  | (rw [Int.bmod_eq_of_le] <;> omega)
theorem dsp (p : Prop) [Decidable p] : (decide p = true ∧ p) ∨ (decide p = false ∧ ¬p) := by
 by_cases h : p
 ·exact .inl ⟨decide_eq_true h, h⟩
 ·exact .inr ⟨decide_eq_false h, h⟩
theorem bsp (x y : Int) : ((x == y) = true ∧ x = y) ∨ ((x == y) = false ∧ ¬x = y) := by
 by_cases h : x = y
 ·exact .inl ⟨beq_iff_eq.2 h, h⟩
 ·exact .inr ⟨beq_eq_false_iff_ne.2 h, h⟩
theorem q (p : Prop) {ps : List Prop} (k : AllP ps) (h : p := by first | assumption | rfl | omega | (simp [*]; done) | (apply Fits.of; simp; omega) | (simp at *; omega) | (apply wrap64 <;> omega) | (simp; apply wrap64 <;> omega) | (simp only [Option.getD_none, Option.getD_some, Int.toNat_natCast, List.take_length]; first | rfl | (simp; done))) : AllP (p :: ps) := ob1 h k
theorem qw (x : Int) {ps : List Prop} (k : AllP ps) (h : IntKind.wrap IntKind.i64 x = x := by first | (apply wrap64 <;> omega) | (simp; apply wrap64 <;> omega)) : AllP ((IntKind.wrap IntKind.i64 x = x) :: ps) := ob1 h k
theorem pf (p : Prop) (h : p := by first | assumption | rfl | omega | (simp [*]; done) | (apply Fits.of; simp; omega) | (simp at *; omega) | (simp only [Option.getD_none, Option.getD_some, Int.toNat_natCast, List.take_length]; first | rfl | (simp; done))) : p := h
theorem Fn.go {P : Program} (K : Kinds) {f : FuncId} {fn : Func} {args : List AV} {σ : List AObj} {ob : List Prop} {r2 : AV} {σ2 : List AObj} (hf : P.funcs[f]? = some fn) (orc : List Or) (fin : List Wk) (ks : List (Option Nat))
  (r : AV) (σ' : List AObj) (h : evFun P K fn args σ orc fin ks = some (r, σ', ob)) (hob : AllP ob)
  (hr : r = r2 := by first | rfl | (simp [*]; done)) (hs : σ' = σ2 := by first | rfl | (simp [*]; done)) : SoundCall P f args σ r2 σ2 := SoundCall.to (Fn.sound hf orc fin ks h hob) hr hs
def oC {P : Program} {f : FuncId} {args : List AV} {σ σ' : List AObj} {r : AV} (_ : SoundCall P f args σ r σ') : Ent := .call r σ'
def oL {P : Program} {N m : Nat} {c : Code} {s s' : ASt} {e : Exit} (ws : List Wk) (_ : Lp P N m c s e s') : Or := .loop ws e s'
def rS (es : List (Nat × Ent)) : Or := .reg [] es
def rG : Or := .reg [] []
def rGs : Nat → List Or → List Or
 | 0, l => l
 | n + 1, l => .reg [] [] :: rGs n l
def oW {k : Nat} {l : List (List AV)} {cs : List AV} (_ : l[k]? = some cs) : Ent := .row k cs
theorem qT (p : Prop) [Decidable p] {ps : List Prop} (k : AllP ps) (h : decide p = true := by first | assumption | rfl | omega | (simp [*]; done) | (simp at *; omega)) : AllP ((decide p = true) :: ps) := ob1 h k
theorem qF (p : Prop) [Decidable p] {ps : List Prop} (k : AllP ps) (h : decide p = false := by first | assumption | rfl | omega | (simp [*]; done) | (simp at *; omega)) : AllP ((decide p = false) :: ps) := ob1 h k
theorem qV (b : Bool) {ps : List Prop} (k : AllP ps) (h : b = true := by first | assumption | rfl | omega | (simp [*]; done) | (simp at *; omega)) : AllP ((b = true) :: ps) := ob1 h k
theorem qU (b : Bool) {ps : List Prop} (k : AllP ps) (h : b = false := by first | assumption | rfl | omega | (simp [*]; done) | (simp at *; omega)) : AllP ((b = false) :: ps) := ob1 h k
theorem qI (n : Nat) {ps : List Prop} (k : AllP ps) : AllP (((n : Int) = (n : Int)) :: ps) := ob1 rfl k
theorem qN {α : Type} (f : List α → List (List AV)) (l : List α) {ps : List Prop} (k : AllP ps) (h : ((f l).length : Int) = (l.length : Int) := by simp) : AllP ((((f l).length : Int) = (l.length : Int)) :: ps) := ob1 h k
theorem qC0 (x : List AV) (l : List (List AV)) {ps : List Prop} (k : AllP ps) : AllP (((x :: l)[0]? = some x) :: ps) := ob1 rfl k
theorem qC1 (y x : List AV) (l : List (List AV)) {ps : List Prop} (k : AllP ps) : AllP (((y :: x :: l)[1]? = some x) :: ps) := ob1 rfl k
theorem Fn.g {P : Program} (K : Kinds) {f : FuncId} {fn : Func} {args : List AV} {σ : List AObj} {ob : List Prop} {r : AV} {σ' : List AObj} (hf : P.funcs[f]? = some fn) (orc : List Or) (fin : List Wk) (ks : List (Option Nat))
  (h : evFun P K fn args σ orc fin ks = some (r, σ', ob)) (hob : AllP ob) : SoundCall P f args σ r σ' := Fn.sound hf orc fin ks h hob
end Go.Ae
namespace Go.Ae
section
universe u
variable {α : Type u}
def fNat (n : Nat) (k : Nat → α) : α :=
 match n with
 | 0 => k 0
 | n + 1 => k (Nat.succ n)
@[simp] theorem fNat_eq (n : Nat) (k : Nat → α) : fNat n k = k n := by cases n <;> rfl
def fInt (i : Int) (k : Int → α) : α :=
 match i with
 | .ofNat n => fNat n fun n => k (.ofNat n)
 | .negSucc n => fNat n fun n => k (.negSucc n)
@[simp] theorem fInt_eq (n : Int) (k : Int → α) : fInt n k = k n := by cases n <;> simp [fInt]
def fBool (b : Bool) (k : Bool → α) : α :=
 match b with
 | true => k true
 | false => k false
@[simp] theorem fBool_eq (b : Bool) (k : Bool → α) : fBool b k = k b := by cases b <;> rfl
def fL {β : Type} (f : β → (β → α) → α) : List β → (List β → α) → α
 | [], k => k []
 | b :: bs, k => f b fun b => fL f bs fun bs => k (b :: bs)
theorem fL_eq {β : Type} {f : β → (β → α) → α} (hf : ∀ b k, f b k = k b) : ∀ (l : List β) (k : List β → α), fL f l k = k l
 | [], k => rfl
 | b :: bs, k => by simp only [fL]; rw [hf, fL_eq hf bs]
def fByte (c : UInt8) (k : UInt8 → α) : α := fNat c.toNat fun n => k (UInt8.ofNat n)
theorem fByte_eq (c : UInt8) (k : UInt8 → α) : fByte c k = k c := by simp [fByte]
def fStr (s : ByteArray) (k : ByteArray → α) : α :=
 match s with
 | ⟨⟨l⟩⟩ => fL fByte l fun l => k ⟨⟨l⟩⟩
@[simp] theorem fStr_eq (s : ByteArray) (k : ByteArray → α) : fStr s k = k s := by
 obtain ⟨⟨l⟩⟩ := s
 simp only [fStr]
 rw [fL_eq fByte_eq]
def fVal (v : Value) (k : Value → α) : α :=
 match v with
 | .int t n => fInt n fun n => k (.int t n)
 | .bool b => fBool b fun b => k (.bool b)
 | .string s => fStr s fun s => k (.string s)
 | v => k v
@[simp] theorem fVal_eq (v : Value) (k : Value → α) : fVal v k = k v := by cases v <;> simp [fVal]
def fA : Nat → AV → (AV → α) → α
 | 0, a, k => k a
 | n + 1, a, k => match a with
  | .sc v => fVal v fun v => k (.sc v)
  | .any => k .any
  | .nil => k .nil
  | .sl sz xs f => fNat sz fun sz => fL (fL (fA n)) xs fun xs => fBool f fun f => k (.sl sz xs f)
  | .ip cs off => fL (fA n) cs fun cs => fNat off fun off => k (.ip cs off)
  | .lp l off => fNat l fun l => fNat off fun off => k (.lp l off)
  | .le l g i off => fNat l fun l => fNat g fun g => fNat i fun i => fNat off fun off => k (.le l g i off)
  | .la l g => fNat l fun l => fNat g fun g => k (.la l g)
  | .mp l => fNat l fun l => k (.mp l)
  | .fn f cs => fNat f fun f => fL (fA n) cs fun cs => k (.fn f cs)
  | .ifc t x => fNat t fun t => fA n x fun x => k (.ifc t x)
  | .agg cs => fL (fA n) cs fun cs => k (.agg cs)
  | .tup cs => fL (fA n) cs fun cs => k (.tup cs)
theorem fA_eq : ∀ (n : Nat) (a : AV) (k : AV → α), fA n a k = k a
 | 0, a, k => rfl
 | n + 1, a, k => by
  have h1 : ∀ (l : List AV) (k : List AV → α), fL (fA n) l k = k l := fL_eq (fA_eq n)
  have h2 : ∀ (l : List (List AV)) (k : List (List AV) → α), fL (fL (fA n)) l k = k l := fL_eq h1
  cases a <;> simp [fA, h1, h2, fA_eq n]
def fO (o : AObj) (k : AObj → α) : α :=
 match o with
 | .gone => k .gone
 | .cells cs ro => fL (fA 40) cs fun cs => fL fNat ro fun ro => k (.cells cs ro)
 | .arr g sz rows => fNat g fun g => fNat sz fun sz => fL (fL (fA 40)) rows fun rows => k (.arr g sz rows)
 | .map es => fL (fun p k => fStr p.1 fun s => fA 40 p.2 fun a => k (s, a)) es fun es => k (.map es)
@[simp] theorem fO_eq (o : AObj) (k : AObj → α) : fO o k = k o := by
 have h1 : ∀ (l : List AV) (k : List AV → α), fL (fA 40) l k = k l := fL_eq (fA_eq 40)
 have h2 : ∀ (l : List (List AV)) (k : List (List AV) → α), fL (fL (fA 40)) l k = k l := fL_eq h1
 have h3 : ∀ (l : List Nat) (k : List Nat → α), fL fNat l k = k l := fL_eq fNat_eq
 have h4 : ∀ (l : List (ByteArray × AV)) (k : List (ByteArray × AV) → α), fL (fun p k => fStr p.1 fun s => fA 40 p.2 fun a => k (s, a)) l k = k l := fL_eq fun b k => by
  simp [fA_eq]
 cases o <;> simp only [fO, h1, h2, h3, h4, fNat_eq]
def fSet : List AObj → Nat → AObj → (List AObj → α) → α
 | [], _, _, k => k []
 | _ :: os, 0, x, k => k (x :: os)
 | o :: os, i + 1, x, k => fSet os i x fun os => k (o :: os)
theorem fSet_eq : ∀ (l : List AObj) (i : Nat) (x : AObj) (k : List AObj → α), fSet l i x k = k (l.set i x)
 | [], _, _, _ => rfl
 | _ :: _, 0, _, _ => rfl
 | o :: os, i + 1, x, k => by simp [fSet, fSet_eq os]
def fApp : List AObj → Nat → (List AObj → α) → α
 | [], n, k => k (List.replicate n .gone)
 | o :: os, n, k => fApp os n fun os => k (o :: os)
theorem fApp_eq : ∀ (l : List AObj) (n : Nat) (k : List AObj → α), fApp l n k = k (l ++ List.replicate n .gone)
 | [], _, _ => rfl
 | o :: os, n, k => by simp [fApp, fApp_eq os]
end
def lenX (look : Nat → AObj) : AV → Nat
 | .sl _ xs _ => xs.length
 | .la l _ => match look l with
  | .arr _ _ rows => rows.length
  | _ => 0
 | .sc v => match v with
  | .string s => (bytesL s.data.toList).length
  | _ => 0
 | _ => 0
def entX (P : Program) (ρ : Operand → AV) (look : Nat → AObj) (o : Oper) : Option Ent :=
 match o.op with
 | .binOp .add _ x y _ => match ρ x with
  | .sc (.string a) => match ρ y with
   | .sc (.string b) => if a.size + b.size ≤ 9223372036854775807 then some .no else none
   | _ => none
  | _ => some .no
 | .binOp .quo _ _ y _ => match ρ y with
  | .sc (.int _ b) => if b = 0 then none else some .no
  | _ => none
 | .binOp .rem _ _ y _ => match ρ y with
  | .sc (.int _ b) => if b = 0 then none else some .no
  | _ => none
 | .indexAddr _ x i => match ρ i with
  | .sc (.int _ (.ofNat k)) => match ρ x with
   | .sl _ xs _ => match xs[k]? with
    | some cs => some (.row k cs)
    | none => none
   | .la l _ => match look l with
    | .arr _ _ rows => bif Nat.blt k rows.length then some (.nat k) else none
    | _ => none
   | _ => none
  | _ => none
 | .index _ x i => match ρ i with
  | .sc (.int _ (.ofNat k)) => match ρ x with
   | .sc (.string s) => match s[k]? with
    | some c => some (.byte k c)
    | none => none
   | _ => none
  | _ => none
 | .load _ x => match ρ x with
  | .le l _ i _ => match look l with
   | .arr _ _ rows => match rows[i]? with
    | some cs => some (.row i cs)
    | none => none
   | _ => none
  | _ => some .no
 | .store _ x _ => match ρ x with
  | .le l _ i _ => match look l with
   | .arr _ _ rows => match rows[i]? with
    | some cs => some (.row i cs)
    | none => none
   | _ => none
  | _ => some .no
 | .makeSlice t l c => match P.underlying t with
  | some (.slice e) => match P.info? e with
   | some i => match ρ l with
    | .sc (.int _ (.ofNat k)) => match ρ c with
     | .sc (.int _ m) => if (k : Int) ≤ m ∧ m * i.bytes ≤ 281474976710656 then some (.nat k) else none
     | _ => none
    | _ => none
   | none => none
  | _ => none
 | .lookup _ m k _ => match ρ m with
  | .mp l => match look l with
   | .map es => match ρ k with
    | .sc (.string s) => some (.look (findM s es))
    | _ => none
   | _ => none
  | _ => none
 | .mapUpdate _ m k _ => match ρ m with
  | .mp l => match look l with
   | .map es => match ρ k with
    | .sc (.string s) => match findM s es with
     | none => some (.look none)
     | some _ => none
    | _ => none
   | _ => none
  | _ => none
 | .slice _ x lo hi mx => match bndA ρ lo, bndA ρ hi, bndA ρ mx with
  | some l, some h, some m => match ρ x with
   | .sc (.string s) => if 0 ≤ l.getD 0 ∧ l.getD 0 ≤ h.getD s.size ∧ h.getD s.size ≤ s.size then some .no else none
   | .sl _ xs _ => if 0 ≤ l.getD 0 ∧ l.getD 0 ≤ h.getD xs.length ∧ h.getD xs.length ≤ xs.length ∧ m.getD (h.getD 0) = h.getD 0 then some .no else none
   | .la lb _ => match look lb with
    | .arr _ _ rows => match h with
     | some hv => if 0 ≤ hv ∧ hv ≤ rows.length then some .no else none
     | none => none
    | _ => none
   | _ => none
  | _, _, _ => none
 | .call c => match c.callee with
  | .builtin .append => match c.args.toList with
   | [x, y] => match c.argTypes.toList with
    | [t, _] => match P.underlying t with
     | some (.slice e) => match P.info? e with
      | some i => bif Nat.ble ((lenX look (ρ x) + lenX look (ρ y)) * i.bytes) 140737488355328 then (match ρ x with
       | .nil => some .loc
       | .sl _ [] true => some .loc
       | .sl _ _ true => bif Nat.beq (lenX look (ρ y)) 0 then some .no else some .loc
       | _ => some .no) else none
      | none => none
     | _ => none
    | _ => none
   | _ => none
  | _ => some .no
 | _ => some .no
def plainE : Ent → Bool
 | .bit _ => false
 | .int _ => false
 | .str _ => false
 | .rows _ => false
 | .call .. => false
 | _ => true
theorem adj_plain {en : Ent} (h : plainE en = true) (res : Res) : res.adj en = res := by
 cases en <;> first | rfl | cases h
theorem entX_plain {P : Program} {ρ : Operand → AV} {look : Nat → AObj} {o : Oper} {en : Ent} (h : entX P ρ look o = some en) : plainE en = true := by
 unfold entX at h
 simp only [cond_eq_ite] at h
 repeat' split at h
 all_goals first
  | (cases h; rfl)
  | (cases h; done)
theorem nob_pick {c a b : AV} {r : Res} (h : pickA c a b = some r) : r.ob = [] := by
 unfold pickA at h
 try simp only [cond_eq_ite, Option.map_eq_some_iff, Option.bind_eq_some_iff] at h
 repeat' split at h
 all_goals first | (cases h; rfl) | (cases h; done) | (obtain ⟨_, _, rfl⟩ := h; rfl) | (obtain ⟨_, _, rfl⟩ := Option.map_eq_some_iff.1 h; rfl)
theorem nob_alloc {P : Program} {slot : Nat} {t : TypeId} {r : Res} (h : allocA P slot t = some r) : r.ob = [] := by
 unfold allocA at h
 try simp only [cond_eq_ite, Option.map_eq_some_iff, Option.bind_eq_some_iff] at h
 repeat' split at h
 all_goals first | (cases h; rfl) | (cases h; done) | (obtain ⟨_, _, rfl⟩ := h; rfl) | (obtain ⟨_, _, rfl⟩ := Option.map_eq_some_iff.1 h; rfl)
theorem nob_box {slot : Nat} {x : AV} {r : Res} (h : boxA slot x = some r) : r.ob = [] := by
 unfold boxA at h
 try simp only [cond_eq_ite, Option.map_eq_some_iff, Option.bind_eq_some_iff] at h
 repeat' split at h
 all_goals first | (cases h; rfl) | (cases h; done) | (obtain ⟨_, _, rfl⟩ := h; rfl) | (obtain ⟨_, _, rfl⟩ := Option.map_eq_some_iff.1 h; rfl)
theorem nob_build {P : Program} {t : TypeId} {ps : List (Nat × AV)} {r : Res} (h : buildA P t ps = some r) : r.ob = [] := by
 unfold buildA at h
 try simp only [cond_eq_ite, Option.map_eq_some_iff, Option.bind_eq_some_iff] at h
 repeat' split at h
 all_goals first | (cases h; rfl) | (cases h; done) | (obtain ⟨_, _, rfl⟩ := h; rfl) | (obtain ⟨_, _, rfl⟩ := Option.map_eq_some_iff.1 h; rfl)
theorem nob_buildSlice {P : Program} {slot : Nat} {en : Ent} {t : TypeId} {n : Nat} {ps : List (Nat × AV)} {r : Res} (h : buildSliceA P slot en t n ps = some r) : r.ob = [] := by
 unfold buildSliceA at h
 simp only [cond_eq_ite] at h
 repeat' split at h
 all_goals first | (cases h; done) | skip
 all_goals
  obtain ⟨cs, _, h⟩ := Option.bind_eq_some_iff.1 h
  repeat' split at h
  all_goals first | (cases h; rfl) | (cases h; done)
theorem nob_nilCheck {look : Nat → AObj} {x : AV} {r : Res} (h : nilCheckA look x = some r) : r.ob = [] := by
 unfold nilCheckA at h
 try simp only [cond_eq_ite, Option.map_eq_some_iff, Option.bind_eq_some_iff] at h
 repeat' split at h
 all_goals first | (cases h; rfl) | (cases h; done) | (obtain ⟨_, _, rfl⟩ := h; rfl) | (obtain ⟨_, _, rfl⟩ := Option.map_eq_some_iff.1 h; rfl)
theorem nob_ptrOp {P : Program} {op : BinOp} {t : TypeId} {x y : AV} {r : Res} (h : ptrOpA P op t x y = some r) : r.ob = [] := by
 unfold ptrOpA at h
 try simp only [cond_eq_ite, Option.map_eq_some_iff, Option.bind_eq_some_iff] at h
 repeat' split at h
 all_goals first | (cases h; rfl) | (cases h; done) | (obtain ⟨_, _, rfl⟩ := h; rfl) | (obtain ⟨_, _, rfl⟩ := Option.map_eq_some_iff.1 h; rfl)
theorem nob_boolOp {P : Program} {op : BinOp} {t : TypeId} {a b : Bool} {r : Res} (h : boolOpA P op t a b = some r) : r.ob = [] := by
 unfold boolOpA at h
 try simp only [cond_eq_ite, Option.map_eq_some_iff, Option.bind_eq_some_iff] at h
 repeat' split at h
 all_goals first | (cases h; rfl) | (cases h; done) | (obtain ⟨_, _, rfl⟩ := h; rfl) | (obtain ⟨_, _, rfl⟩ := Option.map_eq_some_iff.1 h; rfl)
theorem nob_unOp {op : UnOp} {x : AV} {r : Res} (h : unOpA op x = some r) : r.ob = [] := by
 unfold unOpA at h
 try simp only [cond_eq_ite, Option.map_eq_some_iff, Option.bind_eq_some_iff] at h
 repeat' split at h
 all_goals first | (cases h; rfl) | (cases h; done) | (obtain ⟨_, _, rfl⟩ := h; rfl) | (obtain ⟨_, _, rfl⟩ := Option.map_eq_some_iff.1 h; rfl)
theorem nob_convertB {P : Program} {look : Nat → AObj} {s d : TypeId} {x : AV} {r : Res} (h : convertB P look s d x = some r) : r.ob = [] := by
 unfold convertB at h
 split at h
 ·rename_i r0 hr
  cases h
  unfold textA at hr
  repeat' split at hr
  all_goals first | (cases hr; rfl) | (cases hr; done)
 ·unfold convertA at h
  repeat' split at h
  all_goals first | (cases h; rfl) | (cases h; done)
theorem nob_structEq {P : Program} {op : BinOp} {t : TypeId} {xs ys : List AV} {r : Res} (h : structEqA P op t xs ys = some r) : r.ob = [] := by
 unfold structEqA at h
 try simp only [cond_eq_ite] at h
 repeat' split at h
 all_goals first | (cases h; rfl) | (cases h; done)
theorem nob_ifcOp {P : Program} {op : BinOp} {t : TypeId} {c : Bool} {x y : AV} {r : Res} (h : ifcOpA P op t c x y = some r) : r.ob = [] := by
 unfold ifcOpA at h
 try simp only [cond_eq_ite] at h
 repeat' split at h
 all_goals first | (cases h; rfl) | (cases h; done)
theorem nob_fieldAddr {P : Program} {look : Nat → AObj} {s : TypeId} {x : AV} {f : Nat} {r : Res} (h : fieldAddrA P look s x f = some r) : r.ob = [] := by
 unfold fieldAddrA at h
 try simp only [cond_eq_ite, Option.map_eq_some_iff, Option.bind_eq_some_iff] at h
 repeat' split at h
 all_goals first | (cases h; rfl) | (cases h; done) | (obtain ⟨_, _, rfl⟩ := h; rfl) | (obtain ⟨_, _, rfl⟩ := Option.map_eq_some_iff.1 h; rfl)
theorem nob_field {P : Program} {s : TypeId} {x : AV} {f : Nat} {r : Res} (h : fieldA P s x f = some r) : r.ob = [] := by
 unfold fieldA at h
 try simp only [cond_eq_ite, Option.map_eq_some_iff, Option.bind_eq_some_iff] at h
 repeat' split at h
 all_goals first | (cases h; rfl) | (cases h; done) | (obtain ⟨_, _, rfl⟩ := h; rfl) | (obtain ⟨_, _, rfl⟩ := Option.map_eq_some_iff.1 h; rfl)
theorem nob_extract {x : AV} {i : Nat} {r : Res} (h : extractA x i = some r) : r.ob = [] := by
 unfold extractA at h
 try simp only [cond_eq_ite, Option.map_eq_some_iff, Option.bind_eq_some_iff] at h
 repeat' split at h
 all_goals first | (cases h; rfl) | (cases h; done) | (obtain ⟨_, _, rfl⟩ := h; rfl) | (obtain ⟨_, _, rfl⟩ := Option.map_eq_some_iff.1 h; rfl)
theorem nob_ifc {P : Program} {t : TypeId} {x : AV} {r : Res} (h : ifcA P t x = some r) : r.ob = [] := by
 unfold ifcA at h
 try simp only [cond_eq_ite, Option.map_eq_some_iff, Option.bind_eq_some_iff] at h
 repeat' split at h
 all_goals first | (cases h; rfl) | (cases h; done) | (obtain ⟨_, _, rfl⟩ := h; rfl) | (obtain ⟨_, _, rfl⟩ := Option.map_eq_some_iff.1 h; rfl)
theorem nob_fn {fn : Fn} {first : Array Operand} {caps : List AV} {r : Res} (h : fnA fn first caps = some r) : r.ob = [] := by
 unfold fnA at h
 try simp only [cond_eq_ite, Option.map_eq_some_iff, Option.bind_eq_some_iff] at h
 repeat' split at h
 all_goals first | (cases h; rfl) | (cases h; done) | (obtain ⟨_, _, rfl⟩ := h; rfl) | (obtain ⟨_, _, rfl⟩ := Option.map_eq_some_iff.1 h; rfl)
theorem nob_makeMap {slot : Nat} {r : Res} (h : makeMapA slot = some r) : r.ob = [] := by
 unfold makeMapA at h
 try simp only [cond_eq_ite, Option.map_eq_some_iff, Option.bind_eq_some_iff] at h
 repeat' split at h
 all_goals first | (cases h; rfl) | (cases h; done) | (obtain ⟨_, _, rfl⟩ := h; rfl) | (obtain ⟨_, _, rfl⟩ := Option.map_eq_some_iff.1 h; rfl)
theorem nob_len {P : Program} {look : Nat → AObj} {t : TypeId} {x : AV} {r : Res} (h : lenA P look t x = some r) : r.ob = [] := by
 unfold lenA at h
 try simp only [cond_eq_ite, Option.map_eq_some_iff, Option.bind_eq_some_iff] at h
 repeat' split at h
 all_goals first | (cases h; rfl) | (cases h; done) | (obtain ⟨_, _, rfl⟩ := h; rfl) | (obtain ⟨_, _, rfl⟩ := Option.map_eq_some_iff.1 h; rfl)
theorem nob_max {x y : AV} {r : Res} (h : maxA x y = some r) : r.ob = [] := by
 unfold maxA at h
 try simp only [cond_eq_ite, Option.map_eq_some_iff, Option.bind_eq_some_iff] at h
 repeat' split at h
 all_goals first | (cases h; rfl) | (cases h; done) | (obtain ⟨_, _, rfl⟩ := h; rfl) | (obtain ⟨_, _, rfl⟩ := Option.map_eq_some_iff.1 h; rfl)
theorem nob_min {x y : AV} {r : Res} (h : minA x y = some r) : r.ob = [] := by
 unfold minA at h
 try simp only [cond_eq_ite, Option.map_eq_some_iff, Option.bind_eq_some_iff] at h
 repeat' split at h
 all_goals first | (cases h; rfl) | (cases h; done) | (obtain ⟨_, _, rfl⟩ := h; rfl) | (obtain ⟨_, _, rfl⟩ := Option.map_eq_some_iff.1 h; rfl)
theorem nob_clear {P : Program} {look : Nat → AObj} {t : TypeId} {x : AV} {r : Res} (h : clearA P look t x = some r) : r.ob = [] := by
 unfold clearA at h
 try simp only [cond_eq_ite, Option.map_eq_some_iff, Option.bind_eq_some_iff] at h
 repeat' split at h
 all_goals first | (cases h; rfl) | (cases h; done) | (obtain ⟨_, _, rfl⟩ := h; rfl) | (obtain ⟨_, _, rfl⟩ := Option.map_eq_some_iff.1 h; rfl)
theorem ob_of {r : Res} (h : r.ob = []) : AllP r.ob := by rw [h]; exact ob0
theorem entX_ob {P : Program} {slot : Nat} {ρ : Operand → AV} {look : Nat → AObj} {o : Oper} {en : Ent} {res : Res} (h : entX P ρ look o = some en) (h2 : core P slot ρ look en o = some res) : AllP res.ob := by
 unfold core at h2
 unfold entX at h
 generalize o.op = op at h h2
 cases op with
 | move => cases h2; exact ob0
 | assign => cases h2; exact ob0
 | pick => exact ob_of (nob_pick h2)
 | alloc => exact ob_of (nob_alloc h2)
 | box => exact ob_of (nob_box h2)
 | build => exact ob_of (nob_build h2)
 | buildSlice => exact ob_of (nob_buildSlice h2)
 | nilCheck => exact ob_of (nob_nilCheck h2)
 | unOp => exact ob_of (nob_unOp h2)
 | convert => exact ob_of (nob_convertB h2)
 | fieldAddr => exact ob_of (nob_fieldAddr h2)
 | field => exact ob_of (nob_field h2)
 | extract => exact ob_of (nob_extract h2)
 | makeInterface => exact ob_of (nob_ifc h2)
 | makeFunc => exact ob_of (nob_fn h2)
 | makeMap t r => cases r with
  | none => exact ob_of (nob_makeMap h2)
  | some _ => cases h2
 | load t x =>
  simp only [loadA] at h2
  simp only at h
  split at h2
  ·exact ob_of (by obtain ⟨_, _, rfl⟩ := Option.map_eq_some_iff.1 h2; rfl)
  ·split at h2
   ·exact ob_of (by obtain ⟨_, _, rfl⟩ := Option.map_eq_some_iff.1 h2; rfl)
   ·cases h2
  ·rename_i l g i off e
   split at h2
   ·rename_i c sz rows hl
    simp only [e, hl] at h
    split at h
    ·rename_i cs hcs
     cases h
     simp only [cond_eq_ite] at h2
     split at h2
     ·obtain ⟨_, _, rfl⟩ := Option.map_eq_some_iff.1 h2
      exact ob1 hcs ob0
     ·cases h2
    ·cases h
   ·cases h2
  ·cases h2
 | store t x y =>
  simp only [storeA] at h2
  simp only at h
  split at h2
  ·split at h2
   ·split at h2
    ·simp only [cond_eq_ite] at h2
     split at h2
     ·cases h2; exact ob0
     ·cases h2
    ·cases h2
   ·rename_i l g i off e
    split at h2
    ·rename_i c sz rows hl
     simp only [e, hl] at h
     split at h
     ·rename_i cs hcs
      cases h
      simp only [cond_eq_ite] at h2
      split at h2
      ·cases h2
       exact ob1 hcs ob0
      ·cases h2
     ·cases h
    ·cases h2
   ·cases h2
  ·cases h2
 | binOp op t x y z =>
  have kp : ∀ {u v}, ptrOpA P op t u v = some res → AllP res.ob := fun h => ob_of (nob_ptrOp h)
  have h3 : binOpB P op t x y ρ = some res := h2
  clear h2
  unfold binOpB at h3
  split at h3
  ·rename_i r0 hr0
   cases h3
   exact ob_of (nob_ifcOp hr0)
  rename_i hnone
  clear hnone
  have h2 := h3
  clear h3
  simp only [binOpA] at h2
  split at h2
  ·rename_i u hu
   split at h2
   ·rename_i v hv
    simp only [scOpA] at h2
    split at h2
    ·rename_i k a
     split at h2
     ·rename_i k' b
      simp only [cond_eq_ite] at h2
      split at h2
      ·cases op <;> simp only [intOpA] at h2 <;> first | (cases h2; exact ob0) | (cases h2; done) | skip
       all_goals
        simp only [hv] at h
        split at h
        ·cases h
        ·rename_i hb
         cases h2
         exact ob1 hb ob0
      ·cases h2
     ·cases h2
    ·rename_i a
     split at h2
     ·rename_i b
      cases op <;> simp only [strOpA] at h2 <;> first | (cases h2; exact ob0) | (cases h2; done) | skip
      simp only [hu, hv] at h
      split at h
      ·rename_i hb
       cases h2
       exact ob1 hb ob0
      ·cases h
     ·cases h2
    ·split at h2
     ·exact ob_of (nob_boolOp h2)
     ·cases h2
    ·exact kp h2
   ·exact kp h2
  ·split at h2
   ·exact ob_of (nob_structEq h2)
   ·cases h2
  ·exact kp h2
 | indexAddr t x i =>
  simp only at h
  split at h
  ·rename_i ik k hi
   simp only [indexAddrA, hi] at h2
   split at h
   ·rename_i sz xs full hx
    split at h
    ·rename_i cs hcs
     cases h
     simp only [hx, cond_eq_ite] at h2
     repeat' split at h2
     all_goals first | (cases h2; done) | skip
     cases h2
     simp_all [AllP]
    ·cases h
   ·rename_i l g hx
    split at h
    ·rename_i c sz rows hl
     simp only [cond_eq_ite] at h
     split at h
     ·rename_i hk
      cases h
      simp only [hx, hl, cond_eq_ite] at h2
      repeat' split at h2
      all_goals first | (cases h2; done) | skip
      cases h2
      have hk := Nat.le_of_ble_eq_true hk
      simp_all [AllP]
     ·cases h
    ·cases h
   ·cases h
  ·cases h
 | index t x i =>
  simp only at h
  split at h
  ·rename_i ik k hi
   split at h
   ·rename_i s hx
    split at h
    ·rename_i c hc
     cases h
     simp only [indexA, hi, hx] at h2
     split at h2
     ·cases h2
      exact ob1 rfl (ob1 hc ob0)
     ·cases h2
    ·cases h
   ·cases h
  ·cases h
 | slice t x lo hi mx =>
  simp only at h
  split at h
  ·rename_i l hh m el eh em
   simp only [sliceA, el, eh, em] at h2
   split at h
   ·rename_i s hx
    split at h
    ·rename_i hb
     cases h
     simp only [hx] at h2
     repeat' split at h2
     all_goals first | (cases h2; done) | skip
     all_goals
      cases h2
      exact ob1 hb.1 (ob1 hb.2.1 (ob1 hb.2.2 ob0))
    ·cases h
   ·rename_i sz xs full hx
    split at h
    ·rename_i hb
     cases h
     simp only [hx, cond_eq_ite] at h2
     repeat' split at h2
     all_goals first | (cases h2; done) | skip
     ·cases h2
      exact ob1 hb.1 (ob1 hb.2.1 (ob1 hb.2.2.1 ob0))
     ·cases h2
      exact ob1 hb.1 (ob1 hb.2.1 (ob1 hb.2.2.1 (ob1 hb.2.2.2 ob0)))
    ·cases h
   ·rename_i lb g hx
    split at h
    ·rename_i c sz rows hlb
     split at h
     ·rename_i hv
      split at h
      ·rename_i hb
       cases h
       simp only [hx, hlb, cond_eq_ite] at h2
       repeat' split at h2
       all_goals first | (cases h2; done) | skip
       all_goals
        cases h2
        simp_all [cutObs, AllP]
      ·cases h
     ·cases h
    ·cases h
   ·cases h
  ·cases h
 | makeSlice t l c =>
  simp only at h
  split at h
  ·rename_i e he
   split at h
   ·rename_i i hi
    split at h
    ·rename_i ik k hl
     split at h
     ·rename_i ik2 m hm
      split at h
      ·rename_i hb
       cases h
       simp only [makeSliceA, he, hi, hl, hm, cond_eq_ite] at h2
       repeat' split at h2
       all_goals first | (cases h2; done) | skip
       all_goals
        cases h2
        simp_all [AllP]
      ·cases h
     ·cases h
    ·cases h
   ·cases h
  ·cases h
 | lookup t m k ok =>
  simp only at h
  split at h
  ·rename_i l hm
   split at h
   ·rename_i es hl
    split at h
    ·rename_i s hk
     cases h
     simp only [lookupA, hm, hl, hk] at h2
     repeat' split at h2
     all_goals first | (cases h2; done) | skip
     all_goals
      cases h2
      simp [AllP]
    ·cases h
   ·cases h
  ·cases h
 | mapUpdate t m k x =>
  simp only at h
  split at h
  ·rename_i l hm
   split at h
   ·rename_i es hl
    split at h
    ·rename_i s hk
     split at h
     ·rename_i hf
      cases h
      simp only [mapUpdateA, hm, hl, hk, cond_eq_ite] at h2
      repeat' split at h2
      all_goals first | (cases h2; done) | skip
      all_goals
       cases h2
       exact ob1 hf ob0
     ·cases h
    ·cases h
   ·cases h
  ·cases h
 | call c =>
  simp only at h2
  split at h2
  ·rename_i b hcb
   simp only [hcb] at h
   cases b <;> simp only at h2 <;> first | (cases h2; done) | skip
   case len =>
    repeat' split at h2
    all_goals first | (cases h2; done) | exact ob_of (nob_len h2)
   case max =>
    repeat' split at h2
    all_goals first | (cases h2; done) | exact ob_of (nob_max h2)
   case min =>
    repeat' split at h2
    all_goals first | (cases h2; done) | exact ob_of (nob_min h2)
   case clear =>
    repeat' split at h2
    all_goals first | (cases h2; done) | exact ob_of (nob_clear h2)
   case append =>
    split at h2
    ·rename_i x y ha
     split at h2
     ·rename_i t t2 hat
      simp only [ha, hat] at h
      split at h
      ·rename_i e he
       split at h
       ·rename_i i hi
        simp only [cond_eq_ite] at h
        split at h
        ·rename_i hn
         have hn := Nat.le_of_ble_eq_true hn
         have key : ∀ k, Fits (lenX look (ρ x) + lenX look (ρ y)) k i.bytes := fun k => Fits.of hn
         simp only [appendA, he, hi, cond_eq_ite] at h2
         have hy : ∀ {ys ac}, rowsA look i.size (ρ y) = some (ys, ac) → ys.length = lenX look (ρ y) := fun {ys ac} hr => by
          unfold rowsA at hr
          unfold lenX
          simp only [cond_eq_ite] at hr
          repeat' split at hr
          all_goals first | (cases hr; done) | skip
          all_goals
           cases hr
           simp_all
         repeat' split at h2
         all_goals first | (cases h2; done) | skip
         all_goals
          rename_i hr _ _ _ _
          cases h2
          simp_all [AllP, lenX]
        ·cases h
       ·cases h
      ·cases h
     ·cases h2
    ·cases h2
  ·cases h2
 | _ => cases h2
structure XS where
 tl : List AV
 st : List AObj
def XS.tm (s : XS) : Nat → AV := fun t => s.tl.getD t .any
def XS.a (s : XS) : ASt := ⟨s.tm, s.st⟩
abbrev Cal := FuncId → List AV → List AObj → Option (AV × List AObj)
section
variable {P : Program} {K : Kinds} {cal : Cal} {N base : Nat} {ops : Array Oper}
def CalOk (P : Program) (cal : Cal) : Prop := ∀ g as σ r σ', cal g as σ = some (r, σ') → SoundCall P g as σ r σ'
theorem entOf_zip : ∀ (L : List Nat) (ens : List Ent), L.Nodup → ∀ (j i : Nat) (en : Ent), L[j]? = some i → ens[j]? = some en → entOf (L.zip ens) i = en
 | [], _, _, j, i, en, h, _ => by simp at h
 | a :: L, [], _, j, i, en, _, h => by simp at h
 | a :: L, e :: ens, hn, j, i, en, h1, h2 => by
  simp only [List.nodup_cons] at hn
  cases j with
  | zero => simp at h1 h2; subst h1; subst h2; simp [entOf]
  | succ j =>
   simp only [List.getElem?_cons_succ] at h1 h2
   have hne : a ≠ i := fun e => hn.1 (e ▸ List.mem_of_getElem? h1)
   simp only [List.zip_cons_cons, entOf]
   rw [show Nat.beq a i = false from by
    cases hb : Nat.beq a i with
    | true => exact absurd (Nat.eq_of_beq_eq_true hb) hne
    | false => rfl]
   exact entOf_zip L ens hn.2 j i en h1 h2
end
def blkX (id : Nat) (e : Exit) : Exit :=
 match e with
 | .exit id' => bif Nat.beq id' id then .normal else e
 | _ => e
def laIds : Nat → AV → List Nat
 | 0, _ => []
 | n + 1, a => match a with
  | .la l _ => [l]
  | .agg cs => cs.flatMap (laIds n)
  | .tup cs => cs.flatMap (laIds n)
  | _ => []
def finX (P : Program) (m : Nat) (fn : Func) (s : ASt) : List Wk :=
 match resL P s fn.results.toList with
 | some xs => ((laIds 6 (resV xs)).filter (Nat.ble m)).eraseDups.map .frz
 | none => []
end Go.Ae
namespace Go.Ae
inductive Tr where
 | e
 | n (v : AV) (l r : Tr)
noncomputable def Tr.get (t : Tr) : Nat → AV :=
 Tr.rec (motive := fun _ => Nat → AV) (fun _ => .any) (fun v _ _ gl gr i => bif Nat.beq i 0 then v else bif Nat.beq (Nat.mod i 2) 1 then gl (Nat.div i 2) else gr (Nat.pred (Nat.div i 2))) t
section
universe u
variable {β : Type u}
noncomputable def Tr.put (t : Tr) : Nat → AV → (Tr → Option β) → Option β :=
 Tr.rec (motive := fun _ => Nat → AV → (Tr → Option β) → Option β) (fun _ _ _ => none)
  (fun v l r gl gr i x k => bif Nat.beq i 0 then k (.n x l r) else bif Nat.beq (Nat.mod i 2) 1 then gl (Nat.div i 2) x fun l' => k (.n v l' r) else gr (Nat.pred (Nat.div i 2)) x fun r' => k (.n v l r')) t
theorem Tr.put_spec : ∀ (t : Tr) (i : Nat) (x : AV) (k : Tr → Option β) (r : β), t.put i x k = some r → ∃ t', k t' = some r ∧ ∀ j, t'.get j = putT t.get i x j
 | .e, i, x, k, r, h => by cases h
 | .n v l r0, i, x, k, r, h => by
  have e1 : (Tr.n v l r0).put i x k = bif Nat.beq i 0 then k (.n x l r0) else bif Nat.beq (Nat.mod i 2) 1 then l.put (Nat.div i 2) x fun l' => k (.n v l' r0) else r0.put (Nat.pred (Nat.div i 2)) x fun r' => k (.n v l r') := rfl
  have e2 : ∀ (v : AV) (l r : Tr) (j : Nat), (Tr.n v l r).get j = bif Nat.beq j 0 then v else bif Nat.beq (Nat.mod j 2) 1 then l.get (Nat.div j 2) else r.get (Nat.pred (Nat.div j 2)) := fun _ _ _ _ => rfl
  have hb : ∀ (a b : Nat), Nat.beq a b = decide (a = b) := fun a b => by
   cases h : Nat.beq a b with
   | true => rw [decide_eq_true (Nat.eq_of_beq_eq_true h)]
   | false => rw [decide_eq_false (fun e => by rw [e] at h; simp at h)]
  rw [e1] at h
  simp only [hb, cond_eq_ite, decide_eq_true_eq] at h e2
  have hmod : ∀ a, Nat.mod a 2 = a % 2 := fun _ => rfl
  have hdiv : ∀ a, Nat.div a 2 = a / 2 := fun _ => rfl
  simp only [hmod, hdiv, Nat.pred_eq_sub_one] at h e2
  split at h
  ·rename_i h0
   refine ⟨_, h, fun j => ?_⟩
   simp only [e2, putT, hb, cond_eq_ite, decide_eq_true_eq, h0]
   split <;> rfl
  ·rename_i h0
   split at h
   ·rename_i h1
    obtain ⟨t', k1, k2⟩ := Tr.put_spec l _ _ _ _ h
    refine ⟨_, k1, fun j => ?_⟩
    simp only [e2, k2, putT, hb, cond_eq_ite, decide_eq_true_eq]
    by_cases hj : j = i
    ·subst hj; simp [h0, h1]
    ·simp only [if_neg hj]
     split
     ·rfl
     ·rename_i hj0
      split
      ·rename_i hj1
       rw [if_neg (by omega)]
      ·rfl
   ·rename_i h1
    obtain ⟨t', k1, k2⟩ := Tr.put_spec r0 _ _ _ _ h
    refine ⟨_, k1, fun j => ?_⟩
    simp only [e2, k2, putT, hb, cond_eq_ite, decide_eq_true_eq]
    by_cases hj : j = i
    ·subst hj; simp [h0, h1]
    ·simp only [if_neg hj]
     split
     ·rfl
     ·rename_i hj0
      split
      ·rfl
      ·rename_i hj1
       rw [if_neg (by omega)]
end
def Tr.full : Nat → Tr
 | 0 => .e
 | m + 1 => .n (.sc undef) (Tr.full m) (Tr.full m)
noncomputable def Tr.args {β : Type} : List AV → Tr → Nat → (Tr → Option β) → Option β
 | [], t, _, k => k t
 | a :: as, t, i, k => t.put i a fun t => Tr.args as t (Nat.succ i) k
noncomputable def nthO (st : List AObj) : Nat → AObj :=
 List.rec (motive := fun _ => Nat → AObj) (fun _ => .gone) (fun o _ g i => bif Nat.beq i 0 then o else g (Nat.pred i)) st
theorem nthO_eq : ∀ (st : List AObj), nthO st = getO st
 | [] => by funext i; simp [getO, nthO]
 | o :: st => by
  funext i
  have e : nthO (o :: st) i = bif Nat.beq i 0 then o else nthO st (Nat.pred i) := rfl
  rw [e, nthO_eq st]
  cases i with
  | zero => rfl
  | succ i =>
   show (bif Nat.beq (i + 1) 0 then o else getO st i) = _
   rw [show Nat.beq (i + 1) 0 = false from rfl]
   simp [getO]
structure F3 where
 f : (Operand → AV) → (Nat → AObj) → Nat → Option Res
def xRun (P : Program) (o : Oper) (ρ : Operand → AV) (look : Nat → AObj) (slot : Nat) : Option Res :=
 match entX P ρ look o with
 | some en => core P slot ρ look en o
 | none => none
def yLoad (P : Program) (look : Nat → AObj) (t : TypeId) (p : AV) : Option Res :=
 match p with
 | .ip (c :: cs) off => (ldA P t (c :: cs) off).map fun r => ⟨r, [], [], []⟩
 | .lp l off => match look l with
  | .cells cs _ => (ldA P t cs off).map fun r => ⟨r, [], [(l, false)], []⟩
  | _ => none
 | .le l g i off => match look l with
  | .arr c _ rows => match rows[i]? with
   | some cs => bif Nat.beq g c then (ldA P t cs off).map fun r => ⟨r, [], [(l, false)], [rows[i]? = some cs]⟩ else none
   | none => none
  | _ => none
 | _ => none
def cRun (P : Program) (o : Oper) : F3 :=
 match o.op with
 | .move x => ⟨fun ρ _ _ => some ⟨ρ x, [], [], []⟩⟩
 | .assign x => ⟨fun ρ _ _ => some ⟨ρ x, [], [], []⟩⟩
 | .fieldAddr s x f => ⟨fun ρ look _ => fieldAddrA P look s (ρ x) f⟩
 | .nilCheck x => ⟨fun ρ look _ => nilCheckA look (ρ x)⟩
 | .extract x i => ⟨fun ρ _ _ => extractA (ρ x) i⟩
 | .field s x f => ⟨fun ρ _ _ => fieldA P s (ρ x) f⟩
 | .pick c a b => ⟨fun ρ _ _ => pickA (ρ c) (ρ a) (ρ b)⟩
 | .alloc t => ⟨fun _ _ slot => allocA P slot t⟩
 | .box _ x => ⟨fun ρ _ slot => boxA slot (ρ x)⟩
 | .unOp op _ x => ⟨fun ρ _ _ => unOpA op (ρ x)⟩
 | .convert s d x => ⟨fun ρ look _ => convertB P look s d (ρ x)⟩
 | .load t x => ⟨fun ρ look _ => yLoad P look t (ρ x)⟩
 | .binOp .eql t x y _ => ⟨fun ρ _ _ => binOpB P .eql t x y ρ⟩
 | .binOp .neq t x y _ => ⟨fun ρ _ _ => binOpB P .neq t x y ρ⟩
 | .binOp .lss t x y _ => ⟨fun ρ _ _ => binOpB P .lss t x y ρ⟩
 | .binOp .leq t x y _ => ⟨fun ρ _ _ => binOpB P .leq t x y ρ⟩
 | .binOp .gtr t x y _ => ⟨fun ρ _ _ => binOpB P .gtr t x y ρ⟩
 | .binOp .geq t x y _ => ⟨fun ρ _ _ => binOpB P .geq t x y ρ⟩
 | .binOp .sub t x y _ => ⟨fun ρ _ _ => binOpB P .sub t x y ρ⟩
 | _ => ⟨fun ρ look slot => xRun P o ρ look slot⟩
theorem cRun_eq (P : Program) (o : Oper) (ρ : Operand → AV) (look : Nat → AObj) (slot : Nat) : (cRun P o).f ρ look slot = xRun P o ρ look slot := by
 unfold cRun
 split <;> first | rfl | skip
 all_goals
  rename_i ho
  unfold xRun
  unfold entX core
  rw [ho]
 case h_12 t x =>
  show yLoad P look t (ρ x) = match (match ρ x with
   | .le l _ i _ => match look l with
    | .arr _ _ rows => match rows[i]? with
     | some cs => some (Ent.row i cs)
     | none => none
    | _ => none
   | _ => some .no) with
   | some en => loadA P look en t (ρ x)
   | none => none
  unfold loadA yLoad
  generalize ρ x = p
  rcases p with _ | _ | _ | _ | ⟨_ | ⟨_, _⟩, _⟩ | _ | ⟨l, g, i, off⟩ | _ | _ | _ | _ | _ | _ <;> try rfl
  simp only
  generalize look l = ob
  cases ob <;> try rfl
  rename_i c sz rows
  simp only
  generalize rows[i]? = q
  cases q <;> rfl
structure Cp where
 dst : Option Tmp
 guard : Option (Option Tmp × Bool)
 call : Option Call
 alloc : Bool
 slot : Nat
 run : F3
def guardC (ops : Array Oper) (o : Oper) : Option (Option Tmp × Bool) :=
 match o.guard with
 | none => none
 | some (j, w) => some ((ops[j]?).bind (·.dst), w)
def cOf (P : Program) (N : Nat) (ops : Array Oper) (i : Nat) : Option Cp :=
 match ops[i]? with
 | some o => bif dstOk N o.dst then some ⟨o.dst, guardC ops o, funcCall o, allocB o, ((ops.toList.take i).filter allocB).length, cRun P o⟩ else none
 | none => none
def wantC (tm : Nat → AV) (g : Option (Option Tmp × Bool)) : Option Bool :=
 match g with
 | none => some true
 | some (d, want) => match d with
  | some d => match tm d with
   | .sc (.bool b) => some (bif want then b else !b)
   | .sc (.tuple _) => some false
   | _ => none
  | none => none
theorem wantC_eq (ops : Array Oper) (tm : Nat → AV) (o : Oper) : wantC tm (guardC ops o) = wantedA ops tm o := by
 unfold wantedA wantC guardC
 generalize o.guard = g
 cases g with
 | none => rfl
 | some p =>
  obtain ⟨j, w⟩ := p
  generalize hd : (ops[j]?).bind (·.dst) = d
  simp only [hd]
  cases d with
  | none => rfl
  | some d =>
   simp only
   generalize tm d = v
   cases v <;> rfl
structure YS where
 tr : Tr
 st : List AObj
noncomputable def YS.a (s : YS) : ASt := ⟨s.tr.get, s.st⟩
section
universe u
variable {α : Type u}
def gA (a : AV) (k : AV → α) : α :=
 match a with
 | .sc v => fVal v fun v => k (.sc v)
 | .sl sz xs f => fL (fun r k => fL (fun a k => k a) r k) xs fun xs => fBool f fun f => k (.sl sz xs f)
 | .ip cs off => fL (fun a k => k a) cs fun cs => fNat off fun off => k (.ip cs off)
 | .lp l off => fNat l fun l => fNat off fun off => k (.lp l off)
 | .le l g i off => fNat l fun l => fNat g fun g => fNat i fun i => fNat off fun off => k (.le l g i off)
 | .la l g => fNat l fun l => fNat g fun g => k (.la l g)
 | .agg cs => fL (fun a k => k a) cs fun cs => k (.agg cs)
 | .tup cs => fL (fun a k => k a) cs fun cs => k (.tup cs)
 | a => k a
theorem gA_eq (a : AV) (k : AV → α) : gA a k = k a := by
 have h1 : ∀ (l : List AV) (k : List AV → α), fL (fun a k => k a) l k = k l := fL_eq fun _ _ => rfl
 have h2 : ∀ (l : List (List AV)) (k : List (List AV) → α), fL (fun r k => k r) l k = k l := fL_eq fun _ _ => rfl
 cases a <;> simp [gA, h1, h2]
def hA : Nat → AV → (AV → α) → α
 | 0, a, k => k a
 | n + 1, a, k => match a with
  | .sc v => fVal v fun v => k (.sc v)
  | .lp l off => fNat l fun l => fNat off fun off => k (.lp l off)
  | .le l g i off => fNat l fun l => fNat g fun g => fNat i fun i => fNat off fun off => k (.le l g i off)
  | .la l g => fNat l fun l => fNat g fun g => k (.la l g)
  | .mp l => fNat l fun l => k (.mp l)
  | .fn f cs => fL (hA n) cs fun cs => k (.fn f cs)
  | .ifc t x => hA n x fun x => k (.ifc t x)
  | .agg cs => fL (hA n) cs fun cs => k (.agg cs)
  | .tup cs => fL (hA n) cs fun cs => k (.tup cs)
  | .sl sz xs f => k (.sl sz xs f)
  | .ip cs off => k (.ip cs off)
  | .any => k .any
  | .nil => k .nil
theorem hA_eq : ∀ (n : Nat) (a : AV) (k : AV → α), hA n a k = k a
 | 0, a, k => rfl
 | n + 1, a, k => by
  have h1 : ∀ (l : List AV) (k : List AV → α), fL (hA n) l k = k l := fL_eq (hA_eq n)
  cases a <;> simp [hA, h1, hA_eq n]
def gO (o : AObj) (k : AObj → α) : α :=
 match o with
 | .gone => k .gone
 | .cells cs ro => fL (hA 8) cs fun cs => k (.cells cs ro)
 | .arr g sz rows => fNat g fun g => fL (fL (hA 8)) rows fun rows => k (.arr g sz rows)
 | .map es => fL (fun p k => fStr p.1 fun s => hA 8 p.2 fun a => k (s, a)) es fun es => k (.map es)
theorem gO_eq (o : AObj) (k : AObj → α) : gO o k = k o := by
 have h1 : ∀ (l : List AV) (k : List AV → α), fL (hA 8) l k = k l := fL_eq (hA_eq 8)
 have h2 : ∀ (l : List (List AV)) (k : List (List AV) → α), fL (fL (hA 8)) l k = k l := fL_eq h1
 have h4 : ∀ (l : List (ByteArray × AV)) (k : List (ByteArray × AV) → α), fL (fun p k => fStr p.1 fun s => hA 8 p.2 fun a => k (s, a)) l k = k l := fL_eq fun b k => by
  simp [hA_eq]
 cases o <;> simp only [gO, h1, h2, h4, fNat_eq]
def gWr : List AObj → List (Nat × AObj) → (List AObj → α) → α
 | st, [], k => k st
 | st, (l, o) :: r, k => gO o fun o => fSet st l o fun st => gWr st r k
theorem gWr_eq : ∀ (st : List AObj) (wr : List (Nat × AObj)) (k : List AObj → α), gWr st wr k = k (applyWr st wr)
 | st, [], k => rfl
 | st, (l, o) :: r, k => by simp only [gWr, gO_eq, fSet_eq]; rw [gWr_eq _ r]; rfl
def gApp (st : List AObj) (n : Nat) (k : List AObj → α) : α :=
 match n with
 | 0 => k st
 | n + 1 => fApp st (Nat.succ n) k
theorem gApp_eq (st : List AObj) (n : Nat) (k : List AObj → α) : gApp st n k = k (st ++ List.replicate n .gone) := by
 cases n with
 | zero => simp [gApp]
 | succ n => simp [gApp, fApp_eq]
end
def yCall (P : Program) (cal : Cal) (ρ : Operand → AV) (look : Nat → AObj) (endS : Nat) (c : Call) : Option Eff :=
 match targetA P ρ c with
 | some (g, args) =>
  fL fNat (reach look 1000 [] (args.flatMap (idsV 6))) fun ids =>
  fL (hA 8) (args.map (renV (renOf ids 0 look) 6)) fun as =>
  fL gO (newSt ids 0 look) fun σ =>
  match cal g as σ with
  | some (r, σ2) => bif nodupB ids && Nat.ble ids.length σ2.length && ids.all (fun l => Nat.blt l endS) then
    some ⟨renV (outRen ids look endS σ2) 6 r, σ2.length - ids.length, wrOut ids look endS σ2,
      ids.map (fun l => (l, true)) ++ (List.range (σ2.length - ids.length)).map (fun k => (endS + k, true)), [SoundCall P g as σ r σ2]⟩ else none
  | none => none
 | none => none
noncomputable def yPut {β : Type} (tr : Tr) (d : Option Tmp) (r : AV) (k : Tr → Option β) : Option β :=
 match d with
 | some d => tr.put d r k
 | none => k tr
noncomputable def yFin (s : YS) (i : Nat) (d : Option Tmp) (more : List (Nat × Bool)) (res : Option Res) : Option (YS × Nat × List (Nat × Bool) × Nat) :=
 match res with
 | none => none
 | some ⟨r, wr, ac, ob⟩ => match wr with
  | [] => gA r fun r => yPut s.tr d r fun tr => some (⟨tr, s.st⟩, i, more ++ ac, 0)
  | p :: ps => bif okE s.st.length ⟨r, 0, p :: ps, more ++ ac, ob⟩ then gA r fun r => gWr s.st (p :: ps) fun st => yPut s.tr d r fun tr => some (⟨tr, st⟩, i, more ++ ac, 0) else none
noncomputable def yStep (P : Program) (cal : Cal) (N base : Nat) (ops : Array Oper) (i : Nat) (s : YS) : Option (YS × Nat × List (Nat × Bool) × Nat) :=
 match cOf P N ops i with
 | none => none
 | some c => match wantC s.tr.get c.guard with
  | some true => match c.call with
   | some k => match yCall P cal (evA s.a) (nthO s.st) s.st.length k with
    | some e => bif okE s.st.length e then
      hA 8 e.r fun r => fNat e.pad fun pad => gApp s.st pad fun st => gWr st e.wr fun st => yPut s.tr c.dst r fun tr => some (⟨tr, st⟩, i, e.ac, pad) else none
    | none => none
   | none => bif c.alloc then
     (match nthO s.st (base + c.slot) with
     | .gone => bif Nat.blt c.slot (slotsOf ops) then yFin s i c.dst [(base + c.slot, true)] (F3.f c.run (evA s.a) (nthO s.st) (base + c.slot)) else none
     | _ => none)
    else yFin s i c.dst [] (F3.f c.run (evA s.a) (nthO s.st) (base + c.slot))
  | some false => yPut s.tr c.dst (.sc undef) fun tr => some (⟨tr, s.st⟩, i, [], 0)
  | none => none
section
variable {P : Program} {cal : Cal} {N base : Nat} {ops : Array Oper}
theorem yPut_spec {β : Type} {s : YS} {d : Option Tmp} {r : AV} {st : List AObj} {k : Tr → Option β} {x : β} (h : yPut s.tr d r k = some x) : ∃ tr, k tr = some x ∧ YS.a ⟨tr, st⟩ = ⟨putO s.tr.get d r, st⟩ := by
 cases d with
 | none => exact ⟨s.tr, h, rfl⟩
 | some d =>
  obtain ⟨t', h1, h2⟩ := Tr.put_spec s.tr d r k x h
  refine ⟨t', h1, ?_⟩
  simp only [YS.a, putO]
  congr 1
  funext j
  exact h2 j
theorem tidyArgs_nil : ∀ (ts : List TypeId) (as : List AV), tidyArgs [] ts as = as
 | [], as => rfl
 | t :: ts, [] => rfl
 | t :: ts, a :: as => by
  have : tidyV (kindsOf [] t) a = a := by cases a <;> rfl
  simp only [tidyArgs, this, tidyArgs_nil ts as]
theorem yCall_spec (hcal : CalOk P cal) {ρ : Operand → AV} {look : Nat → AObj} {endS slot cap : Nat} {o : Oper} {c : Call} {e : Eff} (ho : funcCall o = some c) (h : yCall P cal ρ look endS c = some e) :
  ∃ en, effA P [] slot cap endS ρ look en o = some e ∧ AllP e.ob := by
 unfold yCall at h
 split at h
 ·rename_i g args ht
  rw [fL_eq fNat_eq, fL_eq (hA_eq 8), fL_eq gO_eq] at h
  split at h
  ·rename_i r σ' hc
   simp only [cond_eq_ite, Option.ite_none_right_eq_some, Option.some.injEq] at h
   obtain ⟨h1, rfl⟩ := h
   refine ⟨.call r σ', ?_, ob1 (hcal _ _ _ _ _ hc) ob0⟩
   unfold effA
   rw [ho]
   simp only [callA, ht, callB, h1, cond_true, tidyArgs_nil]
  ·cases h
 ·cases h
theorem yFin_spec {s s' : YS} {i : Nat} {d : Option Tmp} {more : List (Nat × Bool)} {res : Option Res} {x : Nat × List (Nat × Bool) × Nat} (h : yFin s i d more res = some (s', x)) :
  ∃ r0, res = some r0 ∧ okE s.st.length ⟨r0.r, 0, r0.wr, more ++ r0.ac, r0.ob⟩ = true ∧ x = (i, more ++ r0.ac, 0) ∧ s'.a = ⟨putO s.tr.get d r0.r, applyE s.st ⟨r0.r, 0, r0.wr, more ++ r0.ac, r0.ob⟩⟩ := by
 unfold yFin at h
 split at h
 ·cases h
 ·rename_i r wr ac ob
  refine ⟨_, rfl, ?_⟩
  split at h
  ·rw [gA_eq] at h
   obtain ⟨tr, h1, h2⟩ := yPut_spec (st := s.st) h
   cases h1
   refine ⟨by simp [okE], rfl, ?_⟩
   rw [h2]
   simp [applyE, applyWr]
  ·simp only [cond_eq_ite, Option.ite_none_right_eq_some] at h
   obtain ⟨hok, h⟩ := h
   rw [gA_eq, gWr_eq] at h
   obtain ⟨tr, h1, h2⟩ := yPut_spec (st := applyWr s.st _) h
   cases h1
   refine ⟨hok, rfl, ?_⟩
   rw [h2]
   simp [applyE]
theorem yStep_spec (hcal : CalOk P cal) {i : Nat} {s s' : YS} {x : Nat × List (Nat × Bool) × Nat} (h : yStep P cal N base ops i s = some (s', x)) :
  ∃ en, ∀ es, entOf es i = en → ∃ r, stepA P [] N base ops es i s.a = some r ∧ AllP r.ob ∧ x = (i, r.ac, r.pad) ∧ r.s = s'.a := by
 unfold yStep at h
 split at h
 ·cases h
 ·rename_i c hc
  unfold cOf at hc
  split at hc
  ·rename_i o ho
   simp only [cond_eq_ite, Option.ite_none_right_eq_some, Option.some.injEq] at hc
   obtain ⟨hd, rfl⟩ := hc
   simp only [wantC_eq] at h
   have run : ∀ {more : List (Nat × Bool)} {slot : Nat}, allocB o = true ∨ allocB o = false → funcCall o = none → yFin s i o.dst more (F3.f (cRun P o) (evA s.a) (nthO s.st) (base + slot)) = some (s', x) →
     (∀ en e, coreE P (base + slot) (evA s.a) (getO s.st) en o more = some e → effA P [] (slotOf ops base i) (base + slotsOf ops) s.st.length (evA s.a) (getO s.st) en o = some e) →
     wantedA ops s.tr.get o = some true →
     ∃ en, ∀ es, entOf es i = en → ∃ r, stepA P [] N base ops es i s.a = some r ∧ AllP r.ob ∧ x = (i, r.ac, r.pad) ∧ r.s = s'.a := fun {more slot} _ hf hy hef hw => by
    obtain ⟨r0, k1, k2, k3, k4⟩ := yFin_spec hy
    rw [cRun_eq, nthO_eq] at k1
    unfold xRun at k1
    split at k1
    ·rename_i en hen
     refine ⟨en, fun es hes => ⟨⟨⟨putO s.tr.get o.dst r0.r, applyE s.st ⟨r0.r, 0, r0.wr, more ++ r0.ac, r0.ob⟩⟩, more ++ r0.ac, 0, r0.ob⟩, ?_, entX_ob hen k1, k3, k4.symm⟩⟩
     unfold stepA
     simp only [ho, hd, cond_true]
     rw [show s.a.tm = s.tr.get from rfl, hw]
     simp only [hes]
     rw [show s.a.st = s.st from rfl, hef en ⟨r0.r, 0, r0.wr, more ++ r0.ac, r0.ob⟩ (by
      unfold coreE
      rw [k1]
      simp only [Option.map_some, adj_plain (entX_plain hen)])]
     simp only [Option.bind_some, k2, cond_true]
    ·cases k1
   split at h
   ·rename_i hw
    split at h
    ·rename_i k hk
     split at h
     ·rename_i e he
      rw [nthO_eq] at he
      simp only [cond_eq_ite, Option.ite_none_right_eq_some] at h
      obtain ⟨hok, h⟩ := h
      rw [hA_eq, fNat_eq, gApp_eq, gWr_eq] at h
      obtain ⟨tr, h1, h2⟩ := yPut_spec (st := applyWr (s.st ++ List.replicate e.pad .gone) e.wr) h
      cases h1
      obtain ⟨en, q1, q2⟩ := yCall_spec (slot := slotOf ops base i) (cap := base + slotsOf ops) hcal hk he
      refine ⟨en, fun es hes => ⟨⟨⟨putO s.tr.get o.dst e.r, applyE s.st e⟩, e.ac, e.pad, e.ob⟩, ?_, q2, rfl, h2.symm⟩⟩
      unfold stepA
      simp only [ho, hd, cond_true]
      rw [show s.a.tm = s.tr.get from rfl, hw]
      simp only [hes]
      rw [show s.a.st = s.st from rfl, q1]
      simp only [Option.bind_some, hok, cond_true]
     ·cases h
    ·rename_i hk
     cases hal : allocB o with
     | true =>
      simp only [hal, cond_true] at h
      split at h
      ·rename_i hg
       simp only [cond_eq_ite, Option.ite_none_right_eq_some] at h
       obtain ⟨hlt, h⟩ := h
       refine run (.inl hal) hk h (fun en e hce => ?_) hw
       unfold effA
       rw [hk]
       simp only [hal, cond_true]
       rw [nthO_eq] at hg
       rw [show slotOf ops base i = base + ((ops.toList.take i).filter allocB).length from rfl, hg]
       simp only
       rw [show Nat.blt (base + ((ops.toList.take i).filter allocB).length) (base + slotsOf ops) = true from by
        have := Nat.le_of_ble_eq_true hlt
        exact Nat.ble_eq_true_of_le (by omega)]
       exact hce
      ·cases h
     | false =>
      simp only [hal, cond_false] at h
      refine run (.inr hal) hk h (fun en e hce => ?_) hw
      unfold effA
      rw [hk]
      simp only [hal, cond_false]
      exact hce
   ·rename_i hw
    obtain ⟨tr, h1, h2⟩ := yPut_spec (st := s.st) h
    cases h1
    refine ⟨.no, fun es hes => ⟨⟨⟨putO s.tr.get o.dst (.sc undef), s.st⟩, [], 0, []⟩, ?_, ob0, rfl, h2.symm⟩⟩
    unfold stepA
    simp only [ho, hd, cond_true]
    rw [show s.a.tm = s.tr.get from rfl, hw]
    rfl
   ·cases h
  ·cases hc
noncomputable def yOps (P : Program) (cal : Cal) (N base : Nat) (ops : Array Oper) : List Nat → YS → Option (YS × Rec)
 | [], s => some (s, [])
 | i :: L, s => match yStep P cal N base ops i s with
  | some (s1, x) => match yOps P cal N base ops L s1 with
   | some (s2, rec) => some (s2, x :: rec)
   | none => none
  | none => none
def loose (ops : Array Oper) : List (Nat × Nat) :=
 (List.range ops.size).flatMap fun j => ((List.range j).filter fun i => !((masks ops.toList []).getD j 0).testBit i).map fun i => (i, j)
def looseOk (ops : Array Oper) (rec : Rec) : Bool := (loose ops).all fun p =>
 noConf (recOf rec p.1).1 (recOf rec p.2).1 && (bif Nat.beq (recOf rec p.1).2 0 then true else Nat.beq (recOf rec p.2).2 0) && apartB ops p.1 p.2
noncomputable def yReg (P : Program) (cal : Cal) (N : Nat) (ops : Array Oper) (draw : Bool) (s : YS) : Option YS :=
 gApp s.st (slotsOf ops) fun st0 => match yOps P cal N s.st.length ops (List.range ops.size) ⟨s.tr, st0⟩ with
 | some (s', rec) => bif draw then (bif P.follows .mixedOrders && edgesOk ops && looseOk ops rec then some s' else none) else some s'
 | none => none
theorem yOps_run (hcal : CalOk P cal) : ∀ {L : List Nat} {s s' : YS} {rec : Rec}, yOps P cal N base ops L s = some (s', rec) →
  rec.map (·.1) = L ∧ ∃ ens : List Ent, ens.length = L.length ∧ ∀ es rc, (∀ (j : Nat) (i : Nat) (en : Ent), L[j]? = some i → ens[j]? = some en → entOf es i = en) → (∀ p ∈ rec, rc p.1 = p.2) → Run P [] N base ops es rc L s.a s'.a
 | [], s, s', rec, h => by
  simp only [yOps, Option.some.injEq, Prod.mk.injEq] at h
  obtain ⟨rfl, rfl⟩ := h
  exact ⟨rfl, [], rfl, fun _ _ _ _ => .nil⟩
 | i :: L, s, s', rec, h => by
  simp only [yOps] at h
  split at h
  ·rename_i s1 x h1
   split at h
   ·rename_i s2 rec2 h2
    cases h
    obtain ⟨en, k1⟩ := yStep_spec hcal h1
    obtain ⟨k2, ens, k3, k4⟩ := yOps_run hcal h2
    have hx : x.1 = i := by
     obtain ⟨r, _, _, e, _⟩ := k1 [(i, en)] (by simp [entOf])
     rw [e]
    refine ⟨by simp [hx, k2], en :: ens, by simp [k3], fun es rc hes hrc => ?_⟩
    obtain ⟨r, q1, q2, q3, q4⟩ := k1 es (hes 0 i en rfl rfl)
    refine .cons r q1 q2 ?_ ?_
    ·have := hrc x (by simp)
     rw [q3] at this
     exact this
    ·rw [q4]
     exact k4 es rc (fun j i' en' e1 e2 => hes (j + 1) i' en' (by simpa using e1) (by simpa using e2)) (fun p hp => hrc p (by simp [hp]))
   ·cases h
  ·cases h
theorem looseOk_spec {rec : Rec} (h : looseOk ops rec = true) (i j : Nat) (hij : i < j) (hj : j < ops.size) : ((masks ops.toList []).getD j 0).testBit i = true ∨ OkPair ops (recOf rec) i j := by
 cases hb : ((masks ops.toList []).getD j 0).testBit i with
 | true => exact .inl rfl
 | false =>
  refine .inr ?_
  have hm : (i, j) ∈ loose ops := by
   simp only [loose, List.mem_flatMap, List.mem_range, List.mem_map, List.mem_filter]
   exact ⟨j, hj, i, ⟨hij, by rw [hb]; rfl⟩, rfl⟩
  have := List.all_eq_true.1 h _ hm
  simp only [Bool.and_eq_true] at this
  obtain ⟨⟨h1, h2⟩, h3⟩ := this
  unfold apartB at h3
  split at h3
  ·rename_i x y e1 e2
   refine ⟨x, y, e1, e2, h3, h1, ?_⟩
   cases h0 : Nat.beq (recOf rec i).2 0 with
   | true => exact .inl (Nat.eq_of_beq_eq_true h0)
   | false => rw [h0] at h2; exact .inr (Nat.eq_of_beq_eq_true h2)
  ·cases h3
theorem yReg_sound (hcal : CalOk P cal) {draw : Bool} {id m : Nat} {s s' : YS} (h : yReg P cal N ops draw s = some s') : T P N m (.region id ops draw) s.a .normal s'.a := by
 intro M μ a w hR Q hQ
 unfold yReg at h
 rw [gApp_eq] at h
 obtain ⟨p1, p2, p3⟩ := hR.pad (slotsOf ops)
 have hcap : s.a.st.length + slotsOf ops ≤ (padS (slotsOf ops) s.a).st.length := by simp [padS]
 split at h
 ·rename_i s1 rec he
  obtain ⟨hk, ens, hl, hrun⟩ := yOps_run hcal he
  have k1 : Run P [] N s.st.length ops ((List.range ops.size).zip ens) (recOf rec) (List.range ops.size) (padS (slotsOf ops) s.a) s1.a :=
   hrun _ _ (entOf_zip _ _ List.nodup_range) (recOf_mem (by rw [hk]; exact List.nodup_range))
  cases draw with
  | false =>
   simp only [cond_false, Option.some.injEq] at h
   subst h
   exact wp_region (k1.ok hcap p1 fun a' w' M' μ' r1 r2 r3 => hQ a' w' M' μ' r1 (p2.trans r2) ((p3.trans r3).to m))
  | true =>
   simp only [cond_true] at h
   cases hc : (P.follows .mixedOrders && edgesOk ops && looseOk ops rec) with
   | false => rw [hc] at h; cases h
   | true =>
   rw [hc] at h
   simp only [cond_true, Option.some.injEq] at h
   subst h
   simp only [Bool.and_eq_true] at hc
   obtain ⟨⟨hc1, hc2⟩, hc3⟩ := hc
   refine wp_region_any hc1 ?_
   refine Run.any (rc := recOf rec) hc2 (looseOk_spec hc3) _ _ _ M (μ ++ List.replicate (slotsOf ops) Bd.zero) a { w with drawn := w.drawn + 1 } (by simp) (fun j o _ hl => ?_) (by rw [todo_all]; simp) (by rw [todo_all]; exact k1) hcap
    ⟨p1.size, p1.defers, p1.tm, p1.st.drew _⟩ fun a' w' M' μ' r1 r2 r3 => hQ a' w' M' μ' r1 (p2.trans ((Stp.drew ..).trans r2)) ((p3.trans r3).to m)
   simp only [Array.getD_eq_getD_getElem?, Array.getElem?_replicate] at hl
   split at hl <;> simp at hl
 ·cases h
end
def yLoop : Nat → (YS → Option (Exit × YS)) → YS → Option (Exit × YS)
 | 0, _, _ => none
 | n + 1, f, s => match f s with
  | some (.normal, s1) => yLoop n f s1
  | r => r
noncomputable def yCode (P : Program) (cal : Cal) (N rounds : Nat) : Code → YS → Option (Exit × YS)
 | .skip, s => some (.normal, s)
 | .region _ ops draw, s => match yReg P cal N ops draw s with
  | some s' => some (.normal, s')
  | none => none
 | .seq x y, s => match yCode P cal N rounds x s with
  | some (.normal, s1) => yCode P cal N rounds y s1
  | r => r
 | .cond c x y, s => match evA s.a c with
  | .sc (.bool b) => bif b then yCode P cal N rounds x s else yCode P cal N rounds y s
  | _ => none
 | .block id c, s => match yCode P cal N rounds c s with
  | some (e, s') => some (blkX id e, s')
  | none => none
 | .loop c, s => yLoop rounds (yCode P cal N rounds c) s
 | .exit id, s => some (.exit id, s)
 | .ret, s => some (.ret, s)
 | .label _, s => some (.normal, s)
 | .rangeFunc _ _ _ _, _ => none
 | .scope _, _ => none
 | .goto _, _ => none
 | .refuse _, _ => none
theorem yCode_sound {P : Program} {cal : Cal} {N m rounds : Nat} (hcal : CalOk P cal) : ∀ {c : Code} {s s' : YS} {e : Exit}, yCode P cal N rounds c s = some (e, s') → T P N m c s.a e s'.a := by
 intro c
 induction c with
 | skip =>
  intro s s' e h
  simp only [yCode, Option.some.injEq, Prod.mk.injEq] at h; obtain ⟨rfl, rfl⟩ := h
  exact fun M μ a w hR Q hQ => wp_skip (hQ a w M μ hR (.refl ..) (.refl m μ))
 | region id ops draw =>
  intro s s' e h
  simp only [yCode] at h
  split at h
  ·rename_i s1 h1
   cases h
   exact yReg_sound hcal h1
  ·cases h
 | seq x y ihx ihy =>
  intro s s' e h
  simp only [yCode] at h
  split at h
  ·rename_i s1 h1
   refine fun M μ a w hR Q hQ => wp_seq (ihx h1 M μ a w hR _ fun a1 w1 M1 μ1 r1 p1 e1 => ?_)
   exact ihy h M1 μ1 a1 w1 r1 Q fun a' w' M' μ' r2 p2 e2 => hQ a' w' M' μ' r2 (p1.trans p2) (e1.trans e2)
  ·rename_i hne
   refine fun M μ a w hR Q hQ => wp_seq (ihx h M μ a w hR _ fun a1 w1 M1 μ1 r1 p1 e1 => ?_)
   have := hQ a1 w1 M1 μ1 r1 p1 e1
   cases e <;> first | exact absurd h (hne s') | exact this
 | cond c x y ihx ihy =>
  intro s s' e h
  simp only [yCode] at h
  split at h
  ·rename_i b hb
   refine fun M μ a w hR Q hQ => wp_cond (t := b) ?_ ?_
   ·have := evA_rep hR c
    rw [hb] at this
    exact this.scv
   ·cases b with
    | true => exact ihx h M μ a w hR Q hQ
    | false => exact ihy h M μ a w hR Q hQ
  ·cases h
 | block id c ih =>
  intro s s' e h
  simp only [yCode] at h
  split at h
  ·rename_i e1 s1 h1
   cases h
   refine fun M μ a w hR Q hQ => wp_block (ih h1 M μ a w hR _ fun a1 w1 M1 μ1 q1 p1 v1 => ?_)
   have := hQ a1 w1 M1 μ1 q1 p1 v1
   unfold blkX at this
   split at this
   ·rename_i id'
    simp only [Exit.inBlock]
    cases hb : Nat.beq id' id with
    | true => rw [hb] at this; rw [if_pos (Nat.eq_of_beq_eq_true hb)]; exact this
    | false =>
     rw [hb] at this
     rw [if_neg (fun e => by rw [e] at hb; simp at hb)]
     exact this
   ·rename_i hne
    cases e1 with
    | exit id' => exact absurd rfl (hne id')
    | _ => exact this
  ·cases h
 | loop c ih =>
  intro s s' e h
  simp only [yCode] at h
  refine Lp.sound ?_
  have key : ∀ (n : Nat) (s : YS), yLoop n (yCode P cal N rounds c) s = some (e, s') → Lp P N m c s.a e s'.a := by
   intro n
   induction n with
   | zero => intro s h; cases h
   | succ n ihn =>
    intro s h
    simp only [yLoop] at h
    split at h
    ·rename_i s1 h1
     exact .more (ih h1) (ihn s1 h)
    ·rename_i hne
     refine .stop (ih h) fun he => ?_
     subst he
     exact hne s' h
  exact key rounds s h
 | exit id =>
  intro s s' e h
  simp only [yCode, Option.some.injEq, Prod.mk.injEq] at h; obtain ⟨rfl, rfl⟩ := h
  exact fun M μ a w hR Q hQ => wp_exit (hQ a w M μ hR (.refl ..) (.refl m μ))
 | ret =>
  intro s s' e h
  simp only [yCode, Option.some.injEq, Prod.mk.injEq] at h; obtain ⟨rfl, rfl⟩ := h
  exact fun M μ a w hR Q hQ => wp_ret (hQ a w M μ hR (.refl ..) (.refl m μ))
 | label l =>
  intro s s' e h
  simp only [yCode, Option.some.injEq, Prod.mk.injEq] at h; obtain ⟨rfl, rfl⟩ := h
  exact fun M μ a w hR Q hQ => wp_label (hQ a w M μ hR (.refl ..) (.refl m μ))
 | rangeFunc => intro s s' e h; simp only [yCode] at h; cases h
 | scope => intro s s' e h; simp only [yCode] at h; cases h
 | goto => intro s s' e h; simp only [yCode] at h; cases h
 | refuse => intro s s' e h; simp only [yCode] at h; cases h
def fOf (P : Program) (g : FuncId) : Option (Func × Code) :=
 match P.funcs[g]? with
 | some fn => match fn.body with
  | some c => bif fn.name == "runtime.NumGoroutine" then none else some (fn, c)
  | none => none
 | none => none
def hintOf (H : List (FuncId × List Wk)) (g : FuncId) : List Wk :=
 match H with
 | [] => []
 | (k, w) :: r => bif Nat.beq k g then w else hintOf r g
noncomputable def yFun (P : Program) (H : List (FuncId × List Wk)) (rounds : Nat) : Nat → Cal
 | 0 => fun _ _ _ => none
 | n + 1 => fun g args σ => match fOf P g with
  | some (fn, c) => Tr.args args (Tr.full 9) 0 fun tr =>
    match yCode P (yFun P H rounds n) (args.length + (fn.ntmps - args.length)) rounds c ⟨tr, σ⟩ with
    | some (e, s) => match evFin P σ.length fn (hintOf H g ++ finX P σ.length fn s.a) [] ⟨e, s.a, [], []⟩ with
     | some (r, σ', _) => hA 8 r fun r => fL gO σ' fun σ' => some (r, σ')
     | none => none
    | none => none
  | none => none
theorem Tr.args_spec {β : Type} : ∀ (as : List AV) (t : Tr) (i : Nat) (k : Tr → Option β) (x : β), Tr.args as t i k = some x → ∃ t', k t' = some x ∧ ∀ j, t'.get j = if i ≤ j ∧ j < i + as.length then as.getD (j - i) .any else t.get j
 | [], t, i, k, x, h => ⟨t, h, fun j => by rw [if_neg (by simp)]⟩
 | a :: as, t, i, k, x, h => by
  obtain ⟨t1, h1, h2⟩ := Tr.put_spec t i a _ x h
  obtain ⟨t2, h3, h4⟩ := Tr.args_spec as t1 (i + 1) k x h1
  refine ⟨t2, h3, fun j => ?_⟩
  rw [h4, h2]
  simp only [putT]
  cases hb : Nat.beq j i with
  | true =>
   have := Nat.eq_of_beq_eq_true hb
   subst this
   rw [if_neg (by omega), if_pos (by simp)]
   simp
  | false =>
   have hne : j ≠ i := fun e => by rw [e] at hb; simp at hb
   by_cases hj : i + 1 ≤ j ∧ j < i + 1 + as.length
   ·rw [if_pos hj, if_pos (by simp; omega)]
    rw [show j - i = (j - (i + 1)) + 1 by omega]
    simp
   ·rw [if_neg hj, if_neg (by simp; omega)]
    rfl
theorem Tr.full_get : ∀ (d j : Nat), (Tr.full d).get j = .sc undef ∨ (Tr.full d).get j = .any
 | 0, j => .inr rfl
 | d + 1, j => by
  have e : (Tr.full (d + 1)).get j = bif Nat.beq j 0 then .sc undef else bif Nat.beq (Nat.mod j 2) 1 then (Tr.full d).get (Nat.div j 2) else (Tr.full d).get (Nat.pred (Nat.div j 2)) := rfl
  rw [e]
  cases Nat.beq j 0 with
  | true => exact .inl rfl
  | false =>
   cases Nat.beq (Nat.mod j 2) 1 with
   | true => exact Tr.full_get d _
   | false => exact Tr.full_get d _
theorem yFun_sound {P : Program} {H : List (FuncId × List Wk)} {rounds : Nat} : ∀ n, CalOk P (yFun P H rounds n)
 | 0 => fun g as σ r σ' h => by cases h
 | n + 1 => fun g args σ r σ' h => by
  simp only [yFun] at h
  split at h
  ·rename_i fn c hfc
   unfold fOf at hfc
   split at hfc
   ·rename_i fn' hf
    split at hfc
    ·rename_i c' hb
     simp only [cond_eq_ite, Option.ite_none_left_eq_some, Option.some.injEq, Prod.mk.injEq, Bool.not_eq_true] at hfc
     obtain ⟨hn, rfl, rfl⟩ := hfc
     obtain ⟨tr, h, htr⟩ := Tr.args_spec _ _ _ _ _ h
     split at h
     ·rename_i e s hc
      split at h
      ·rename_i r1 σ1 ob1 he
       rw [hA_eq, fL_eq gO_eq] at h
       cases h
       refine Fn.ofT hf hb hn _ _ (T.pre ?_ (yCode_sound (yFun_sound n) hc)) he
       refine fun M μ a w hR => ⟨M, μ, ⟨hR.size, hR.defers, fun t => ?_, hR.st⟩, .refl .., .refl _ _⟩
       have ht := hR.tm t
       show RepV M μ (tr.get t) _
       rw [htr]
       by_cases h1 : t < args.length
       ·rw [if_pos (by omega)]
        simp only [argT] at ht
        rw [List.getElem?_eq_getElem h1] at ht
        simpa [List.getD_eq_getElem?_getD, List.getElem?_eq_getElem h1] using ht
       ·rw [if_neg (by omega)]
        simp only [argT, List.getElem?_eq_none (Nat.le_of_not_lt h1)] at ht
        rcases Tr.full_get 9 t with h2 | h2
        ·rw [h2]; exact ht
        ·rw [h2]; exact .any
      ·cases h
     ·cases h
    ·cases hfc
   ·cases hfc
  ·cases h
theorem closed2 {P : Program} {f : FuncId} {args : List AV} {σ σ' : List AObj} {r : AV} (H : List (FuncId × List Wk)) (rounds n : Nat) (h : yFun P H rounds n f args σ = some (r, σ')) : SoundCall P f args σ r σ' := yFun_sound n _ _ _ _ _ h
end Go.Ae

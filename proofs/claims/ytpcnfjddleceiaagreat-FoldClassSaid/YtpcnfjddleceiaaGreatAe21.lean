/- The abstract executor, part 21: closed calls: it finds by itself what it is told of an operation. -/
import Derived.Test.YtpcnfjddleceiaaGreatAe20
namespace Go.Ae

/-! ### values are rebuilt of constructors alone -/
section
universe u
variable {α : Type u}

def fNat (n : Nat) (k : Nat → α) : α :=
  match n with
  | 0 => k 0
  | n + 1 => k (Nat.succ n)
@[simp] theorem fNat_eq (n : Nat) (k : Nat → α) : fNat n k = k n := by cases n <;> rfl

def fInt (i : Int) (k : Int → α) : α :=
  match i with
  | .ofNat n => fNat n fun n => k (.ofNat n)
  | .negSucc n => fNat n fun n => k (.negSucc n)
@[simp] theorem fInt_eq (n : Int) (k : Int → α) : fInt n k = k n := by cases n <;> simp [fInt]

def fBool (b : Bool) (k : Bool → α) : α :=
  match b with
  | true => k true
  | false => k false
@[simp] theorem fBool_eq (b : Bool) (k : Bool → α) : fBool b k = k b := by cases b <;> rfl

def fL {β : Type} (f : β → (β → α) → α) : List β → (List β → α) → α
  | [], k => k []
  | b :: bs, k => f b fun b => fL f bs fun bs => k (b :: bs)
theorem fL_eq {β : Type} {f : β → (β → α) → α} (hf : ∀ b k, f b k = k b) : ∀ (l : List β) (k : List β → α), fL f l k = k l
  | [], k => rfl
  | b :: bs, k => by simp only [fL]; rw [hf, fL_eq hf bs]

def fByte (c : UInt8) (k : UInt8 → α) : α := fNat c.toNat fun n => k (UInt8.ofNat n)
theorem fByte_eq (c : UInt8) (k : UInt8 → α) : fByte c k = k c := by simp [fByte]

def fStr (s : ByteArray) (k : ByteArray → α) : α :=
  match s with
  | ⟨⟨l⟩⟩ => fL fByte l fun l => k ⟨⟨l⟩⟩
@[simp] theorem fStr_eq (s : ByteArray) (k : ByteArray → α) : fStr s k = k s := by
  obtain ⟨⟨l⟩⟩ := s
  simp only [fStr]
  rw [fL_eq fByte_eq]

def fVal (v : Value) (k : Value → α) : α :=
  match v with
  | .int t n => fInt n fun n => k (.int t n)
  | .bool b => fBool b fun b => k (.bool b)
  | .string s => fStr s fun s => k (.string s)
  | v => k v
@[simp] theorem fVal_eq (v : Value) (k : Value → α) : fVal v k = k v := by cases v <;> simp [fVal]

def fA : Nat → AV → (AV → α) → α
  | 0, a, k => k a
  | n + 1, a, k => match a with
    | .sc v => fVal v fun v => k (.sc v)
    | .any => k .any
    | .nil => k .nil
    | .sl sz xs f => fNat sz fun sz => fL (fL (fA n)) xs fun xs => fBool f fun f => k (.sl sz xs f)
    | .ip cs off => fL (fA n) cs fun cs => fNat off fun off => k (.ip cs off)
    | .lp l off => fNat l fun l => fNat off fun off => k (.lp l off)
    | .le l g i off => fNat l fun l => fNat g fun g => fNat i fun i => fNat off fun off => k (.le l g i off)
    | .la l g => fNat l fun l => fNat g fun g => k (.la l g)
    | .mp l => fNat l fun l => k (.mp l)
    | .fn f cs => fNat f fun f => fL (fA n) cs fun cs => k (.fn f cs)
    | .ifc t x => fNat t fun t => fA n x fun x => k (.ifc t x)
    | .agg cs => fL (fA n) cs fun cs => k (.agg cs)
    | .tup cs => fL (fA n) cs fun cs => k (.tup cs)
theorem fA_eq : ∀ (n : Nat) (a : AV) (k : AV → α), fA n a k = k a
  | 0, a, k => rfl
  | n + 1, a, k => by
    have h1 : ∀ (l : List AV) (k : List AV → α), fL (fA n) l k = k l := fL_eq (fA_eq n)
    have h2 : ∀ (l : List (List AV)) (k : List (List AV) → α), fL (fL (fA n)) l k = k l := fL_eq h1
    cases a <;> simp [fA, h1, h2, fA_eq n]

def fO (o : AObj) (k : AObj → α) : α :=
  match o with
  | .gone => k .gone
  | .cells cs ro => fL (fA 40) cs fun cs => fL fNat ro fun ro => k (.cells cs ro)
  | .arr g sz rows => fNat g fun g => fNat sz fun sz => fL (fL (fA 40)) rows fun rows => k (.arr g sz rows)
  | .map es => fL (fun p k => fStr p.1 fun s => fA 40 p.2 fun a => k (s, a)) es fun es => k (.map es)
@[simp] theorem fO_eq (o : AObj) (k : AObj → α) : fO o k = k o := by
  have h1 : ∀ (l : List AV) (k : List AV → α), fL (fA 40) l k = k l := fL_eq (fA_eq 40)
  have h2 : ∀ (l : List (List AV)) (k : List (List AV) → α), fL (fL (fA 40)) l k = k l := fL_eq h1
  have h3 : ∀ (l : List Nat) (k : List Nat → α), fL fNat l k = k l := fL_eq fNat_eq
  have h4 : ∀ (l : List (ByteArray × AV)) (k : List (ByteArray × AV) → α), fL (fun p k => fStr p.1 fun s => fA 40 p.2 fun a => k (s, a)) l k = k l := fL_eq fun b k => by
    simp [fA_eq]
  cases o <;> simp only [fO, h1, h2, h3, h4, fNat_eq]

/-- An object, or another one in its place. -/
def fSet : List AObj → Nat → AObj → (List AObj → α) → α
  | [], _, _, k => k []
  | _ :: os, 0, x, k => k (x :: os)
  | o :: os, i + 1, x, k => fSet os i x fun os => k (o :: os)
theorem fSet_eq : ∀ (l : List AObj) (i : Nat) (x : AObj) (k : List AObj → α), fSet l i x k = k (l.set i x)
  | [], _, _, _ => rfl
  | _ :: _, 0, _, _ => rfl
  | o :: os, i + 1, x, k => by simp [fSet, fSet_eq os]

def fWr : List AObj → List (Nat × AObj) → (List AObj → α) → α
  | st, [], k => k st
  | st, (l, o) :: r, k => fNat l fun l => fO o fun o => fSet st l o fun st => fWr st r k
theorem fWr_eq : ∀ (st : List AObj) (wr : List (Nat × AObj)) (k : List AObj → α), fWr st wr k = k (applyWr st wr)
  | st, [], k => rfl
  | st, (l, o) :: r, k => by simp only [fWr, fNat_eq, fO_eq, fSet_eq]; rw [fWr_eq _ r]; rfl

def fPut : List AV → Nat → AV → (List AV → α) → α
  | [], _, _, k => k []
  | _ :: os, 0, x, k => k (x :: os)
  | o :: os, i + 1, x, k => fPut os i x fun os => k (o :: os)
theorem fPut_eq : ∀ (l : List AV) (i : Nat) (x : AV) (k : List AV → α), fPut l i x k = k (l.set i x)
  | [], _, _, _ => rfl
  | _ :: _, 0, _, _ => rfl
  | o :: os, i + 1, x, k => by simp [fPut, fPut_eq os]

def fApp : List AObj → Nat → (List AObj → α) → α
  | [], n, k => k (List.replicate n .gone)
  | o :: os, n, k => fApp os n fun os => k (o :: os)
theorem fApp_eq : ∀ (l : List AObj) (n : Nat) (k : List AObj → α), fApp l n k = k (l ++ List.replicate n .gone)
  | [], _, _ => rfl
  | o :: os, n, k => by simp [fApp, fApp_eq os]
end

/-! ### what it is told of an operation -/
def lenX (look : Nat → AObj) : AV → Nat
  | .sl _ xs _ => xs.length
  | .la l _ => match look l with
    | .arr _ _ rows => rows.length
    | _ => 0
  | _ => 0

/-- What it is told, and whether what is owed is so. -/
def entX (P : Program) (ρ : Operand → AV) (look : Nat → AObj) (o : Oper) : Option Ent :=
  match o.op with
  | .binOp .add _ x y _ => match ρ x with
    | .sc (.string a) => match ρ y with
      | .sc (.string b) => if a.size + b.size ≤ 9223372036854775807 then some .no else none
      | _ => none
    | _ => some .no
  | .binOp .quo _ _ y _ => match ρ y with
    | .sc (.int _ b) => if b = 0 then none else some .no
    | _ => none
  | .binOp .rem _ _ y _ => match ρ y with
    | .sc (.int _ b) => if b = 0 then none else some .no
    | _ => none
  | .indexAddr _ x i => match ρ i with
    | .sc (.int _ (.ofNat k)) => match ρ x with
      | .sl _ xs _ => match xs[k]? with
        | some cs => some (.row k cs)
        | none => none
      | .la l _ => match look l with
        | .arr _ _ rows => bif Nat.blt k rows.length then some (.nat k) else none
        | _ => none
      | _ => none
    | _ => none
  | .index _ x i => match ρ i with
    | .sc (.int _ (.ofNat k)) => match ρ x with
      | .sc (.string s) => match s[k]? with
        | some c => some (.byte k c)
        | none => none
      | _ => none
    | _ => none
  | .load _ x => match ρ x with
    | .le l _ i _ => match look l with
      | .arr _ _ rows => match rows[i]? with
        | some cs => some (.row i cs)
        | none => none
      | _ => none
    | _ => some .no
  | .store _ x _ => match ρ x with
    | .le l _ i _ => match look l with
      | .arr _ _ rows => match rows[i]? with
        | some cs => some (.row i cs)
        | none => none
      | _ => none
    | _ => some .no
  | .makeSlice t l c => match P.underlying t with
    | some (.slice e) => match P.info? e with
      | some i => match ρ l with
        | .sc (.int _ (.ofNat k)) => match ρ c with
          | .sc (.int _ m) => if (k : Int) ≤ m ∧ m * i.bytes ≤ 281474976710656 then some (.nat k) else none
          | _ => none
        | _ => none
      | none => none
    | _ => none
  | .lookup _ m k _ => match ρ m with
    | .mp l => match look l with
      | .map es => match ρ k with
        | .sc (.string s) => some (.look (findM s es))
        | _ => none
      | _ => none
    | _ => none
  | .mapUpdate _ m k _ => match ρ m with
    | .mp l => match look l with
      | .map es => match ρ k with
        | .sc (.string s) => match findM s es with
          | none => some (.look none)
          | some _ => none
        | _ => none
      | _ => none
    | _ => none
  | .slice _ x lo hi mx => match bndA ρ lo, bndA ρ hi, bndA ρ mx with
    | some l, some h, some m => match ρ x with
      | .sc (.string s) => if 0 ≤ l.getD 0 ∧ l.getD 0 ≤ h.getD s.size ∧ h.getD s.size ≤ s.size then some .no else none
      | .sl _ xs _ => if 0 ≤ l.getD 0 ∧ l.getD 0 ≤ h.getD xs.length ∧ h.getD xs.length ≤ xs.length ∧ m.getD (h.getD 0) = h.getD 0 then some .no else none
      | .la lb _ => match look lb with
        | .arr _ _ rows => match h with
          | some hv => if 0 ≤ hv ∧ hv ≤ rows.length then some .no else none
          | none => none
        | _ => none
      | _ => none
    | _, _, _ => none
  | .call c => match c.callee with
    | .builtin .append => match c.args.toList with
      | [x, y] => match c.argTypes.toList with
        | [t, _] => match P.underlying t with
          | some (.slice e) => match P.info? e with
            | some i => bif Nat.ble ((lenX look (ρ x) + lenX look (ρ y)) * i.bytes) 140737488355328 then (match ρ x with
              | .nil => some .loc
              | .sl _ [] true => some .loc
              | .sl _ _ true => bif Nat.beq (lenX look (ρ y)) 0 then some .no else some .loc
              | _ => some .no) else none
            | none => none
          | _ => none
        | _ => none
      | _ => none
    | _ => some .no
  | _ => some .no

def plainE : Ent → Bool
  | .bit _ => false
  | .int _ => false
  | .str _ => false
  | .rows _ => false
  | .call .. => false
  | _ => true

theorem adj_plain {en : Ent} (h : plainE en = true) (res : Res) : res.adj en = res := by
  cases en <;> first | rfl | cases h

theorem entX_plain {P : Program} {ρ : Operand → AV} {look : Nat → AObj} {o : Oper} {en : Ent} (h : entX P ρ look o = some en) : plainE en = true := by
  unfold entX at h
  simp only [cond_eq_ite] at h
  repeat' split at h
  all_goals first
    | (cases h; rfl)
    | (cases h; done)


theorem nob_pick {c a b : AV} {r : Res} (h : pickA c a b = some r) : r.ob = [] := by
  unfold pickA at h
  try simp only [cond_eq_ite, Option.map_eq_some_iff, Option.bind_eq_some_iff] at h
  repeat' split at h
  all_goals first | (cases h; rfl) | (cases h; done) | (obtain ⟨_, _, rfl⟩ := h; rfl) | (obtain ⟨_, _, rfl⟩ := Option.map_eq_some_iff.1 h; rfl)

theorem nob_alloc {P : Program} {slot : Nat} {t : TypeId} {r : Res} (h : allocA P slot t = some r) : r.ob = [] := by
  unfold allocA at h
  try simp only [cond_eq_ite, Option.map_eq_some_iff, Option.bind_eq_some_iff] at h
  repeat' split at h
  all_goals first | (cases h; rfl) | (cases h; done) | (obtain ⟨_, _, rfl⟩ := h; rfl) | (obtain ⟨_, _, rfl⟩ := Option.map_eq_some_iff.1 h; rfl)

theorem nob_box {slot : Nat} {x : AV} {r : Res} (h : boxA slot x = some r) : r.ob = [] := by
  unfold boxA at h
  try simp only [cond_eq_ite, Option.map_eq_some_iff, Option.bind_eq_some_iff] at h
  repeat' split at h
  all_goals first | (cases h; rfl) | (cases h; done) | (obtain ⟨_, _, rfl⟩ := h; rfl) | (obtain ⟨_, _, rfl⟩ := Option.map_eq_some_iff.1 h; rfl)

theorem nob_build {P : Program} {t : TypeId} {ps : List (Nat × AV)} {r : Res} (h : buildA P t ps = some r) : r.ob = [] := by
  unfold buildA at h
  try simp only [cond_eq_ite, Option.map_eq_some_iff, Option.bind_eq_some_iff] at h
  repeat' split at h
  all_goals first | (cases h; rfl) | (cases h; done) | (obtain ⟨_, _, rfl⟩ := h; rfl) | (obtain ⟨_, _, rfl⟩ := Option.map_eq_some_iff.1 h; rfl)

theorem nob_buildSlice {P : Program} {slot : Nat} {en : Ent} {t : TypeId} {n : Nat} {ps : List (Nat × AV)} {r : Res} (h : buildSliceA P slot en t n ps = some r) : r.ob = [] := by
  unfold buildSliceA at h
  simp only [cond_eq_ite] at h
  repeat' split at h
  all_goals first | (cases h; done) | skip
  all_goals
    obtain ⟨cs, _, h⟩ := Option.bind_eq_some_iff.1 h
    repeat' split at h
    all_goals first | (cases h; rfl) | (cases h; done)
theorem nob_nilCheck {look : Nat → AObj} {x : AV} {r : Res} (h : nilCheckA look x = some r) : r.ob = [] := by
  unfold nilCheckA at h
  try simp only [cond_eq_ite, Option.map_eq_some_iff, Option.bind_eq_some_iff] at h
  repeat' split at h
  all_goals first | (cases h; rfl) | (cases h; done) | (obtain ⟨_, _, rfl⟩ := h; rfl) | (obtain ⟨_, _, rfl⟩ := Option.map_eq_some_iff.1 h; rfl)

theorem nob_ptrOp {P : Program} {op : BinOp} {t : TypeId} {x y : AV} {r : Res} (h : ptrOpA P op t x y = some r) : r.ob = [] := by
  unfold ptrOpA at h
  try simp only [cond_eq_ite, Option.map_eq_some_iff, Option.bind_eq_some_iff] at h
  repeat' split at h
  all_goals first | (cases h; rfl) | (cases h; done) | (obtain ⟨_, _, rfl⟩ := h; rfl) | (obtain ⟨_, _, rfl⟩ := Option.map_eq_some_iff.1 h; rfl)

theorem nob_boolOp {P : Program} {op : BinOp} {t : TypeId} {a b : Bool} {r : Res} (h : boolOpA P op t a b = some r) : r.ob = [] := by
  unfold boolOpA at h
  try simp only [cond_eq_ite, Option.map_eq_some_iff, Option.bind_eq_some_iff] at h
  repeat' split at h
  all_goals first | (cases h; rfl) | (cases h; done) | (obtain ⟨_, _, rfl⟩ := h; rfl) | (obtain ⟨_, _, rfl⟩ := Option.map_eq_some_iff.1 h; rfl)

theorem nob_unOp {op : UnOp} {x : AV} {r : Res} (h : unOpA op x = some r) : r.ob = [] := by
  unfold unOpA at h
  try simp only [cond_eq_ite, Option.map_eq_some_iff, Option.bind_eq_some_iff] at h
  repeat' split at h
  all_goals first | (cases h; rfl) | (cases h; done) | (obtain ⟨_, _, rfl⟩ := h; rfl) | (obtain ⟨_, _, rfl⟩ := Option.map_eq_some_iff.1 h; rfl)

theorem nob_convert {P : Program} {s d : TypeId} {x : AV} {r : Res} (h : convertA P s d x = some r) : r.ob = [] := by
  unfold convertA at h
  try simp only [cond_eq_ite, Option.map_eq_some_iff, Option.bind_eq_some_iff] at h
  repeat' split at h
  all_goals first | (cases h; rfl) | (cases h; done) | (obtain ⟨_, _, rfl⟩ := h; rfl) | (obtain ⟨_, _, rfl⟩ := Option.map_eq_some_iff.1 h; rfl)

theorem nob_fieldAddr {P : Program} {look : Nat → AObj} {s : TypeId} {x : AV} {f : Nat} {r : Res} (h : fieldAddrA P look s x f = some r) : r.ob = [] := by
  unfold fieldAddrA at h
  try simp only [cond_eq_ite, Option.map_eq_some_iff, Option.bind_eq_some_iff] at h
  repeat' split at h
  all_goals first | (cases h; rfl) | (cases h; done) | (obtain ⟨_, _, rfl⟩ := h; rfl) | (obtain ⟨_, _, rfl⟩ := Option.map_eq_some_iff.1 h; rfl)

theorem nob_field {P : Program} {s : TypeId} {x : AV} {f : Nat} {r : Res} (h : fieldA P s x f = some r) : r.ob = [] := by
  unfold fieldA at h
  try simp only [cond_eq_ite, Option.map_eq_some_iff, Option.bind_eq_some_iff] at h
  repeat' split at h
  all_goals first | (cases h; rfl) | (cases h; done) | (obtain ⟨_, _, rfl⟩ := h; rfl) | (obtain ⟨_, _, rfl⟩ := Option.map_eq_some_iff.1 h; rfl)

theorem nob_extract {x : AV} {i : Nat} {r : Res} (h : extractA x i = some r) : r.ob = [] := by
  unfold extractA at h
  try simp only [cond_eq_ite, Option.map_eq_some_iff, Option.bind_eq_some_iff] at h
  repeat' split at h
  all_goals first | (cases h; rfl) | (cases h; done) | (obtain ⟨_, _, rfl⟩ := h; rfl) | (obtain ⟨_, _, rfl⟩ := Option.map_eq_some_iff.1 h; rfl)

theorem nob_ifc {P : Program} {t : TypeId} {x : AV} {r : Res} (h : ifcA P t x = some r) : r.ob = [] := by
  unfold ifcA at h
  try simp only [cond_eq_ite, Option.map_eq_some_iff, Option.bind_eq_some_iff] at h
  repeat' split at h
  all_goals first | (cases h; rfl) | (cases h; done) | (obtain ⟨_, _, rfl⟩ := h; rfl) | (obtain ⟨_, _, rfl⟩ := Option.map_eq_some_iff.1 h; rfl)

theorem nob_fn {fn : Fn} {first : Array Operand} {caps : List AV} {r : Res} (h : fnA fn first caps = some r) : r.ob = [] := by
  unfold fnA at h
  try simp only [cond_eq_ite, Option.map_eq_some_iff, Option.bind_eq_some_iff] at h
  repeat' split at h
  all_goals first | (cases h; rfl) | (cases h; done) | (obtain ⟨_, _, rfl⟩ := h; rfl) | (obtain ⟨_, _, rfl⟩ := Option.map_eq_some_iff.1 h; rfl)

theorem nob_makeMap {slot : Nat} {r : Res} (h : makeMapA slot = some r) : r.ob = [] := by
  unfold makeMapA at h
  try simp only [cond_eq_ite, Option.map_eq_some_iff, Option.bind_eq_some_iff] at h
  repeat' split at h
  all_goals first | (cases h; rfl) | (cases h; done) | (obtain ⟨_, _, rfl⟩ := h; rfl) | (obtain ⟨_, _, rfl⟩ := Option.map_eq_some_iff.1 h; rfl)

theorem nob_len {P : Program} {look : Nat → AObj} {t : TypeId} {x : AV} {r : Res} (h : lenA P look t x = some r) : r.ob = [] := by
  unfold lenA at h
  try simp only [cond_eq_ite, Option.map_eq_some_iff, Option.bind_eq_some_iff] at h
  repeat' split at h
  all_goals first | (cases h; rfl) | (cases h; done) | (obtain ⟨_, _, rfl⟩ := h; rfl) | (obtain ⟨_, _, rfl⟩ := Option.map_eq_some_iff.1 h; rfl)

theorem nob_max {x y : AV} {r : Res} (h : maxA x y = some r) : r.ob = [] := by
  unfold maxA at h
  try simp only [cond_eq_ite, Option.map_eq_some_iff, Option.bind_eq_some_iff] at h
  repeat' split at h
  all_goals first | (cases h; rfl) | (cases h; done) | (obtain ⟨_, _, rfl⟩ := h; rfl) | (obtain ⟨_, _, rfl⟩ := Option.map_eq_some_iff.1 h; rfl)

theorem nob_clear {P : Program} {look : Nat → AObj} {t : TypeId} {x : AV} {r : Res} (h : clearA P look t x = some r) : r.ob = [] := by
  unfold clearA at h
  try simp only [cond_eq_ite, Option.map_eq_some_iff, Option.bind_eq_some_iff] at h
  repeat' split at h
  all_goals first | (cases h; rfl) | (cases h; done) | (obtain ⟨_, _, rfl⟩ := h; rfl) | (obtain ⟨_, _, rfl⟩ := Option.map_eq_some_iff.1 h; rfl)

theorem ob_of {r : Res} (h : r.ob = []) : AllP r.ob := by rw [h]; exact ob0

theorem entX_ob {P : Program} {slot : Nat} {ρ : Operand → AV} {look : Nat → AObj} {o : Oper} {en : Ent} {res : Res} (h : entX P ρ look o = some en) (h2 : core P slot ρ look en o = some res) : AllP res.ob := by
  unfold core at h2
  unfold entX at h
  generalize o.op = op at h h2
  cases op with
  | move => cases h2; exact ob0
  | assign => cases h2; exact ob0
  | pick => exact ob_of (nob_pick h2)
  | alloc => exact ob_of (nob_alloc h2)
  | box => exact ob_of (nob_box h2)
  | build => exact ob_of (nob_build h2)
  | buildSlice => exact ob_of (nob_buildSlice h2)
  | nilCheck => exact ob_of (nob_nilCheck h2)
  | unOp => exact ob_of (nob_unOp h2)
  | convert => exact ob_of (nob_convert h2)
  | fieldAddr => exact ob_of (nob_fieldAddr h2)
  | field => exact ob_of (nob_field h2)
  | extract => exact ob_of (nob_extract h2)
  | makeInterface => exact ob_of (nob_ifc h2)
  | makeFunc => exact ob_of (nob_fn h2)
  | makeMap t r => cases r with
    | none => exact ob_of (nob_makeMap h2)
    | some _ => cases h2
  | load t x =>
    simp only [loadA] at h2
    simp only at h
    split at h2
    · exact ob_of (by obtain ⟨_, _, rfl⟩ := Option.map_eq_some_iff.1 h2; rfl)
    · split at h2
      · exact ob_of (by obtain ⟨_, _, rfl⟩ := Option.map_eq_some_iff.1 h2; rfl)
      · cases h2
    · rename_i l g i off e
      split at h2
      · rename_i c sz rows hl
        simp only [e, hl] at h
        split at h
        · rename_i cs hcs
          cases h
          simp only [cond_eq_ite] at h2
          split at h2
          · obtain ⟨_, _, rfl⟩ := Option.map_eq_some_iff.1 h2
            exact ob1 hcs ob0
          · cases h2
        · cases h
      · cases h2
    · cases h2
  | store t x y =>
    simp only [storeA] at h2
    simp only at h
    split at h2
    · split at h2
      · split at h2
        · simp only [cond_eq_ite] at h2
          split at h2
          · cases h2; exact ob0
          · cases h2
        · cases h2
      · rename_i l g i off e
        split at h2
        · rename_i c sz rows hl
          simp only [e, hl] at h
          split at h
          · rename_i cs hcs
            cases h
            simp only [cond_eq_ite] at h2
            split at h2
            · cases h2
              exact ob1 hcs ob0
            · cases h2
          · cases h
        · cases h2
      · cases h2
    · cases h2
  | binOp op t x y z =>
    have kp : ∀ {u v}, ptrOpA P op t u v = some res → AllP res.ob := fun h => ob_of (nob_ptrOp h)
    simp only [binOpA] at h2
    split at h2
    · rename_i u hu
      split at h2
      · rename_i v hv
        simp only [scOpA] at h2
        split at h2
        · rename_i k a
          split at h2
          · rename_i k' b
            simp only [cond_eq_ite] at h2
            split at h2
            · cases op <;> simp only [intOpA] at h2 <;> first | (cases h2; exact ob0) | (cases h2; done) | skip
              all_goals
                simp only [hv] at h
                split at h
                · cases h
                · rename_i hb
                  cases h2
                  exact ob1 hb ob0
            · cases h2
          · cases h2
        · rename_i a
          split at h2
          · rename_i b
            cases op <;> simp only [strOpA] at h2 <;> first | (cases h2; exact ob0) | (cases h2; done) | skip
            simp only [hu, hv] at h
            split at h
            · rename_i hb
              cases h2
              exact ob1 hb ob0
            · cases h
          · cases h2
        · split at h2
          · exact ob_of (nob_boolOp h2)
          · cases h2
        · exact kp h2
      · exact kp h2
    · exact kp h2
  | indexAddr t x i =>
    simp only at h
    split at h
    · rename_i ik k hi
      simp only [indexAddrA, hi] at h2
      split at h
      · rename_i sz xs full hx
        split at h
        · rename_i cs hcs
          cases h
          simp only [hx, cond_eq_ite] at h2
          repeat' split at h2
          all_goals first | (cases h2; done) | skip
          cases h2
          simp_all [AllP]
        · cases h
      · rename_i l g hx
        split at h
        · rename_i c sz rows hl
          simp only [cond_eq_ite] at h
          split at h
          · rename_i hk
            cases h
            simp only [hx, hl, cond_eq_ite] at h2
            repeat' split at h2
            all_goals first | (cases h2; done) | skip
            cases h2
            have hk := Nat.le_of_ble_eq_true hk
            simp_all [AllP]
          · cases h
        · cases h
      · cases h
    · cases h
  | index t x i =>
    simp only at h
    split at h
    · rename_i ik k hi
      split at h
      · rename_i s hx
        split at h
        · rename_i c hc
          cases h
          simp only [indexA, hi, hx] at h2
          split at h2
          · cases h2
            exact ob1 rfl (ob1 hc ob0)
          · cases h2
        · cases h
      · cases h
    · cases h
  | slice t x lo hi mx =>
    simp only at h
    split at h
    · rename_i l hh m el eh em
      simp only [sliceA, el, eh, em] at h2
      split at h
      · rename_i s hx
        split at h
        · rename_i hb
          cases h
          simp only [hx] at h2
          repeat' split at h2
          all_goals first | (cases h2; done) | skip
          all_goals
            cases h2
            exact ob1 hb.1 (ob1 hb.2.1 (ob1 hb.2.2 ob0))
        · cases h
      · rename_i sz xs full hx
        split at h
        · rename_i hb
          cases h
          simp only [hx, cond_eq_ite] at h2
          repeat' split at h2
          all_goals first | (cases h2; done) | skip
          · cases h2
            exact ob1 hb.1 (ob1 hb.2.1 (ob1 hb.2.2.1 ob0))
          · cases h2
            exact ob1 hb.1 (ob1 hb.2.1 (ob1 hb.2.2.1 (ob1 hb.2.2.2 ob0)))
        · cases h
      · rename_i lb g hx
        split at h
        · rename_i c sz rows hlb
          split at h
          · rename_i hv
            split at h
            · rename_i hb
              cases h
              simp only [hx, hlb, cond_eq_ite] at h2
              repeat' split at h2
              all_goals first | (cases h2; done) | skip
              all_goals
                cases h2
                simp_all [cutObs, AllP]
            · cases h
          · cases h
        · cases h
      · cases h
    · cases h
  | makeSlice t l c =>
    simp only at h
    split at h
    · rename_i e he
      split at h
      · rename_i i hi
        split at h
        · rename_i ik k hl
          split at h
          · rename_i ik2 m hm
            split at h
            · rename_i hb
              cases h
              simp only [makeSliceA, he, hi, hl, hm, cond_eq_ite] at h2
              repeat' split at h2
              all_goals first | (cases h2; done) | skip
              all_goals
                cases h2
                simp_all [AllP]
            · cases h
          · cases h
        · cases h
      · cases h
    · cases h
  | lookup t m k ok =>
    simp only at h
    split at h
    · rename_i l hm
      split at h
      · rename_i es hl
        split at h
        · rename_i s hk
          cases h
          simp only [lookupA, hm, hl, hk] at h2
          repeat' split at h2
          all_goals first | (cases h2; done) | skip
          all_goals
            cases h2
            simp [AllP]
        · cases h
      · cases h
    · cases h
  | mapUpdate t m k x =>
    simp only at h
    split at h
    · rename_i l hm
      split at h
      · rename_i es hl
        split at h
        · rename_i s hk
          split at h
          · rename_i hf
            cases h
            simp only [mapUpdateA, hm, hl, hk, cond_eq_ite] at h2
            repeat' split at h2
            all_goals first | (cases h2; done) | skip
            all_goals
              cases h2
              exact ob1 hf ob0
          · cases h
        · cases h
      · cases h
    · cases h
  | call c =>
    simp only at h2
    split at h2
    · rename_i b hcb
      simp only [hcb] at h
      cases b <;> simp only at h2 <;> first | (cases h2; done) | skip
      case len =>
        repeat' split at h2
        all_goals first | (cases h2; done) | exact ob_of (nob_len h2)
      case max =>
        repeat' split at h2
        all_goals first | (cases h2; done) | exact ob_of (nob_max h2)
      case clear =>
        repeat' split at h2
        all_goals first | (cases h2; done) | exact ob_of (nob_clear h2)
      case append =>
        split at h2
        · rename_i x y ha
          split at h2
          · rename_i t t2 hat
            simp only [ha, hat] at h
            split at h
            · rename_i e he
              split at h
              · rename_i i hi
                simp only [cond_eq_ite] at h
                split at h
                · rename_i hn
                  have hn := Nat.le_of_ble_eq_true hn
                  have key : ∀ k, Fits (lenX look (ρ x) + lenX look (ρ y)) k i.bytes := fun k => Fits.of hn
                  simp only [appendA, he, hi, cond_eq_ite] at h2
                  have hy : ∀ {ys ac}, rowsA look i.size (ρ y) = some (ys, ac) → ys.length = lenX look (ρ y) := fun {ys ac} hr => by
                    unfold rowsA at hr
                    unfold lenX
                    simp only [cond_eq_ite] at hr
                    repeat' split at hr
                    all_goals first | (cases hr; done) | skip
                    all_goals
                      cases hr
                      simp_all
                  repeat' split at h2
                  all_goals first | (cases h2; done) | skip
                  all_goals
                    rename_i hr _ _ _ _
                    cases h2
                    simp_all [AllP, lenX]
                · cases h
              · cases h
            · cases h
          · cases h2
        · cases h2
    · cases h2
  | _ => cases h2

/-! ### one operation, a region -/
structure XS where
  tl : List AV
  st : List AObj

def XS.tm (s : XS) : Nat → AV := fun t => s.tl.getD t .any
def XS.a (s : XS) : ASt := ⟨s.tm, s.st⟩

abbrev Cal := FuncId → List AV → List AObj → Option (AV × List AObj)

def xEnt (P : Program) (K : Kinds) (cal : Cal) (ρ : Operand → AV) (look : Nat → AObj) (o : Oper) : Option Ent :=
  match funcCall o with
  | some c => match targetA P ρ c with
    | some (g, args) =>
      fL fNat (reach look 1000 [] (args.flatMap (idsV 6))) fun ids =>
      fL (fA 40) (tidyArgs K (paramsOf P g) (args.map (renV (renOf ids 0 look) 6))) fun as =>
      fL fO (newSt ids 0 look) fun σ =>
      match cal g as σ with
      | some (r, σ') => some (.call r σ')
      | none => none
    | none => none
  | none => entX P ρ look o

def xPut {α : Type} (tl : List AV) (d : Option Tmp) (r : AV) (k : List AV → α) : α :=
  match d with
  | some d => fPut tl d r k
  | none => k tl

def xStep (P : Program) (K : Kinds) (cal : Cal) (N base : Nat) (ops : Array Oper) (i : Nat) (s : XS) : Option (XS × Nat × List (Nat × Bool) × Nat) :=
  match ops[i]? with
  | none => none
  | some o => bif dstOk N o.dst && dstOk s.tl.length o.dst then (match wantedA ops s.tm o with
    | some true => match xEnt P K cal (evA s.a) (getO s.st) o with
      | some en => match effA P K (slotOf ops base i) (base + slotsOf ops) s.st.length (evA s.a) (getO s.st) en o with
        | some e => bif okE s.st.length e then
            fA 40 e.r fun r => fNat e.pad fun pad => fApp s.st pad fun st => fWr st e.wr fun st => xPut s.tl o.dst r fun tl => some (⟨tl, st⟩, i, e.ac, pad) else none
        | none => none
      | none => none
    | some false => xPut s.tl o.dst (.sc undef) fun tl => some (⟨tl, s.st⟩, i, [], 0)
    | none => none) else none

def xOps (P : Program) (K : Kinds) (cal : Cal) (N base : Nat) (ops : Array Oper) : List Nat → XS → Option (XS × Rec)
  | [], s => some (s, [])
  | i :: L, s => match xStep P K cal N base ops i s with
    | some (s1, x) => match xOps P K cal N base ops L s1 with
      | some (s2, rec) => some (s2, x :: rec)
      | none => none
    | none => none

def xReg (P : Program) (K : Kinds) (cal : Cal) (N : Nat) (ops : Array Oper) (draw : Bool) (s : XS) : Option XS :=
  fApp s.st (slotsOf ops) fun st0 => match xOps P K cal N s.st.length ops (List.range ops.size) ⟨s.tl, st0⟩ with
  | some (s', rec) => bif draw then (bif P.follows .mixedOrders && edgesOk ops && pairsOk ops (masks ops.toList []) rec then some s' else none) else some s'
  | none => none

section
variable {P : Program} {K : Kinds} {cal : Cal} {N base : Nat} {ops : Array Oper}

theorem getD_set_av (tl : List AV) (d : Nat) (r : AV) (h : d < tl.length) : (fun t => (tl.set d r).getD t .any) = putT (fun t => tl.getD t .any) d r := by
  funext t
  simp only [putT, List.getD_eq_getElem?_getD]
  cases hb : Nat.beq t d with
  | true => rw [Nat.eq_of_beq_eq_true hb, List.getElem?_set_self h]; rfl
  | false => rw [List.getElem?_set_ne (fun e => by rw [e] at hb; simp at hb)]; rfl

theorem xPut_eq {α : Type} (s : XS) (d : Option Tmp) (r : AV) (st : List AObj) (k : List AV → α) (h : dstOk s.tl.length d = true) :
    ∃ tl, xPut s.tl d r k = k tl ∧ XS.a ⟨tl, st⟩ = ⟨putO s.tm d r, st⟩ := by
  cases d with
  | none => exact ⟨s.tl, rfl, rfl⟩
  | some d =>
    refine ⟨s.tl.set d r, fPut_eq _ _ _ _, ?_⟩
    simp only [XS.a, putO, XS.tm]
    congr 1
    exact getD_set_av s.tl d r (Nat.le_of_ble_eq_true h)

/-- What the calls find is so. -/
def CalOk (P : Program) (cal : Cal) : Prop := ∀ g as σ r σ', cal g as σ = some (r, σ') → SoundCall P g as σ r σ'

theorem xEnt_ob (hcal : CalOk P cal) {ρ : Operand → AV} {look : Nat → AObj} {o : Oper} {en : Ent} {slot cap endS : Nat} {e : Eff} (h : xEnt P K cal ρ look o = some en) (he : effA P K slot cap endS ρ look en o = some e) : AllP e.ob := by
  unfold xEnt at h
  unfold effA at he
  split at h
  · rename_i c hc
    rw [hc] at he
    simp only [callA] at he
    split at h
    · rename_i g args ht
      rw [fL_eq fNat_eq, fL_eq (fA_eq 40), fL_eq fO_eq] at h
      split at h
      · rename_i r σ' hca
        cases h
        simp only [ht] at he
        unfold callB at he
        simp only [cond_eq_ite, Option.ite_none_right_eq_some, Option.some.injEq] at he
        rw [← he.2]
        exact ob1 (hcal _ _ _ _ _ hca) ob0
      · cases h
    · cases h
  · rename_i hc
    rw [hc] at he
    have hp := entX_plain h
    have key : ∀ more, coreE P slot ρ look en o more = some e → AllP e.ob := fun more hk => by
      unfold coreE at hk
      obtain ⟨res, h1, rfl⟩ := Option.map_eq_some_iff.1 hk
      simp only [adj_plain hp]
      exact entX_ob h h1
    simp only [cond_eq_ite] at he
    split at he
    · split at he
      · split at he
        · exact key _ he
        · cases he
      · cases he
    · exact key _ he

theorem xStep_spec (hcal : CalOk P cal) {i : Nat} {s s' : XS} {x : Nat × List (Nat × Bool) × Nat} (h : xStep P K cal N base ops i s = some (s', x)) :
    ∃ en, ∀ es, entOf es i = en → ∃ r, stepA P K N base ops es i s.a = some r ∧ AllP r.ob ∧ x = (i, r.ac, r.pad) ∧ r.s = s'.a := by
  unfold xStep at h
  split at h
  · cases h
  · rename_i o ho
    cases hd : (dstOk N o.dst && dstOk s.tl.length o.dst) with
    | false => rw [hd] at h; cases h
    | true =>
      rw [hd] at h
      simp only [cond_true] at h
      simp only [Bool.and_eq_true] at hd
      split at h
      · rename_i hw
        split at h
        · rename_i en hen
          split at h
          · rename_i e he
            cases hok : okE s.st.length e with
            | false => rw [hok] at h; cases h
            | true =>
              rw [hok] at h
              simp only [cond_true, fA_eq, fNat_eq, fApp_eq, fWr_eq] at h
              obtain ⟨tl, h1, h2⟩ := xPut_eq s o.dst e.r (applyWr (s.st ++ List.replicate e.pad AObj.gone) e.wr) (fun tl => some (XS.mk tl (applyWr (s.st ++ List.replicate e.pad AObj.gone) e.wr), i, e.ac, e.pad)) hd.2
              rw [h1] at h
              cases h
              refine ⟨en, fun es hes => ⟨⟨⟨putO s.tm o.dst e.r, applyE s.st e⟩, e.ac, e.pad, e.ob⟩, ?_, xEnt_ob hcal hen he, rfl, h2.symm⟩⟩
              unfold stepA
              simp only [ho, hd.1, cond_true]
              rw [show s.a.tm = s.tm from rfl, hw]
              simp only [hes]
              rw [show s.a.st = s.st from rfl, he]
              simp only [Option.bind_some, hok, cond_true]
          · cases h
        · cases h
      · rename_i hw
        obtain ⟨tl, h1, h2⟩ := xPut_eq s o.dst (.sc undef) s.st (fun tl => some (XS.mk tl s.st, i, ([] : List (Nat × Bool)), 0)) hd.2
        rw [h1] at h
        cases h
        refine ⟨.no, fun es hes => ⟨⟨⟨putO s.tm o.dst (.sc undef), s.st⟩, [], 0, []⟩, ?_, ob0, rfl, h2.symm⟩⟩
        unfold stepA
        simp only [ho, hd.1, cond_true]
        rw [show s.a.tm = s.tm from rfl, hw]
        rfl
      · cases h

theorem xOps_run (hcal : CalOk P cal) : ∀ {L : List Nat} {s s' : XS} {rec : Rec}, xOps P K cal N base ops L s = some (s', rec) →
    rec.map (·.1) = L ∧ ∃ ens : List Ent, ens.length = L.length ∧ ∀ es rc, (∀ (j : Nat) (i : Nat) (en : Ent), L[j]? = some i → ens[j]? = some en → entOf es i = en) → (∀ p ∈ rec, rc p.1 = p.2) → Run P K N base ops es rc L s.a s'.a
  | [], s, s', rec, h => by
    simp only [xOps, Option.some.injEq, Prod.mk.injEq] at h
    obtain ⟨rfl, rfl⟩ := h
    exact ⟨rfl, [], rfl, fun _ _ _ _ => .nil⟩
  | i :: L, s, s', rec, h => by
    simp only [xOps] at h
    split at h
    · rename_i s1 x h1
      split at h
      · rename_i s2 rec2 h2
        cases h
        obtain ⟨en, k1⟩ := xStep_spec hcal h1
        obtain ⟨k2, ens, k3, k4⟩ := xOps_run hcal h2
        have hx : x.1 = i := by
          obtain ⟨r, _, _, e, _⟩ := k1 [(i, en)] (by simp [entOf])
          rw [e]
        refine ⟨by simp [hx, k2], en :: ens, by simp [k3], fun es rc hes hrc => ?_⟩
        obtain ⟨r, q1, q2, q3, q4⟩ := k1 es (hes 0 i en rfl rfl)
        refine .cons r q1 q2 ?_ ?_
        · have := hrc x (by simp)
          rw [q3] at this
          exact this
        · rw [q4]
          exact k4 es rc (fun j i' en' e1 e2 => hes (j + 1) i' en' (by simpa using e1) (by simpa using e2)) (fun p hp => hrc p (by simp [hp]))
      · cases h
    · cases h

theorem entOf_zip : ∀ (L : List Nat) (ens : List Ent), L.Nodup → ∀ (j i : Nat) (en : Ent), L[j]? = some i → ens[j]? = some en → entOf (L.zip ens) i = en
  | [], _, _, j, i, en, h, _ => by simp at h
  | a :: L, [], _, j, i, en, _, h => by simp at h
  | a :: L, e :: ens, hn, j, i, en, h1, h2 => by
    simp only [List.nodup_cons] at hn
    cases j with
    | zero => simp at h1 h2; subst h1; subst h2; simp [entOf]
    | succ j =>
      simp only [List.getElem?_cons_succ] at h1 h2
      have hne : a ≠ i := fun e => hn.1 (e ▸ List.mem_of_getElem? h1)
      simp only [List.zip_cons_cons, entOf]
      rw [show Nat.beq a i = false from by
        cases hb : Nat.beq a i with
        | true => exact absurd (Nat.eq_of_beq_eq_true hb) hne
        | false => rfl]
      exact entOf_zip L ens hn.2 j i en h1 h2

theorem xReg_sound (hcal : CalOk P cal) {draw : Bool} {id m : Nat} {s s' : XS} (h : xReg P K cal N ops draw s = some s') : T P N m (.region id ops draw) s.a .normal s'.a := by
  intro M μ a w hR Q hQ
  unfold xReg at h
  rw [fApp_eq] at h
  obtain ⟨p1, p2, p3⟩ := hR.pad (slotsOf ops)
  have hcap : s.a.st.length + slotsOf ops ≤ (padS (slotsOf ops) s.a).st.length := by simp [padS]
  split at h
  · rename_i s1 rec he
    obtain ⟨hk, ens, hl, hrun⟩ := xOps_run hcal he
    have k1 : Run P K N s.st.length ops ((List.range ops.size).zip ens) (recOf rec) (List.range ops.size) (padS (slotsOf ops) s.a) s1.a :=
      hrun _ _ (entOf_zip _ _ List.nodup_range) (recOf_mem (by rw [hk]; exact List.nodup_range))
    cases draw with
    | false =>
      simp only [cond_false, Option.some.injEq] at h
      subst h
      exact wp_region (k1.ok hcap p1 fun a' w' M' μ' r1 r2 r3 => hQ a' w' M' μ' r1 (p2.trans r2) ((p3.trans r3).to m))
    | true =>
      simp only [cond_true] at h
      cases hc : (P.follows .mixedOrders && edgesOk ops && pairsOk ops (masks ops.toList []) rec) with
      | false => rw [hc] at h; cases h
      | true =>
        rw [hc] at h
        simp only [cond_true, Option.some.injEq] at h
        subst h
        simp only [Bool.and_eq_true] at hc
        obtain ⟨⟨hc1, hc2⟩, hc3⟩ := hc
        refine wp_region_any hc1 ?_
        refine Run.any (rc := recOf rec) hc2 (pairsOk_spec hc3 hk) _ _ _ M (μ ++ List.replicate (slotsOf ops) Bd.zero) a { w with drawn := w.drawn + 1 } (by simp) (fun j o _ hl => ?_) (by rw [todo_all]; simp) (by rw [todo_all]; exact k1) hcap
          ⟨p1.size, p1.defers, p1.tm, p1.st.drew _⟩ fun a' w' M' μ' r1 r2 r3 => hQ a' w' M' μ' r1 (p2.trans ((Stp.drew ..).trans r2)) ((p3.trans r3).to m)
        simp only [Array.getD_eq_getD_getElem?, Array.getElem?_replicate] at hl
        split at hl <;> simp at hl
  · cases h
end

/-! ### code -/
def xLoop : Nat → (XS → Option (Exit × XS)) → XS → Option (Exit × XS)
  | 0, _, _ => none
  | n + 1, f, s => match f s with
    | some (.normal, s1) => xLoop n f s1
    | r => r

def blkX (id : Nat) (e : Exit) : Exit :=
  match e with
  | .exit id' => bif Nat.beq id' id then .normal else e
  | _ => e

def xCode (P : Program) (K : Kinds) (cal : Cal) (N rounds : Nat) : Code → XS → Option (Exit × XS)
  | .skip, s => some (.normal, s)
  | .region _ ops draw, s => match xReg P K cal N ops draw s with
    | some s' => some (.normal, s')
    | none => none
  | .seq x y, s => match xCode P K cal N rounds x s with
    | some (.normal, s1) => xCode P K cal N rounds y s1
    | r => r
  | .cond c x y, s => match evA s.a c with
    | .sc (.bool b) => bif b then xCode P K cal N rounds x s else xCode P K cal N rounds y s
    | _ => none
  | .block id c, s => match xCode P K cal N rounds c s with
    | some (e, s') => some (blkX id e, s')
    | none => none
  | .loop c, s => xLoop rounds (xCode P K cal N rounds c) s
  | .exit id, s => some (.exit id, s)
  | .ret, s => some (.ret, s)
  | .label _, s => some (.normal, s)
  | .rangeFunc _ _ _ _, _ => none
  | .scope _, _ => none
  | .goto _, _ => none
  | .refuse _, _ => none

theorem xCode_sound {P : Program} {K : Kinds} {cal : Cal} {N m rounds : Nat} (hcal : CalOk P cal) : ∀ {c : Code} {s s' : XS} {e : Exit}, xCode P K cal N rounds c s = some (e, s') → T P N m c s.a e s'.a := by
  intro c
  induction c with
  | skip =>
    intro s s' e h
    simp only [xCode, Option.some.injEq, Prod.mk.injEq] at h; obtain ⟨rfl, rfl⟩ := h
    exact fun M μ a w hR Q hQ => wp_skip (hQ a w M μ hR (.refl ..) (.refl m μ))
  | region id ops draw =>
    intro s s' e h
    simp only [xCode] at h
    split at h
    · rename_i s1 h1
      cases h
      exact xReg_sound hcal h1
    · cases h
  | seq x y ihx ihy =>
    intro s s' e h
    simp only [xCode] at h
    split at h
    · rename_i s1 h1
      refine fun M μ a w hR Q hQ => wp_seq (ihx h1 M μ a w hR _ fun a1 w1 M1 μ1 r1 p1 e1 => ?_)
      exact ihy h M1 μ1 a1 w1 r1 Q fun a' w' M' μ' r2 p2 e2 => hQ a' w' M' μ' r2 (p1.trans p2) (e1.trans e2)
    · rename_i hne
      refine fun M μ a w hR Q hQ => wp_seq (ihx h M μ a w hR _ fun a1 w1 M1 μ1 r1 p1 e1 => ?_)
      have := hQ a1 w1 M1 μ1 r1 p1 e1
      cases e <;> first | exact absurd h (hne s') | exact this
  | cond c x y ihx ihy =>
    intro s s' e h
    simp only [xCode] at h
    split at h
    · rename_i b hb
      refine fun M μ a w hR Q hQ => wp_cond (t := b) ?_ ?_
      · have := evA_rep hR c
        rw [hb] at this
        exact this.scv
      · cases b with
        | true => exact ihx h M μ a w hR Q hQ
        | false => exact ihy h M μ a w hR Q hQ
    · cases h
  | block id c ih =>
    intro s s' e h
    simp only [xCode] at h
    split at h
    · rename_i e1 s1 h1
      cases h
      refine fun M μ a w hR Q hQ => wp_block (ih h1 M μ a w hR _ fun a1 w1 M1 μ1 q1 p1 v1 => ?_)
      have := hQ a1 w1 M1 μ1 q1 p1 v1
      unfold blkX at this
      split at this
      · rename_i id'
        simp only [Exit.inBlock]
        cases hb : Nat.beq id' id with
        | true => rw [hb] at this; rw [if_pos (Nat.eq_of_beq_eq_true hb)]; exact this
        | false =>
          rw [hb] at this
          rw [if_neg (fun e => by rw [e] at hb; simp at hb)]
          exact this
      · rename_i hne
        cases e1 with
        | exit id' => exact absurd rfl (hne id')
        | _ => exact this
    · cases h
  | loop c ih =>
    intro s s' e h
    simp only [xCode] at h
    refine Lp.sound ?_
    have key : ∀ (n : Nat) (s : XS), xLoop n (xCode P K cal N rounds c) s = some (e, s') → Lp P N m c s.a e s'.a := by
      intro n
      induction n with
      | zero => intro s h; cases h
      | succ n ihn =>
        intro s h
        simp only [xLoop] at h
        split at h
        · rename_i s1 h1
          exact .more (ih h1) (ihn s1 h)
        · rename_i hne
          refine .stop (ih h) fun he => ?_
          subst he
          exact hne s' h
    exact key rounds s h
  | exit id =>
    intro s s' e h
    simp only [xCode, Option.some.injEq, Prod.mk.injEq] at h; obtain ⟨rfl, rfl⟩ := h
    exact fun M μ a w hR Q hQ => wp_exit (hQ a w M μ hR (.refl ..) (.refl m μ))
  | ret =>
    intro s s' e h
    simp only [xCode, Option.some.injEq, Prod.mk.injEq] at h; obtain ⟨rfl, rfl⟩ := h
    exact fun M μ a w hR Q hQ => wp_ret (hQ a w M μ hR (.refl ..) (.refl m μ))
  | label l =>
    intro s s' e h
    simp only [xCode, Option.some.injEq, Prod.mk.injEq] at h; obtain ⟨rfl, rfl⟩ := h
    exact fun M μ a w hR Q hQ => wp_label (hQ a w M μ hR (.refl ..) (.refl m μ))
  | rangeFunc => intro s s' e h; simp only [xCode] at h; cases h
  | scope => intro s s' e h; simp only [xCode] at h; cases h
  | goto => intro s s' e h; simp only [xCode] at h; cases h
  | refuse => intro s s' e h; simp only [xCode] at h; cases h

/-! ### functions -/
def laIds : Nat → AV → List Nat
  | 0, _ => []
  | n + 1, a => match a with
    | .la l _ => [l]
    | .agg cs => cs.flatMap (laIds n)
    | .tup cs => cs.flatMap (laIds n)
    | _ => []

/-- The rows of the call's own that a result names are frozen. -/
def finX (P : Program) (m : Nat) (fn : Func) (s : ASt) : List Wk :=
  match resL P s fn.results.toList with
  | some xs => ((laIds 6 (resV xs)).filter (Nat.ble m)).eraseDups.map .frz
  | none => []

def xFun (P : Program) (K : Kinds) (rounds : Nat) : Nat → Cal
  | 0 => fun _ _ _ => none
  | n + 1 => fun g args σ => match P.funcs[g]? with
    | some fn => match fn.body with
      | some c => bif fn.name == "runtime.NumGoroutine" then none else
        match xCode P K (xFun P K rounds n) (args.length + (fn.ntmps - args.length)) rounds c ⟨args ++ List.replicate (fn.ntmps - args.length) (.sc undef), σ⟩ with
        | some (e, s) => match evFin P σ.length fn (finX P σ.length fn s.a) [] ⟨e, s.a, [], []⟩ with
          | some (r, σ', _) => fA 40 r fun r => fL fO σ' fun σ' => some (r, σ')
          | none => none
        | none => none
      | none => none
    | none => none

theorem xFun_sound {P : Program} {K : Kinds} {rounds : Nat} : ∀ n, CalOk P (xFun P K rounds n)
  | 0 => fun g as σ r σ' h => by cases h
  | n + 1 => fun g args σ r σ' h => by
    simp only [xFun] at h
    split at h
    · rename_i fn hf
      split at h
      · rename_i c hb
        cases hn : (fn.name == "runtime.NumGoroutine") with
        | true => rw [hn] at h; cases h
        | false =>
          rw [hn] at h
          simp only [cond_false] at h
          split at h
          · rename_i e s hc
            split at h
            · rename_i r1 σ1 ob1 he
              rw [fA_eq, fL_eq fO_eq] at h
              cases h
              refine Fn.ofT hf hb hn _ _ (T.pre ?_ (xCode_sound (xFun_sound n) hc)) he
              refine fun M μ a w hR => ⟨M, μ, ⟨hR.size, hR.defers, fun t => ?_, hR.st⟩, .refl .., .refl _ _⟩
              have ht := hR.tm t
              simp only [XS.a, XS.tm, List.getD_eq_getElem?_getD]
              by_cases h1 : t < args.length
              · rw [List.getElem?_append_left h1]
                simp only [argT] at ht
                rw [List.getElem?_eq_getElem h1] at ht ⊢
                exact ht
              · rw [List.getElem?_append_right (by omega), List.getElem?_replicate]
                simp only [argT, List.getElem?_eq_none (Nat.le_of_not_lt h1)] at ht
                split
                · exact ht
                · exact .any
            · cases h
          · cases h
      · cases h
    · cases h

/-- A closed call. -/
theorem closed {P : Program} {f : FuncId} {args : List AV} {σ σ' : List AObj} {r : AV} (rounds n : Nat) (h : xFun P [] rounds n f args σ = some (r, σ')) : SoundCall P f args σ r σ' := xFun_sound n _ _ _ _ _ h

end Go.Ae

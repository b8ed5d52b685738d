/- The abstract executor, part 8: numbers, texts, cuts, lengths, append, make. -/
import Derived.Test.YtpcnfjddleceiaaGreatAe7
namespace Go.Ae
section
variable {P : Program} {M : Mem} {μ : List Bd} {st : List AObj} {w : World} {ρ : Operand → AV} {ρc : Operand → Value} {o : Oper} {en : Ent} {slot : Nat}

/-! ### two operands -/
def intOpA (op : BinOp) (k : IntKind) (a b : Int) : Option Res :=
  match op with
  | .add => some ⟨.sc (.int k (k.wrap (a + b))), [], [], []⟩
  | .sub => some ⟨.sc (.int k (k.wrap (a - b))), [], [], []⟩
  | .mul => some ⟨.sc (.int k (k.wrap (a * b))), [], [], []⟩
  | .quo => some ⟨.sc (.int k (k.wrap (a.tdiv b))), [], [], [b ≠ 0]⟩
  | .rem => some ⟨.sc (.int k (a.tmod b)), [], [], [b ≠ 0]⟩
  | .eql => some ⟨.sc (.bool (a == b)), [], [], []⟩
  | .neq => some ⟨.sc (.bool (a != b)), [], [], []⟩
  | .lss => some ⟨.sc (.bool (decide (a < b))), [], [], []⟩
  | .leq => some ⟨.sc (.bool (decide (a ≤ b))), [], [], []⟩
  | .gtr => some ⟨.sc (.bool (decide (b < a))), [], [], []⟩
  | .geq => some ⟨.sc (.bool (decide (b ≤ a))), [], [], []⟩
  | _ => none

def strOpA (op : BinOp) (x y : ByteArray) : Option Res :=
  match op with
  | .add => some ⟨.sc (.string (x ++ y)), [], [], [x.size + y.size ≤ 9223372036854775807]⟩
  | .eql => some ⟨.sc (.bool (x.toList == y.toList)), [], [], []⟩
  | .neq => some ⟨.sc (.bool (!(x.toList == y.toList))), [], [], []⟩
  | _ => none

/-- Is this pointer nil? -/
def nilP : AV → Option Bool
  | .sc v => match v with
    | .pointer none => some true
    | _ => none
  | .lp .. => some false
  | .ip .. => some false
  | _ => none

theorem nilP_spec {M : Mem} {μ : List Bd} {a : AV} {v : Value} {b : Bool} (h : nilP a = some b) (hr : RepV M μ a v) : ∃ p : Option Addr, v = .pointer p ∧ p.isNone = b := by
  cases a with
  | sc u =>
    have := hr.scv
    subst this
    simp only [nilP] at h
    split at h
    · cases h; exact ⟨none, rfl, rfl⟩
    · cases h
  | lp l off => simp only [nilP, Option.some.injEq] at h; subst h; cases hr; exact ⟨_, rfl, rfl⟩
  | ip cs off => simp only [nilP, Option.some.injEq] at h; subst h; cases hr; exact ⟨_, rfl, rfl⟩
  | _ => simp [nilP] at h

/-- Two pointers, one of them nil. -/
def ptrOpA (P : Program) (op : BinOp) (t : TypeId) (x y : AV) : Option Res :=
  match P.underlying t, nilP x, nilP y with
  | some (.pointer _), some a, some b =>
    bif a || b then (match op with
      | .eql => some ⟨.sc (.bool (a && b)), [], [], []⟩
      | .neq => some ⟨.sc (.bool (!(a && b))), [], [], []⟩
      | _ => none) else none
  | _, _, _ => none

def boolOpA (P : Program) (op : BinOp) (t : TypeId) (a b : Bool) : Option Res :=
  match P.underlying t with
  | some .bool => match op with
    | .eql => some ⟨.sc (.bool (a == b)), [], [], []⟩
    | .neq => some ⟨.sc (.bool (!(a == b))), [], [], []⟩
    | _ => none
  | _ => none

def scOpA (P : Program) (op : BinOp) (t : TypeId) (x y : AV) (u v : Value) : Option Res :=
  match u with
  | .int k a => match v with
    | .int k' b => bif decide (k = k') then intOpA op k a b else none
    | _ => none
  | .string a => match v with
    | .string b => strOpA op a b
    | _ => none
  | .bool a => match v with
    | .bool b => boolOpA P op t a b
    | _ => none
  | _ => ptrOpA P op t x y

def binOpA (P : Program) (op : BinOp) (t : TypeId) (x y : AV) : Option Res :=
  match x with
  | .sc u => match y with
    | .sc v => scOpA P op t x y u v
    | _ => ptrOpA P op t x y
  | _ => ptrOpA P op t x y

theorem run_eq_ptr {t e : TypeId} (hu : P.underlying t = some (.pointer e)) (p q : Option Addr) (h : (p.isNone || q.isNone) = true) (w : World) :
    (Op.equal t (.pointer p) (.pointer q)).run P w = .ok (p.isNone && q.isNone) w := by
  have key : ∀ d, (Op.equalIn (d + 1) t (.pointer p) (.pointer q)).run P w = .ok (p.isNone && q.isNone) w := fun d => by
    cases p <;> cases q <;> first | (simp at h; done) | simp [Op.equalIn, run_underlying hu]
  exact key 9999

theorem ok_ptr (hst : StoreOk M μ st w) {op : BinOp} {t : TypeId} {x y : Operand} {yt : TypeId} (hρ : ∀ x, RepV M μ (ρ x) (ρc x)) (ho : o.op = .binOp op t x y yt) {res : Res} (h : ptrOpA P op t (ρ x) (ρ y) = some res) :
    OpOk M μ st w res ((execOp ρc o).run P w) := by
  unfold ptrOpA at h
  split at h
  · rename_i e a b hu ha hb
    obtain ⟨p, hp, rfl⟩ := nilP_spec ha (hρ x)
    obtain ⟨q, hq, rfl⟩ := nilP_spec hb (hρ y)
    cases hab : (p.isNone || q.isNone) with
    | false => rw [hab] at h; cases h
    | true =>
      rw [hab] at h
      have hr := run_eq_ptr hu p q hab w
      simp only [cond_true] at h
      cases op with
      | eql =>
        cases h
        refine OpOk.val hst (v := .bool (p.isNone && q.isNone)) ?_ .sc
        simp only [execOp, ho, hp, hq]
        refine exec_v ?_
        simp only [eqGuard_at_pointer, pure_bind]
        simp only [binOp]
        simp [hr]
      | neq =>
        cases h
        refine OpOk.val hst (v := .bool (!(p.isNone && q.isNone))) ?_ .sc
        simp only [execOp, ho, hp, hq]
        refine exec_v ?_
        simp only [eqGuard_at_pointer, pure_bind]
        simp only [binOp]
        simp [hr]
      | _ => cases h
  · cases h

theorem ok_binOp (hst : StoreOk M μ st w) (hρ : ∀ x, RepV M μ (ρ x) (ρc x)) {op : BinOp} {t : TypeId} {x y : Operand} {yt : TypeId} (ho : o.op = .binOp op t x y yt) {res : Res}
    (h : binOpA P op t (ρ x) (ρ y) = some res) (hob : AllP res.ob) : OpOk M μ st w res ((execOp ρc o).run P w) := by
  have hx := hρ x
  have hy := hρ y
  have hptr := fun {res : Res} (h : ptrOpA P op t (ρ x) (ρ y) = some res) => ok_ptr (P := P) hst hρ ho h
  unfold binOpA at h
  split at h
  · rename_i u eu
    split at h
    · rename_i v ev
      unfold scOpA at h
      split at h
      · rename_i k a
        split at h
        · rename_i k' b
          by_cases hk : k = k'
          · subst hk
            simp only [decide_true, cond_true] at h
            rw [eu] at hx
            rw [ev] at hy
            have key : ∀ (v : Value), (binOp op t (.int k a) (.int k b)).run P w = .ok v w → (execOp ρc o).run P w = .ok (.value v) w := fun v hv => by
              simp only [execOp, ho, hx.scv, hy.scv, eqGuard_at_int]
              exact exec_v (by simpa using hv)
            cases op with
            | add => cases h; exact OpOk.val hst (key _ (by rw [binOp_add]; rfl)) .sc
            | sub => cases h; exact OpOk.val hst (key _ (by rw [binOp_sub]; rfl)) .sc
            | mul => cases h; exact OpOk.val hst (key _ (by rw [binOp_mul]; rfl)) .sc
            | quo =>
              cases h
              simp only [AllP, and_true] at hob
              exact OpOk.val hst (key _ (by rw [binOp_quo, Op.intDiv, if_neg hob]; rfl)) .sc
            | rem =>
              cases h
              simp only [AllP, and_true] at hob
              exact OpOk.val hst (key _ (by rw [binOp_rem, Op.intDiv, if_neg hob]; rfl)) .sc
            | eql => cases h; exact OpOk.val hst (key _ (by rw [binOp_eql]; rfl)) .sc
            | neq => cases h; exact OpOk.val hst (key _ (by rw [binOp_neq]; rfl)) .sc
            | lss => cases h; exact OpOk.val hst (key _ (by rw [binOp_lss]; rfl)) .sc
            | leq => cases h; exact OpOk.val hst (key _ (by rw [binOp_leq]; rfl)) .sc
            | gtr => cases h; exact OpOk.val hst (key _ (by rw [binOp_gtr]; rfl)) .sc
            | geq => cases h; exact OpOk.val hst (key _ (by rw [binOp_geq]; rfl)) .sc
            | _ => cases h
          · rw [decide_eq_false hk] at h; cases h
        · cases h
      · rename_i a
        split at h
        · rename_i b
          rw [eu] at hx
          rw [ev] at hy
          have key : ∀ (v : Value), (Op.stringOp op a b).run P w = .ok v w → (execOp ρc o).run P w = .ok (.value v) w := fun v hv => by
            simp only [execOp, ho, hx.scv, hy.scv, eqGuard_at_string]
            refine exec_v ?_
            have : binOp op t (.string a) (.string b) = Op.stringOp op a b := by cases op <;> rfl
            simpa [this] using hv
          cases op with
          | add =>
            cases h
            simp only [AllP, and_true] at hob
            refine OpOk.val hst (key _ ?_) .sc
            simp only [Op.stringOp]
            rw [if_neg (by rw [IntKind.max_i64]; omega)]
            rfl
          | eql => cases h; exact OpOk.val hst (key _ rfl) .sc
          | neq => cases h; exact OpOk.val hst (key _ rfl) .sc
          | _ => cases h
        · cases h
      · rename_i a
        split at h
        · rename_i b
          unfold boolOpA at h
          split at h
          · rename_i hu
            rw [eu] at hx
            rw [ev] at hy
            cases op with
            | eql =>
              cases h
              refine OpOk.val hst (v := .bool (a == b)) ?_ .sc
              simp only [execOp, ho, hx.scv, hy.scv, eqGuard_at_bool]
              exact exec_v (by simpa using run_eql_bool w t a b hu)
            | neq =>
              cases h
              refine OpOk.val hst (v := .bool (!(a == b))) ?_ .sc
              simp only [execOp, ho, hx.scv, hy.scv, eqGuard_at_bool]
              exact exec_v (by simpa using run_neq_bool w t a b hu)
            | _ => cases h
          · cases h
        · cases h
      · exact hptr h
    · exact hptr h
  · exact hptr h

/-! ### one operand -/
def unOpA (op : UnOp) (x : AV) : Option Res :=
  match op with
  | .not => match x with
    | .sc (.bool b) => some ⟨.sc (.bool (!b)), [], [], []⟩
    | _ => none
  | .neg => match x with
    | .sc (.int k n) => some ⟨.sc (.int k (k.wrap (0 - n))), [], [], []⟩
    | _ => none
  | _ => none

theorem ok_unOp (hst : StoreOk M μ st w) (hρ : ∀ x, RepV M μ (ρ x) (ρc x)) {op : UnOp} {t : TypeId} {x : Operand} (ho : o.op = .unOp op t x) {res : Res}
    (h : unOpA op (ρ x) = some res) : OpOk M μ st w res ((execOp ρc o).run P w) := by
  have hx := hρ x
  unfold unOpA at h
  split at h
  · split at h
    · rename_i b e
      cases h
      rw [e] at hx
      refine OpOk.val hst (v := .bool (!b)) ?_ .sc
      simp only [execOp, ho, hx.scv]
      exact exec_v rfl
    · cases h
  · split at h
    · rename_i k n e
      cases h
      rw [e] at hx
      refine OpOk.val hst (v := .int k (k.wrap (0 - n))) ?_ .sc
      simp only [execOp, ho, hx.scv]
      exact exec_v rfl
    · cases h
  · cases h

def convertA (P : Program) (src dst : TypeId) (x : AV) : Option Res :=
  match P.underlying src, P.underlying dst with
  | some _, some (.int k) => match x with
    | .sc (.int _ n) => some ⟨.sc (.int k (k.wrap n)), [], [], []⟩
    | _ => none
  | some .string, some .string => match x with
    | .sc (.string s) => some ⟨.sc (.string s), [], [], []⟩
    | _ => none
  | _, _ => none

theorem ok_convert (hst : StoreOk M μ st w) (hρ : ∀ x, RepV M μ (ρ x) (ρc x)) {src dst : TypeId} {x : Operand} (ho : o.op = .convert src dst x) {res : Res}
    (h : convertA P src dst (ρ x) = some res) : OpOk M μ st w res ((execOp ρc o).run P w) := by
  have hx := hρ x
  unfold convertA at h
  split at h
  · rename_i d k hs hd
    split at h
    · rename_i kk n e
      cases h
      rw [e] at hx
      refine OpOk.val hst (v := .int k (k.wrap n)) ?_ .sc
      simp only [execOp, ho, hx.scv]
      refine exec_v ?_
      simp [convert, run_underlying hs, run_underlying hd, Conv.intToInt]
    · cases h
  · rename_i hs hd
    split at h
    · rename_i s e
      cases h
      rw [e] at hx
      refine OpOk.val hst (v := .string s) ?_ .sc
      simp only [execOp, ho, hx.scv]
      refine exec_v ?_
      simp [convert, run_underlying hs, run_underlying hd]
    · cases h
  · cases h

/-! ### lengths -/
def lenA (P : Program) (look : Nat → AObj) (t : TypeId) (x : AV) : Option Res :=
  match P.underlying t with
  | some .string => match x with
    | .sc (.string s) => some ⟨.sc (.int .i64 (s.size : Int)), [], [], []⟩
    | _ => none
  | some (.slice _) => match x with
    | .nil => some ⟨.sc (.int .i64 0), [], [], []⟩
    | .sl _ xs _ => some ⟨.sc (.int .i64 (xs.length : Int)), [], [], []⟩
    | .la l g => match look l with
      | .arr c _ rows => bif Nat.beq g c then some ⟨.sc (.int .i64 (rows.length : Int)), [], [(l, false)], []⟩ else none
      | _ => none
    | _ => none
  | _ => none

theorem exec_builtin {b : Builtin} {args : Array Operand} {ts : Array TypeId} (ho : o.op = .call { callee := .builtin b, args := args, argTypes := ts }) :
    ∃ consts, execOp ρc o = builtin b ts o.type consts (args.map ρc) := ⟨_, by simp only [execOp, ho, resolve]; rfl⟩

theorem ok_len (hst : StoreOk M μ st w) (hρ : ∀ x, RepV M μ (ρ x) (ρc x)) {t : TypeId} {x : Operand} (ho : o.op = .call { callee := .builtin .len, args := #[x], argTypes := #[t] }) {res : Res}
    (h : lenA P (getO st) t (ρ x) = some res) : OpOk M μ st w res ((execOp ρc o).run P w) := by
  have hx := hρ x
  obtain ⟨cs, hex⟩ := exec_builtin (ρc := ρc) ho
  have key : ∀ v, (Builtin.len_ #[t] o.type #[ρc x]).run P w = .ok v w → (execOp ρc o).run P w = .ok (.value v) w := fun v hv => by
    rw [hex]; simp only [builtin]; exact exec_v (by simpa using hv)
  unfold lenA at h
  split at h
  · rename_i hu
    split at h
    · rename_i s e
      cases h
      rw [e] at hx
      exact OpOk.val hst (key _ (by rw [hx.scv]; simp [Builtin.len_, run_underlying hu, goInt])) .sc
    · cases h
  · rename_i el hu
    have hl : ∀ A n c, ρc x = .slice A n c → (Builtin.len_ #[t] o.type #[ρc x]).run P w = .ok (.int .i64 (n : Int)) w := fun A n c e => by
      rw [e]; simp [Builtin.len_, run_underlying hu, goInt]
    split at h
    · rename_i e
      cases h
      rw [e] at hx
      generalize hv : ρc x = v at *
      cases hx with
      | nil => exact OpOk.val hst (key _ (by have := hl _ _ _ rfl; simpa using this)) .sc
    · rename_i sz xs full e
      cases h
      rw [e] at hx
      obtain ⟨A, c, hv, _⟩ := hx.slc
      exact OpOk.val hst (key _ (hl _ _ _ hv)) .sc
    · rename_i l g e
      split at h
      · rename_i c sz rows hlk
        cases hg : Nat.beq g c with
        | false => rw [hg] at h; cases h
        | true =>
          rw [hg] at h
          cases h
          rw [e] at hx
          obtain ⟨bd, e1, e2, e3, e4, e5, e6, h7⟩ := hx.laCur hst hlk hg
          rcases h7 with ⟨_, rfl, _, A, hv⟩ | ⟨b, cc, ty, k1, hv, _⟩
          · exact OpOk.val hst (key _ (by have := hl _ _ _ hv; simpa using this)) .sc
          · exact OpOk.val hst (key _ (hl _ _ _ hv)) .sc
      · cases h
    · cases h
  · cases h

def maxA (x y : AV) : Option Res :=
  match x with
  | .sc (.int k a) => match y with
    | .sc (.int _ b) => some ⟨.sc (.int k (if b > a then b else a)), [], [], []⟩
    | _ => none
  | _ => none

theorem ok_max (hst : StoreOk M μ st w) (hρ : ∀ x, RepV M μ (ρ x) (ρc x)) {ts : Array TypeId} {x y : Operand} (ho : o.op = .call { callee := .builtin .max, args := #[x, y], argTypes := ts }) {res : Res}
    (h : maxA (ρ x) (ρ y) = some res) : OpOk M μ st w res ((execOp ρc o).run P w) := by
  have hx := hρ x
  have hy := hρ y
  obtain ⟨cs, hex⟩ := exec_builtin (ρc := ρc) ho
  unfold maxA at h
  split at h
  · rename_i k a ex
    split at h
    · rename_i k' b ey
      cases h
      rw [ex] at hx
      rw [ey] at hy
      refine OpOk.val hst (v := .int k (if b > a then b else a)) ?_ .sc
      rw [hex]
      simp only [builtin]
      refine exec_v ?_
      have : #[x, y].map ρc = #[.int k a, .int k' b] := by simp [hx.scv, hy.scv]
      rw [this]
      exact run_max_int2 w ts o.type k k' a b
    · cases h
  · cases h

end
end Go.Ae

/- Part 14 of the proof: AeRRNM8, AeRRNM13, AeRRA1, AeRRA2, AeRRA3, AeRRA4, AeRRC2, AeRRX0, AeRRC3, AeRRNM1, AeRRNM2. -/
import Derived.Test.YtcmlbbgbfgikaaaGreatT13
set_option linter.unusedSimpArgs false
set_option linter.unusedVariables false
namespace Go.Ae.N
def mback (p : Prog) (fuel : Int) (s : MS) : Out :=
 match s.fr with
 | [] => .stop s 0 (match s.val with | .mk n _ _ _ => n) 0 false
 | ⟨k, e, env, fn⟩ :: r =>
  if k = 0 then (match e with
   | some (.mk _ _ _ _ [_, b]) => .go ⟨s.steps, s.ev, ⟨1, none, [], s.val⟩ :: r, some b, env, s.val, s.used, s.ui⟩
   | _ => .go s)
  else if fuel ≤ s.steps then .stop s 1 0 0 false
  else if k = 2 then (match e with
   | some (.mk _ _ _ _ [_, b]) => .go ⟨s.steps + 1, s.ev, r, some b, s.val :: env, s.val, s.used, s.ui⟩
   | _ => .go s)
  else if k = 3 then (match e, s.val with
   | some (.mk _ _ _ _ l), .mk w _ _ _ => .go ⟨s.steps + 1, s.ev, r, l[1 + w.toNat]?, env, s.val, s.used, s.ui⟩
   | _, _ => .go s)
  else if k = 4 then (match e, s.val with
   | some (.mk _ n _ _ _), .mk w _ _ _ => .go ⟨s.steps + 1, s.ev, r, none, [], .mk (IntKind.wrap .i64 (w + n)) 0 none [], s.used, s.ui⟩
   | _, _ => .go s)
  else if k = 5 then (match e, s.val with
   | some (.mk _ n _ _ _), .mk w _ _ _ => .go ⟨s.steps + 1, s.ev, r, none, [], .mk (if w < n then 1 else 0) 0 none [], s.used, s.ui⟩
   | _, _ => .go s)
  else (match fn with
   | .mk _ f gl ge => if 0 < f then .go ⟨s.steps + 1, s.ev, r, (p.defs[f.toNat - 1]?).map (·.body), [s.val], s.val, s.used, s.ui⟩
    else (match gl with
     | some (.mk _ _ _ _ [b]) => .go ⟨s.steps + 1, s.ev, r, some b, s.val :: ge, s.val, s.used, s.ui⟩
     | _ => .go s))
def mmove (p : Prog) (fuel : Int) (ch is : List Int) (s : MS) : Out :=
 match s.expr with
 | none => mback p fuel s
 | some (.mk k n v ty l) =>
  if k = 0 then .go ⟨s.steps, s.ev, s.fr, none, [], .mk n 0 none [], s.used, s.ui⟩
  else if k = 1 then .go ⟨s.steps, s.ev, s.fr, none, [], s.env.getD n.toNat vZ, s.used, s.ui⟩
  else if k = 2 then .go ⟨s.steps, s.ev, s.fr, none, [], .mk 0 (n + 1) none [], s.used, s.ui⟩
  else if k = 4 then .go ⟨s.steps, s.ev, s.fr, none, [], .mk 0 0 (some (.mk k n v ty l)) s.env, s.used, s.ui⟩
  else if k = 3 then .go ⟨s.steps, s.ev, ⟨0, some (.mk k n v ty l), s.env, vZ⟩ :: s.fr, l[0]?, s.env, s.val, s.used, s.ui⟩
  else if k = 5 then .go ⟨s.steps, s.ev, ⟨2, some (.mk k n v ty l), s.env, vZ⟩ :: s.fr, l[0]?, s.env, s.val, s.used, s.ui⟩
  else if k = 6 then .go ⟨s.steps, s.ev, ⟨3, some (.mk k n v ty l), s.env, vZ⟩ :: s.fr, l[0]?, s.env, s.val, s.used, s.ui⟩
  else if k = 9 then .go ⟨s.steps, s.ev, s.fr, none, [], .mk n 0 none [], s.used, s.ui⟩
  else if k = 11 then .go ⟨s.steps, s.ev, ⟨4, some (.mk k n v ty l), s.env, vZ⟩ :: s.fr, l[0]?, s.env, s.val, s.used, s.ui⟩
  else if k = 12 then .go ⟨s.steps, s.ev, ⟨5, some (.mk k n v ty l), s.env, vZ⟩ :: s.fr, l[0]?, s.env, s.val, s.used, s.ui⟩
  else if fuel ≤ s.steps then .stop s 1 0 0 false
  else if k = 10 then
   (match is[s.ui]? with
   | none => .stop s 2 0 0 false
   | some x => if x < -1099511627776 ∨ 1099511627776 < x then .stop s 0 0 0 true else .go ⟨s.steps + 1, s.ev, s.fr, none, [], .mk x 0 none [], s.used, s.ui + 1⟩)
  else if k = 8 then
   (match ch[s.used]? with
   | none => .stop s 2 0 v false
   | some c => if c < 0 ∨ v ≤ c then .stop s 0 0 0 true else .go ⟨s.steps + 1, s.ev, s.fr, none, [], .mk c 0 none [], s.used + 1, s.ui⟩)
  else if 4096 ≤ s.ev.length then .stop s 1 0 0 false
  else .go ⟨s.steps + 1, s.ev ++ [n], s.fr, l[0]?, s.env, s.val, s.used, s.ui⟩
theorem Mv.eq {p : Prog} {fuel : Int} {ch is : List Int} {s : MS} {o : Out} (h : Mv p fuel ch is s o) : mmove p fuel ch is s = o := by
 cases h with
 | @more st ev fr k n v ty l env val us ui hk hf => rcases hk with rfl | rfl | rfl <;> simp [mmove, hf]
 | @want st ev fr n v ty l env val us ui hf hu => simp [mmove, show ¬ fuel ≤ st by omega, hu]
 | @wrong st ev fr n v ty l env val us ui c hf hc hw => simp [mmove, show ¬ fuel ≤ st by omega, hc, hw]
 | @fine st ev fr n v ty l env val us ui c hf hc h0 h1 => simp [mmove, show ¬ fuel ≤ st by omega, hc, show ¬ (c < 0 ∨ v ≤ c) by omega]
 | @full st ev fr n v ty l env val us ui hf he => simp [mmove, show ¬ fuel ≤ st by omega, he]
 | @event st ev fr n v ty a l env val us ui hf he hl => simp [mmove, show ¬ fuel ≤ st by omega, show ¬ 4096 ≤ ev.length by omega]
 | @awant st ev fr n v ty l env val us ui hf hu => simp [mmove, show ¬ fuel ≤ st by omega, hu]
 | @awrong st ev fr n v ty l env val us ui x hf hc hw => simp [mmove, show ¬ fuel ≤ st by omega, hc, hw]
 | @afine st ev fr n v ty l env val us ui x hf hc h0 h1 => simp [mmove, show ¬ fuel ≤ st by omega, hc, show ¬ (x < -1099511627776 ∨ 1099511627776 < x) by omega]
 | @badd st ev fr n v ty l env fn env' w wf wl we us ui hf => simp [mmove, mback, show ¬ fuel ≤ st by omega]
 | @bless st ev fr n v ty l env fn env' w wf wl we us ui hf => simp [mmove, mback, show ¬ fuel ≤ st by omega]
 | @bmore st ev fr k e env fn env' val us ui hk hf => simp [mmove, mback, hk, hf]
 | @blet st ev fr n v ty a b env fn env' val us ui hf => simp [mmove, mback, show ¬ fuel ≤ st by omega]
 | @bcase st ev fr n v ty l env fn env' w wf wl we us ui b hf hl hw => simp [mmove, mback, show ¬ fuel ≤ st by omega, hw]
 | @bfun st ev fr i gl ge env' val us ui d hf hd =>
  have h1 : ((i : Int) + 1).toNat - 1 = i := by omega
  have h2 : (0 : Int) < (i : Int) + 1 := by omega
  simp [mmove, mback, show ¬ fuel ≤ st by omega, h2, hd]
 | @done st ev env val us ui => cases val; rfl
 | @bclo st ev fr n v ty b ge env' val us ui hf => simp [mmove, mback, show ¬ fuel ≤ st by omega]
 | @var st ev fr n v ty l env val us ui w h hn => simp [mmove, List.getD_eq_getElem?_getD, h]
 | _ => simp [mmove, mback]
theorem Mv.det {p : Prog} {fuel : Int} {ch is : List Int} {s : MS} {o o' : Out} (h : Mv p fuel ch is s o) (h' : Mv p fuel ch is s o') : o = o' := h.eq.symm.trans h'.eq
inductive MRun (p : Prog) (fuel : Int) (ch is : List Int) : MS → MS → Int → Int → Int → Bool → Prop
 | stop {s s' en value width wrong} (h : Mv p fuel ch is s (.stop s' en value width wrong)) : MRun p fuel ch is s s' en value width wrong
 | more {s s1 s' en value width wrong} (h : Mv p fuel ch is s (.go s1)) (r : MRun p fuel ch is s1 s' en value width wrong) : MRun p fuel ch is s s' en value width wrong
theorem MRun.det {p : Prog} {fuel : Int} {ch is : List Int} {s s1 s2 : MS} {en1 v1 w1 en2 v2 w2 : Int} {b1 b2 : Bool} (h : MRun p fuel ch is s s1 en1 v1 w1 b1) (k : MRun p fuel ch is s s2 en2 v2 w2 b2) :
  s1 = s2 ∧ en1 = en2 ∧ v1 = v2 ∧ w1 = w2 ∧ b1 = b2 := by
 induction h generalizing s2 with
 | stop h =>
  cases k with
  | stop k => have := h.det k; cases this; exact ⟨rfl, rfl, rfl, rfl, rfl⟩
  | more k r => have := h.det k; cases this
 | more h r ih =>
  cases k with
  | stop k => have := h.det k; cases this
  | more k r2 => have := h.det k; cases this; exact ih r2
structure Inv (p : Prog) (T : Ty) (fuel : Int) (ch is : List Int) (s : MS) : Prop where
 wt : WT p T s
 s0 : 0 ≤ s.steps
 s1 : s.steps ≤ fuel
 psi : s.psi ≤ 1200 * (s.steps.toNat + 1)
 ev : s.ev.length ≤ 4096
 evr : ∀ m ∈ s.ev, 0 ≤ m ∧ m < (p.events.length : Int)
 us : s.used ≤ ch.length
 ui : s.ui ≤ is.length
theorem Inv.next {p : Prog} (hp : PT p) {T : Ty} {fuel : Int} {ch is : List Int} {s : MS} (h : Inv p T fuel ch is s) :
  ∃ o, Mv p fuel ch is s o ∧ ∀ s', o = .go s' → Inv p T fuel ch is s' ∧ Dec fuel s s' := by
 obtain ⟨o, h1, h2⟩ := h.wt.step hp fuel ch is h.us h.ui
 refine ⟨o, h1, fun s' e => ?_⟩
 obtain ⟨k1, k2, k3, k3u, k4, k5⟩ := h2 s' e
 obtain ⟨q1, q2, q3, q4, q5, q6, q7, q8⟩ := h
 refine ⟨⟨k1, ?_, ?_, ?_, k4 q5, fun m hm => ?_, k3, k3u⟩, k2⟩
 ·rcases k2 with k2 | k2 <;> omega
 ·rcases k2 with k2 | k2 <;> omega
 ·rcases k2 with k2 | k2
  ·rw [k2.1]; omega
  ·rw [k2.1]; omega
 ·rcases k5 m hm with h | h
  ·exact q6 m h
  ·exact h
theorem Inv.go {p : Prog} (hp : PT p) {T : Ty} {fuel : Int} {ch is : List Int} {s s' : MS} (h : Inv p T fuel ch is s) (hm : Mv p fuel ch is s (.go s')) : Inv p T fuel ch is s' := by
 obtain ⟨o, h1, h2⟩ := h.next hp
 exact (h2 s' (h1.det hm)).1
theorem run_ex {p : Prog} (hp : PT p) {T : Ty} {fuel : Int} {ch is : List Int} (s : MS) (h : Inv p T fuel ch is s) : ∃ s' en value width wrong, MRun p fuel ch is s s' en value width wrong := by
 obtain ⟨o, h1, h2⟩ := h.next hp
 cases o with
 | stop s' en value width wrong => exact ⟨_, _, _, _, _, .stop h1⟩
 | go s' =>
  obtain ⟨h3, h4⟩ := h2 s' rfl
  obtain ⟨_, _, _, _, _, r⟩ := run_ex hp s' h3
  exact ⟨_, _, _, _, _, .more h1 r⟩
termination_by ((fuel - s.steps).toNat, s.psi)
decreasing_by
 rcases h4 with h4 | h4
 ·rw [h4.1]; exact Prod.Lex.right _ h4.2
 ·exact Prod.Lex.left _ _ (by have := h.s1; omega)
theorem MRun.inv {p : Prog} (hp : PT p) {T : Ty} {fuel : Int} {ch is : List Int} {s s' : MS} {en value width : Int} {wrong : Bool} (h : MRun p fuel ch is s s' en value width wrong) (hi : Inv p T fuel ch is s) :
  Inv p T fuel ch is s' ∧ Mv p fuel ch is s' (.stop s' en value width wrong) := by
 induction h with
 | @stop s s' en value width wrong h =>
  have : s' = s := by cases h <;> rfl
  subst this
  exact ⟨hi, h⟩
 | more h r ih => exact ih (hi.go hp h)
theorem Inv.val {p : Prog} {k : Int} {fuel : Int} {ch is : List Int} {s s' : MS} {en value width : Int} {wrong : Bool} (hk : 1 ≤ k) (hi : Inv p (tyF k) fuel ch is s) (h : Mv p fuel ch is s (.stop s' en value width wrong)) :
  0 ≤ value ∧ value < k ∧ (en ≠ 0 → value = 0) := by
 have hw := hi.wt
 generalize ho : Out.stop s' en value width wrong = o at h
 cases h with
 | done =>
  cases ho
  obtain ⟨t, h1, h2⟩ := hw
  simp only at h1 h2
  generalize hT : tyF k = T at h2
  cases h2
  subst hT
  generalize hk2 : tyF k = T at h1
  cases h1 with
  | num h0 h1 => unfold tyF at hk2; cases hk2; exact ⟨h0, h1, fun h => absurd rfl h⟩
  | int => simp [tyF, tyI] at hk2
  | fn => simp [tyF] at hk2
  | clo => simp [tyF] at hk2
 | more => cases ho; exact ⟨by omega, by omega, fun _ => rfl⟩
 | want => cases ho; exact ⟨by omega, by omega, fun _ => rfl⟩
 | wrong => cases ho; exact ⟨by omega, by omega, fun _ => rfl⟩
 | awant => cases ho; exact ⟨by omega, by omega, fun _ => rfl⟩
 | awrong => cases ho; exact ⟨by omega, by omega, fun _ => rfl⟩
 | full => cases ho; exact ⟨by omega, by omega, fun _ => rfl⟩
 | bmore => cases ho; exact ⟨by omega, by omega, fun _ => rfl⟩
 | _ => cases ho
end Go.Ae.N
namespace Go.Ae.N
theorem Mv.mono {p : Prog} {fuel fuel2 : Int} {ch is more more2 : List Int} {s s' : MS} (h : Mv p fuel ch is s (.go s')) (hf : fuel ≤ fuel2) : Mv p fuel2 (ch ++ more) (is ++ more2) s (.go s') := by
 generalize ho : Out.go s' = o at h
 have app2 : ∀ {i : Nat} {c : Int}, is[i]? = some c → (is ++ more2)[i]? = some c := fun {i c} e => by
  rw [List.getElem?_append_left (List.getElem?_eq_some_iff.1 e).1]; exact e
 have app : ∀ {i : Nat} {c : Int}, ch[i]? = some c → (ch ++ more)[i]? = some c := fun {i c} e => by
  rw [List.getElem?_append_left (List.getElem?_eq_some_iff.1 e).1]; exact e
 cases h with
 | const => exact .const
 | var h hn => exact .var h hn
 | fn h0 h1 => exact .fn h0 h1
 | lam => exact .lam
 | app hl => exact .app hl
 | lt hl => exact .lt hl
 | cs hl => exact .cs hl
 | fine hf1 hc h0 h1 => exact .fine (by omega) (app hc) h0 h1
 | event hf1 he hl => exact .event (by omega) he hl
 | int => exact .int
 | afine hf1 hc h0 h1 => exact .afine (by omega) (app2 hc) h0 h1
 | add hl => exact .add hl
 | less hl => exact .less hl
 | badd hf1 => exact .badd (by omega)
 | bless hf1 => exact .bless (by omega)
 | arg => exact .arg
 | blet hf1 => exact .blet (by omega)
 | bcase hf1 hl hw => exact .bcase (by omega) hl hw
 | bfun hf1 hd => exact .bfun (by omega) hd
 | bclo hf1 => exact .bclo (by omega)
 | _ => cases ho
theorem Mv.grow {p : Prog} {fuel : Int} {ch is : List Int} {s s' : MS} (h : Mv p fuel ch is s (.go s')) : s.ev <+: s'.ev ∧ s.used ≤ s'.used ∧ s.ui ≤ s'.ui := by
 generalize ho : Out.go s' = o at h
 cases h with
 | event => cases ho; exact ⟨List.prefix_append .., Nat.le_refl _, Nat.le_refl _⟩
 | fine => cases ho; exact ⟨List.prefix_refl _, Nat.le_succ _, Nat.le_refl _⟩
 | afine => cases ho; exact ⟨List.prefix_refl _, Nat.le_refl _, Nat.le_succ _⟩
 | _ => first | (cases ho; done) | (cases ho; exact ⟨List.prefix_refl _, Nat.le_refl _, Nat.le_refl _⟩)
theorem MRun.grow {p : Prog} {fuel : Int} {ch is : List Int} {s s' : MS} {en v w : Int} {b : Bool} (h : MRun p fuel ch is s s' en v w b) : s.ev <+: s'.ev ∧ s.used ≤ s'.used ∧ s.ui ≤ s'.ui := by
 induction h with
 | @stop s s' en value width wrong h =>
  have : s' = s := by cases h <;> rfl
  subst this
  exact ⟨List.prefix_refl _, Nat.le_refl _, Nat.le_refl _⟩
 | more h r ih => exact ⟨h.grow.1.trans ih.1, Nat.le_trans h.grow.2.1 ih.2.1, Nat.le_trans h.grow.2.2 ih.2.2⟩
end Go.Ae.N
namespace Go.Ae
open Go.Proofs
def goodC : Option Int → List Int → Bool
 | _, [] => true
 | prev, t :: l => !(decide (t < -2000) || decide (t > 2000) || (match prev with
  | some p => decide (p ≥ t)
  | none => false)) && goodC (some t) l
theorem good_loop0 (us : List Int) (hn : us.length ≤ 140737488351232) : ∀ (us' : List Int) (i : Nat) (p : Int), us.drop (i + 1) = us' → us[i]? = some p →
  Lp Tryz.prog 35 0 (loopN Tryz.f13 0) ⟨lookT [(0, .sl 1 (ints us) false), (5, .sl 1 (ints us) false), (6, I (us.length : Int)), (7, I ((i : Int) + 1))], []⟩
   (if goodC (some p) us' = true then .exit 0 else .ret) (if goodC (some p) us' = true then ⟨lookT [(0, .sl 1 (ints us) false)], []⟩ else ⟨lookT [(2, B false)], []⟩)
 | [], i, p, hd, _ => by
  have hi := drop_end hd
  simp only [goodC, if_true]
  exact lL [rS [(0, .bit false)]] [.keep [(0, [])]] (qF ((i : Int) + 1 < (us.length : Int)) ob0)
 | t :: us', i, p, hd, hp => by
  have hi := drop_lt hd
  have hx : (ints us)[i + 1]? = some [I t] := by rw [ints_get, drop_get hd]; rfl
  have hy : (ints us)[i]? = some [I p] := by rw [ints_get, hp]; rfl
  have ih := good_loop0 us hn us' (i + 1) t (drop_next hd) (drop_get hd)
  simp only [Int.natCast_add, Int.natCast_one] at ih
  clear hd hp
  by_cases h1 : t < -2000
  ·simp only [goodC, decide_eq_true h1, Bool.true_or, Bool.not_true, Bool.false_and, Bool.false_eq_true, if_false]
   clear ih
   exact lL [rS [(0, .bit true)], rS [(1, oW hx)], rS [(1, .bit true)], rG] [.keep [(2, [])]] (qT ((i : Int) + 1 < (us.length : Int)) (q ((i : Int) + 1 = (↑(i + 1) : Int)) (ob1 hx (qT (t < -2000) ob0))))
  ·by_cases h2 : t > 2000
   ·simp only [goodC, decide_eq_true h2, Bool.true_or, Bool.or_true, Bool.not_true, Bool.false_and, Bool.false_eq_true, if_false]
    clear ih
    exact lL [rS [(0, .bit true)], rS [(1, oW hx)], rS [(1, .bit false), (4, .bit true)], rG] [.keep [(2, [])]] (qT ((i : Int) + 1 < (us.length : Int)) (q ((i : Int) + 1 = (↑(i + 1) : Int)) (ob1 hx (qF (t < -2000) (qT (2000 < t) ob0)))))
   ·by_cases h3 : p ≥ t
    ·simp only [goodC, decide_eq_true h3, Bool.or_true, Bool.not_true, Bool.false_and, Bool.false_eq_true, if_false]
     clear ih
     exact lL [rS [(0, .bit true)], rS [(1, oW hx)], rS [(1, .bit false), (4, .bit false), (8, .bit true), (12, .int ((i : Int) + 1 - 1)), (13, oW hy), (16, .bit true)], rG] [.keep [(2, [])]] (qT ((i : Int) + 1 < (us.length : Int)) (q ((i : Int) + 1 = (↑(i + 1) : Int)) (ob1 hx (qF (t < -2000) (qF (2000 < t) (qT (0 < (i : Int) + 1) (qw ((i : Int) + 1 - 1) (q ((i : Int) + 1 - 1 = (i : Int)) (ob1 hy (qT (t ≤ p) ob0))))))))))
    ·simp only [goodC, decide_eq_false h1, decide_eq_false h2, decide_eq_false h3, Bool.or_false, Bool.not_false, Bool.true_and]
     exact lN [rS [(0, .bit true)], rS [(1, oW hx)], rS [(1, .bit false), (4, .bit false), (8, .bit true), (12, .int ((i : Int) + 1 - 1)), (13, oW hy), (16, .bit false)], rS [(0, .int ((i : Int) + 1 + 1))]] [.keep [(0, []), (5, []), (6, []), (7, [])]] (qT ((i : Int) + 1 < (us.length : Int)) (q ((i : Int) + 1 = (↑(i + 1) : Int)) (ob1 hx (qF (t < -2000) (qF (2000 < t) (qT (0 < (i : Int) + 1) (qw ((i : Int) + 1 - 1) (q ((i : Int) + 1 - 1 = (i : Int)) (ob1 hy (qF (t ≤ p) (qw ((i : Int) + 1 + 1) ob0))))))))))) (ih)
theorem good_loop (us : List Int) (hn : us.length ≤ 140737488351232) :
  Lp Tryz.prog 35 0 (loopN Tryz.f13 0) ⟨lookT [(0, .sl 1 (ints us) false), (5, .sl 1 (ints us) false), (6, I (us.length : Int)), (7, I 0)], []⟩
   (if goodC none us = true then .exit 0 else .ret) (if goodC none us = true then ⟨lookT [(0, .sl 1 (ints us) false)], []⟩ else ⟨lookT [(2, B false)], []⟩) := by
 cases us with
 | nil =>
  simp only [goodC, if_true]
  exact lL [rG] [.keep [(0, [])]] ob0
 | cons t us' =>
  have hx : (ints (t :: us'))[0]? = some [I t] := rfl
  have ih := good_loop0 (t :: us') hn us' 0 t rfl rfl
  have hi : 0 < (t :: us').length := by simp
  generalize ht : t :: us' = us at *
  have hg : goodC none us = (!(decide (t < -2000) || decide (t > 2000) || false) && goodC (some t) us') := by rw [← ht]; rfl
  clear ht
  rw [hg]
  simp only [Int.natCast_zero] at ih
  by_cases h1 : t < -2000
  ·simp only [decide_eq_true h1, Bool.true_or, Bool.not_true, Bool.false_and, Bool.false_eq_true, if_false]
   clear ih
   exact lL [rS [(0, .bit true)], rS [(1, .row 0 [I t])], rS [(1, .bit true)], rG] [.keep [(2, [])]] (qT (0 < (us.length : Int)) (qI 0 (q ((ints us)[0]? = some [I t]) (qT (t < -2000) ob0))))
  ·by_cases h2 : t > 2000
   ·simp only [decide_eq_true h2, Bool.true_or, Bool.or_true, Bool.not_true, Bool.false_and, Bool.false_eq_true, if_false]
    clear ih
    exact lL [rS [(0, .bit true)], rS [(1, .row 0 [I t])], rS [(1, .bit false), (4, .bit true)], rG] [.keep [(2, [])]] (qT (0 < (us.length : Int)) (qI 0 (q ((ints us)[0]? = some [I t]) (qF (t < -2000) (qT (2000 < t) ob0)))))
   ·simp only [decide_eq_false h1, decide_eq_false h2, Bool.or_false, Bool.not_false, Bool.true_and]
    exact lN [rS [(0, .bit true)], rS [(1, .row 0 [I t])], rS [(1, .bit false), (4, .bit false)], rG] [.keep [(0, []), (5, []), (6, []), (7, [])]] (qT (0 < (us.length : Int)) (qI 0 (q ((ints us)[0]? = some [I t]) (qF (t < -2000) (qF (2000 < t) ob0))))) (ih)
theorem good_ (us : List Int) (hn : us.length ≤ 140737488351232) : SC 13 [.sl 1 (ints us) false] [] (B (goodC none us && decide (us.length ≤ 3))) [] := by
 have lp := good_loop us hn
 cases h : goodC none us with
 | true =>
  simp only [h, if_true] at lp
  by_cases h3 : us.length ≤ 3
  ·simp only [decide_eq_true h3, Bool.and_true]
   exact gF Tryz.func13 [rG, rS [(1, .int (us.length : Int))], oL [.keep [(0, []), (5, []), (6, []), (7, [])]] lp, rS [(1, .int (us.length : Int)), (2, .bit true)]] (qN ints us (ob1 (lp) (qN ints us (qT ((us.length : Int) ≤ 3) ob0))))
  ·simp only [decide_eq_false h3, Bool.and_false]
   exact gF Tryz.func13 [rG, rS [(1, .int (us.length : Int))], oL [.keep [(0, []), (5, []), (6, []), (7, [])]] lp, rS [(1, .int (us.length : Int)), (2, .bit false)]] (qN ints us (ob1 (lp) (qN ints us (qF ((us.length : Int) ≤ 3) ob0))))
 | false =>
  simp only [h, Bool.false_eq_true, if_false] at lp
  simp only [Bool.false_and]
  exact gF Tryz.func13 [rG, rS [(1, .int (us.length : Int))], oL [.keep [(0, []), (5, []), (6, []), (7, [])]] lp] (qN ints us (ob1 (lp) ob0))
def clC (n : Int) : List Int → Int → Int
 | [], k => k
 | t :: l, k => if t ≤ n then clC n l (k + 1) else clC n l k
theorem clC_bound (n : Int) : ∀ (l : List Int) (k : Int), k ≤ clC n l k ∧ clC n l k ≤ k + l.length
 | [], k => by simp [clC]
 | t :: l, k => by
  have h1 := clC_bound n l (k + 1)
  have h2 := clC_bound n l k
  simp only [clC, List.length_cons, Int.natCast_add, Int.natCast_one]
  split <;> omega
theorem class_loop (us : List Int) (n : Int) (hn : us.length ≤ 1000) : ∀ (us' : List Int) (i : Nat) (k : Int), us.drop i = us' → 0 ≤ k → k ≤ i →
  Lp Tryz.prog 21 0 (loopN Tryz.f29 0) ⟨lookT [(1, I n), (5, I k), (8, .sl 1 (ints us) false), (9, I (us.length : Int)), (10, I (i : Int))], []⟩
   (.exit 0) ⟨lookT [(5, I (clC n us' k))], []⟩
 | [], i, k, hd, h0, h1 => by
  have hi := drop_end hd
  simp only [clC]
  exact lL [rS [(0, .bit false)]] [.keep [(5, [])]] (qF ((i : Int) < (us.length : Int)) ob0)
 | t :: us', i, k, hd, h0, h1 => by
  have hi := drop_lt hd
  have hx : (ints us)[i]? = some [I t] := by rw [ints_get, drop_get hd]; rfl
  simp only [clC]
  by_cases h : t ≤ n
  ·rw [if_pos h]
   have ih := class_loop us n hn us' (i + 1) (k + 1) (drop_next hd) (by omega) (by omega)
   simp only [Int.natCast_add, Int.natCast_one] at ih
   clear hd
   exact lN [rS [(0, .bit true)], rS [(0, oW hx)], rS [(2, .bit true)], rS [(1, .int (k + 1))], rS [(0, .int ((i : Int) + 1))]] [.keep [(1, []), (5, []), (8, []), (9, []), (10, [])]] (qT ((i : Int) < (us.length : Int)) (qI i (ob1 hx (qT (t ≤ n) (qw (k + 1) (qw ((i : Int) + 1) ob0)))))) (ih)
  ·rw [if_neg h]
   have ih := class_loop us n hn us' (i + 1) k (drop_next hd) (by omega) (by omega)
   simp only [Int.natCast_add, Int.natCast_one] at ih
   clear hd
   exact lN [rS [(0, .bit true)], rS [(0, oW hx)], rS [(2, .bit false)], rS [(0, .int ((i : Int) + 1))]] [.keep [(1, []), (5, []), (8, []), (9, []), (10, [])]] (qT ((i : Int) < (us.length : Int)) (qI i (ob1 hx (qF (t ≤ n) (qw ((i : Int) + 1) ob0))))) (ih)
theorem class_ (us : List Int) (n : Int) (hn : us.length ≤ 1000) : SC 29 [.sl 1 (ints us) false, I n] [] (I (clC n us 0)) [] := by
 have lp := class_loop us n hn us 0 0 rfl (by omega) (by omega)
 exact gF Tryz.func29 [rG, rG, rS [(1, .int (us.length : Int))], oL [.keep [(1, []), (5, []), (8, []), (9, []), (10, [])]] lp, rG] (qN ints us (ob1 (lp) ob0))
def getI (l : List Int) (i : Nat) : Int := l.getD i 0
theorem getI_get {l : List Int} {i : Nat} (h : i < l.length) : (ints l)[i]? = some [I (getI l i)] := by
 rw [ints_get, List.getElem?_eq_getElem h]; simp [getI, List.getD_eq_getElem?_getD, List.getElem?_eq_getElem h]
theorem getI_mem {l : List Int} {i : Nat} (h : i < l.length) : getI l i ∈ l := by
 simp [getI, List.getD_eq_getElem?_getD, List.getElem?_eq_getElem h]
theorem goodC_mem : ∀ (l : List Int) (p : Option Int), goodC p l = true → ∀ x ∈ l, -2000 ≤ x ∧ x ≤ 2000
 | [], _, _, x, hx => by simp at hx
 | t :: l, p, h, x, hx => by
  simp only [goodC, Bool.and_eq_true, Bool.not_eq_true', Bool.or_eq_false_iff, decide_eq_false_iff_not] at h
  rcases List.mem_cons.1 hx with rfl | hx
  ·omega
  ·exact goodC_mem l _ h.2 x hx
def oneP (l : List Int) (k : Nat) : Prop := 0 < k ∧ k < l.length ∧ getI l k - getI l (k - 1) = 1
instance (l : List Int) (k : Nat) : Decidable (oneP l k) := by unfold oneP; infer_instance
def afterC (l : List Int) (k : Nat) (b : Int) : List Int :=
 if (0 < b ∧ k = l.length) ∨ (b < 0 ∧ k = 0) then [(k : Int)] else if oneP l k then [IntKind.wrap .i64 ((k : Int) + b)] else if 0 < b then [(k : Int), (k : Int) + 1] else [(k : Int) - 1, (k : Int)]
set_option maxRecDepth 20000 in
theorem after_ (l : List Int) (k : Nat) (b : Int) (hl : l.length ≤ 3) (hk : k ≤ l.length) (hr : ∀ x ∈ l, -2000 ≤ x ∧ x ≤ 2000) :
  SC 31 [.sl 1 (ints l) false, I (k : Int), I b] [] (.sl 1 (ints (afterC l k b)) false) [] := by
 by_cases hm : 0 < k ∧ k < l.length
 ·obtain ⟨j, rfl⟩ : ∃ j, k = j + 1 := ⟨k - 1, by omega⟩
  have hx := getI_get hm.2
  have hy := getI_get (show j < l.length by omega)
  have bx := hr _ (getI_mem hm.2)
  have by' := hr _ (getI_mem (show j < l.length by omega))
  clear hr
  have ho : oneP l (j + 1) ↔ getI l (j + 1) - getI l j = 1 := by
   unfold oneP
   simp only [Nat.add_sub_cancel]
   exact ⟨fun h => h.2.2, fun h => ⟨hm.1, hm.2, h⟩⟩
  unfold afterC
  rw [if_neg (by omega)]
  by_cases h1 : getI l (j + 1) - getI l j = 1
  ·rw [if_pos (ho.2 h1)]
   clear ho
   generalize getI l (j + 1) = x at hx bx h1 ⊢
   generalize getI l j = y at hy by' h1 ⊢
   simp only [Int.natCast_add, Int.natCast_one]
   by_cases hb0 : b = 0
   ·rw [wrap64 (by omega) (by omega)]
    exact gK Tryz.func31 [rG, rS [(1, .bit true), (5, .int (l.length : Int)), (6, .bit true), (11, .row (j + 1) [I x]), (15, .int ((j : Int) + 1 - 1)), (16, .row j [I y]), (18, .int (x - y)), (19, .bit true)], rS [(1, .bit false), (10, .bit false)], rG, rS [(2, .int ((j : Int) + 1 + b))]] [] [some 1] (qT (0 < (j : Int) + 1) (qN ints l (qT ((j : Int) + 1 < (l.length : Int)) (q ((j : Int) + 1 = (↑(j + 1) : Int)) (q ((ints l)[j + 1]? = some [I x]) (qw ((j : Int) + 1 - 1) (q ((j : Int) + 1 - 1 = (j : Int)) (q ((ints l)[j]? = some [I y]) (qw (x - y) (qV (x - y == 1) (qF (0 < b) (qF (b < 0) (qw ((j : Int) + 1 + b) ob0)))))))))))))
   ·rcases dsp (0 < b) with ⟨hb1, hb1'⟩ | ⟨hb1, hb1'⟩
    ·skip
     exact gK Tryz.func31 [rG, rS [(1, .bit true), (5, .int (l.length : Int)), (6, .bit true), (11, .row (j + 1) [I x]), (15, .int ((j : Int) + 1 - 1)), (16, .row j [I y]), (18, .int (x - y)), (19, .bit true)], rS [(1, .bit true), (5, .int (l.length : Int)), (6, .bit false), (10, .bit false)], rG, rG] [] [some 1] (qT (0 < (j : Int) + 1) (qN ints l (qT ((j : Int) + 1 < (l.length : Int)) (q ((j : Int) + 1 = (↑(j + 1) : Int)) (q ((ints l)[j + 1]? = some [I x]) (qw ((j : Int) + 1 - 1) (q ((j : Int) + 1 - 1 = (j : Int)) (q ((ints l)[j]? = some [I y]) (qw (x - y) (qV (x - y == 1) (qT (0 < b) (qN ints l (qU ((j : Int) + 1 == (l.length : Int)) (qF (b < 0) ob0))))))))))))))
    ·skip
     exact gK Tryz.func31 [rG, rS [(1, .bit true), (5, .int (l.length : Int)), (6, .bit true), (11, .row (j + 1) [I x]), (15, .int ((j : Int) + 1 - 1)), (16, .row j [I y]), (18, .int (x - y)), (19, .bit true)], rS [(1, .bit false), (10, .bit true)], rG, rG] [] [some 1] (qT (0 < (j : Int) + 1) (qN ints l (qT ((j : Int) + 1 < (l.length : Int)) (q ((j : Int) + 1 = (↑(j + 1) : Int)) (q ((ints l)[j + 1]? = some [I x]) (qw ((j : Int) + 1 - 1) (q ((j : Int) + 1 - 1 = (j : Int)) (q ((ints l)[j]? = some [I y]) (qw (x - y) (qV (x - y == 1) (qF (0 < b) (qT (b < 0) ob0))))))))))))
  ·rw [if_neg (fun h => h1 (ho.1 h))]
   clear ho
   generalize getI l (j + 1) = x at hx bx h1 ⊢
   generalize getI l j = y at hy by' h1 ⊢
   simp only [Int.natCast_add, Int.natCast_one]
   by_cases hb : 0 < b
   ·rw [if_pos hb]
    exact gK Tryz.func31 [rG, rS [(1, .bit true), (5, .int (l.length : Int)), (6, .bit true), (11, .row (j + 1) [I x]), (15, .int ((j : Int) + 1 - 1)), (16, .row j [I y]), (18, .int (x - y)), (19, .bit false)], rS [(1, .bit true), (5, .int (l.length : Int)), (6, .bit false), (10, .bit false)], rG, rS [(1, .bit true)], rS [(2, .int ((j : Int) + 1 + 1))]] [] [some 1] (qT (0 < (j : Int) + 1) (qN ints l (qT ((j : Int) + 1 < (l.length : Int)) (q ((j : Int) + 1 = (↑(j + 1) : Int)) (q ((ints l)[j + 1]? = some [I x]) (qw ((j : Int) + 1 - 1) (q ((j : Int) + 1 - 1 = (j : Int)) (q ((ints l)[j]? = some [I y]) (qw (x - y) (qU (x - y == 1) (qT (0 < b) (qN ints l (qU ((j : Int) + 1 == (l.length : Int)) (qF (b < 0) (qT (0 < b) (qw ((j : Int) + 1 + 1) ob0))))))))))))))))
   ·rw [if_neg hb]
    rcases dsp (b < 0) with ⟨hb1, hb1'⟩ | ⟨hb1, hb1'⟩
    ·skip
     exact gK Tryz.func31 [rG, rS [(1, .bit true), (5, .int (l.length : Int)), (6, .bit true), (11, .row (j + 1) [I x]), (15, .int ((j : Int) + 1 - 1)), (16, .row j [I y]), (18, .int (x - y)), (19, .bit false)], rS [(1, .bit false), (10, .bit true)], rG, rS [(1, .bit false)], rS [(1, .int ((j : Int) + 1 - 1))]] [] [some 1] (qT (0 < (j : Int) + 1) (qN ints l (qT ((j : Int) + 1 < (l.length : Int)) (q ((j : Int) + 1 = (↑(j + 1) : Int)) (q ((ints l)[j + 1]? = some [I x]) (qw ((j : Int) + 1 - 1) (q ((j : Int) + 1 - 1 = (j : Int)) (q ((ints l)[j]? = some [I y]) (qw (x - y) (qU (x - y == 1) (qF (0 < b) (qT (b < 0) (qF (0 < b) (qw ((j : Int) + 1 - 1) ob0))))))))))))))
    ·skip
     exact gK Tryz.func31 [rG, rS [(1, .bit true), (5, .int (l.length : Int)), (6, .bit true), (11, .row (j + 1) [I x]), (15, .int ((j : Int) + 1 - 1)), (16, .row j [I y]), (18, .int (x - y)), (19, .bit false)], rS [(1, .bit false), (10, .bit false)], rG, rS [(1, .bit false)], rS [(1, .int ((j : Int) + 1 - 1))]] [] [some 1] (qT (0 < (j : Int) + 1) (qN ints l (qT ((j : Int) + 1 < (l.length : Int)) (q ((j : Int) + 1 = (↑(j + 1) : Int)) (q ((ints l)[j + 1]? = some [I x]) (qw ((j : Int) + 1 - 1) (q ((j : Int) + 1 - 1 = (j : Int)) (q ((ints l)[j]? = some [I y]) (qw (x - y) (qU (x - y == 1) (qF (0 < b) (qF (b < 0) (qF (0 < b) (qw ((j : Int) + 1 - 1) ob0))))))))))))))
 ·clear hr
  have ho : ¬ oneP l k := fun h => hm ⟨h.1, h.2.1⟩
  unfold afterC
  by_cases hc : (0 < b ∧ k = l.length) ∨ (b < 0 ∧ k = 0)
  ·rw [if_pos hc]
   clear ho
   by_cases h0 : k = 0
   ·subst h0
    by_cases hb : 0 < b
    ·exact gK Tryz.func31 [rG, rG, rS [(1, .bit true), (5, .int (l.length : Int)), (6, .bit true)], rG] [] [some 1] (qT (0 < b) (qN ints l (qV (0 == (l.length : Int)) ob0)))
    ·exact gK Tryz.func31 [rG, rG, rS [(1, .bit false), (10, .bit true)], rG] [] [some 1] (qF (0 < b) (qT (b < 0) ob0))
   ·have hke : ¬ k < l.length := by omega
    have hk2 : k = l.length := by omega
    have hb : 0 < b := by omega
    clear hc hm
    exact gK Tryz.func31 [rG, rS [(1, .bit true), (5, .int (l.length : Int)), (6, .bit false)], rS [(1, .bit true), (5, .int (l.length : Int)), (6, .bit true)], rG] [] [some 1] (qT (0 < (k : Int)) (qN ints l (qF ((k : Int) < (l.length : Int)) (qT (0 < b) (qN ints l (qV ((k : Int) == (l.length : Int)) ob0))))))
  ·rw [if_neg hc, if_neg ho]
   clear ho
   by_cases hb : 0 < b
   ·rw [if_pos hb]
    have h0 : k = 0 := by omega
    subst h0
    exact gK Tryz.func31 [rG, rG, rS [(1, .bit true), (5, .int (l.length : Int)), (6, .bit false), (10, .bit false)], rG, rS [(1, .bit true)], rG] [] [some 1] (qT (0 < b) (qN ints l (qU (0 == (l.length : Int)) (qF (b < 0) (qT (0 < b) ob0)))))
   ·rw [if_neg hb]
    by_cases h0 : k = 0
    ·subst h0
     exact gK Tryz.func31 [rG, rG, rS [(1, .bit false), (10, .bit false)], rG, rS [(1, .bit false)], rG] [] [some 1] (qF (0 < b) (qF (b < 0) (qF (0 < b) ob0)))
    ·have hke : ¬ k < l.length := by omega
     rcases dsp (b < 0) with ⟨hb1, hb1'⟩ | ⟨hb1, hb1'⟩
     ·skip
      exact gK Tryz.func31 [rG, rS [(1, .bit true), (5, .int (l.length : Int)), (6, .bit false)], rS [(1, .bit false), (10, .bit true), (13, .bit false)], rG, rS [(1, .bit false)], rS [(1, .int ((k : Int) - 1))]] [] [some 1] (qT (0 < (k : Int)) (qN ints l (qF ((k : Int) < (l.length : Int)) (qF (0 < b) (qT (b < 0) (qU ((k : Int) == 0) (qF (0 < b) (qw ((k : Int) - 1) ob0))))))))
     ·skip
      exact gK Tryz.func31 [rG, rS [(1, .bit true), (5, .int (l.length : Int)), (6, .bit false)], rS [(1, .bit false), (10, .bit false)], rG, rS [(1, .bit false)], rS [(1, .int ((k : Int) - 1))]] [] [some 1] (qT (0 < (k : Int)) (qN ints l (qF ((k : Int) < (l.length : Int)) (qF (0 < b) (qF (b < 0) (qF (0 < b) (qw ((k : Int) - 1) ob0)))))))
def lessC (l : List Int) (k : Nat) (n : Int) : Int := if k < l.length ∧ getI l k ≤ n then 1 else if 0 < k ∧ n ≤ getI l (k - 1) then 0 else -1
set_option maxRecDepth 20000 in
theorem less_ (l : List Int) (k : Nat) (n : Int) (hl : l.length ≤ 3) (hk : k ≤ l.length) :
  SC 33 [.sl 1 (ints l) false, I (k : Int), I n] [] (I (lessC l k n)) [] := by
 unfold lessC
 by_cases h1 : k < l.length
 ·have hx := getI_get h1
  generalize getI l k = x at hx ⊢
  by_cases h2 : x ≤ n
  ·rw [if_pos ⟨h1, h2⟩]
   exact gF Tryz.func33 [rG, rS [(2, .int (l.length : Int)), (3, .bit true), (7, .row k [I x]), (10, .bit true)], rG] (qN ints l (qT ((k : Int) < (l.length : Int)) (qI k (q ((ints l)[k]? = some [I x]) (qT (x ≤ n) ob0)))))
  ·rw [if_neg (by omega)]
   by_cases h3 : 0 < k
   ·obtain ⟨j, rfl⟩ : ∃ j, k = j + 1 := ⟨k - 1, by omega⟩
    have hy := getI_get (show j < l.length by omega)
    simp only [Nat.add_sub_cancel]
    generalize getI l j = y at hy ⊢
    simp only [Int.natCast_add, Int.natCast_one]
    by_cases h4 : n ≤ y
    ·rw [if_pos ⟨h3, h4⟩]
     exact gF Tryz.func33 [rG, rS [(2, .int (l.length : Int)), (3, .bit true), (7, .row (j + 1) [I x]), (10, .bit false)], rS [(1, .bit true), (5, .int ((j : Int) + 1 - 1)), (6, .row j [I y]), (9, .bit true)], rG] (qN ints l (qT ((j : Int) + 1 < (l.length : Int)) (q ((j : Int) + 1 = (↑(j + 1) : Int)) (q ((ints l)[j + 1]? = some [I x]) (qF (x ≤ n) (qT (0 < (j : Int) + 1) (qw ((j : Int) + 1 - 1) (q ((j : Int) + 1 - 1 = (j : Int)) (q ((ints l)[j]? = some [I y]) (qT (n ≤ y) ob0))))))))))
    ·rw [if_neg (by omega)]
     exact gF Tryz.func33 [rG, rS [(2, .int (l.length : Int)), (3, .bit true), (7, .row (j + 1) [I x]), (10, .bit false)], rS [(1, .bit true), (5, .int ((j : Int) + 1 - 1)), (6, .row j [I y]), (9, .bit false)], rG] (qN ints l (qT ((j : Int) + 1 < (l.length : Int)) (q ((j : Int) + 1 = (↑(j + 1) : Int)) (q ((ints l)[j + 1]? = some [I x]) (qF (x ≤ n) (qT (0 < (j : Int) + 1) (qw ((j : Int) + 1 - 1) (q ((j : Int) + 1 - 1 = (j : Int)) (q ((ints l)[j]? = some [I y]) (qF (n ≤ y) ob0))))))))))
   ·rw [if_neg (by omega)]
    exact gF Tryz.func33 [rG, rS [(2, .int (l.length : Int)), (3, .bit true), (7, .row k [I x]), (10, .bit false)], rS [(1, .bit false)], rG] (qN ints l (qT ((k : Int) < (l.length : Int)) (qI k (q ((ints l)[k]? = some [I x]) (qF (x ≤ n) (qF (0 < (k : Int)) ob0))))))
 ·rw [if_neg (by omega)]
  by_cases h3 : 0 < k
  ·obtain ⟨j, rfl⟩ : ∃ j, k = j + 1 := ⟨k - 1, by omega⟩
   have hy := getI_get (show j < l.length by omega)
   simp only [Nat.add_sub_cancel]
   generalize getI l j = y at hy ⊢
   simp only [Int.natCast_add, Int.natCast_one]
   by_cases h4 : n ≤ y
   ·rw [if_pos ⟨h3, h4⟩]
    exact gF Tryz.func33 [rG, rS [(2, .int (l.length : Int)), (3, .bit false)], rS [(1, .bit true), (5, .int ((j : Int) + 1 - 1)), (6, .row j [I y]), (9, .bit true)], rG] (qN ints l (qF ((j : Int) + 1 < (l.length : Int)) (qT (0 < (j : Int) + 1) (qw ((j : Int) + 1 - 1) (q ((j : Int) + 1 - 1 = (j : Int)) (q ((ints l)[j]? = some [I y]) (qT (n ≤ y) ob0)))))))
   ·rw [if_neg (by omega)]
    exact gF Tryz.func33 [rG, rS [(2, .int (l.length : Int)), (3, .bit false)], rS [(1, .bit true), (5, .int ((j : Int) + 1 - 1)), (6, .row j [I y]), (9, .bit false)], rG] (qN ints l (qF ((j : Int) + 1 < (l.length : Int)) (qT (0 < (j : Int) + 1) (qw ((j : Int) + 1 - 1) (q ((j : Int) + 1 - 1 = (j : Int)) (q ((ints l)[j]? = some [I y]) (qF (n ≤ y) ob0)))))))
  ·rw [if_neg (by omega)]
   exact gF Tryz.func33 [rG, rS [(2, .int (l.length : Int)), (3, .bit false)], rS [(1, .bit false)], rG] (qN ints l (qF ((k : Int) < (l.length : Int)) (qF (0 < (k : Int)) ob0)))
end Go.Ae
namespace Go.Ae
open Go.Proofs
theorem constant_ (n v : Int) : SC 28 [I n, I v] [] (.agg (Expr.mk 0 n v tyZ []).enc) [] := by
 exact gK Tryz.func28 [rG, rG] [.tidO 0 [none, none, none, none, none, some 3, some 7]] [none, none, none, none, none, some 3, some 7] ob0
def cmpE (c : Int) : Expr := if c < 0 then .mk 8 0 2 tyZ [] else .mk 0 c 2 tyZ []
theorem compared_ (c : Int) : SC 32 [I c] [] (.agg (cmpE c).enc) [] := by
 unfold cmpE
 by_cases h : c < 0
 ·rw [if_pos h]
  exact gK Tryz.func32 [rG, rS [(1, .bit true)], rG] [.tidO 0 [none, none, none, none, none, some 3, some 7]] [none, none, none, none, none, some 3, some 7] (qT (c < 0) ob0)
 ·rw [if_neg h]
  have hc := constant_ c 2
  exact gK Tryz.func32 [rG, rS [(1, .bit false)], rS [(1, oC hc)]] [.tidO 0 [none, none, none, none, none, some 3, some 7]] [none, none, none, none, none, some 3, some 7] (qF (c < 0) (ob1 (hc) ob0))
theorem added_one (a m : Int) : SC 30 [.sl 1 (ints [a]) false, I m] [] (.agg (Expr.mk 0 a m tyZ []).enc) [] := by
 have hx : (ints [a])[0]? = some [I a] := rfl
 have hc := constant_ a m
 exact gK Tryz.func30 [rG, rG, rS [(1, .row 0 [I a]), (4, oC hc)]] [.tidO 0 [none, none, none, none, none, some 3, some 7]] [none, none, none, none, none, some 3, some 7] (qI 0 (qC0 ([I a]) [] (ob1 (hc) ob0)))
abbrev pickE (m : Int) : Expr := .mk 8 0 m tyZ []
abbrev constE (a m : Int) : Expr := .mk 0 a m tyZ []
theorem added_lp2 (us : List Int) (m : Int) (rows : List (List AV)) (hn : us.length = 2) :
  Lp Tryz.prog 35 0 (loopN Tryz.f30 0) ⟨lookT [(1, I m), (4, .lp 0 0), (5, .la 1 1), (20, .sl 1 (ints us) false), (21, I 2), (22, I 2)], [.cells [I 0, I 0, I 0, I 0, I 0, .nil, .nil] [], .arr 1 7 rows]⟩
   (.exit 0) ⟨lookT [(4, .lp 0 0), (5, .la 1 1)], [.cells [I 0, I 0, I 0, I 0, I 0, .nil, .nil] [], .arr 1 7 rows]⟩ := by
 exact lL [rG] [.keep [(4, []), (5, [])]] ob0
theorem added_lp1 (us : List Int) (a m : Int) (rows : List (List AV)) (hn : us.length = 2) (hx : (ints us)[1]? = some [I a]) (hr : rows.length = 2) :
  Lp Tryz.prog 35 0 (loopN Tryz.f30 0) ⟨lookT [(1, I m), (4, .lp 0 0), (5, .la 1 1), (20, .sl 1 (ints us) false), (21, I 2), (22, I 1)], [.cells [I 0, I 0, I 0, I 0, I 0, .nil, .nil] [], .arr 1 7 rows]⟩
   (.exit 0) ⟨lookT [(4, .lp 0 0), (5, .la 1 1)], [.cells [I 0, I 0, I 0, I 0, I 0, .nil, .nil] [], .arr 1 7 (rows ++ [(constE a m).enc])]⟩ := by
 have ih := added_lp2 us m (rows ++ [(constE a m).enc]) hn
 have hc := constant_ a m
 have hF : Fits (rows.length + 1) rows.length 88 := by apply Fits.of; omega
 exact lN [rG, rS [(0, oW hx)], rS [(3, oC hc)], rG] [.keep [(1, []), (4, []), (5, []), (20, []), (21, []), (22, [])]] (qI 1 (ob1 hx (ob1 (hc) (q (Fits (List.length rows + 1) (List.length rows) 88) ob0)))) (ih)
def Less (a b : AV) : Prop := ∀ (M : Mem) (μ : List Bd) (v : Value), RepV M μ a v → RepV M μ b v
theorem Less.refl (a : AV) : Less a a := fun _ _ _ h => h
theorem Less.nil (k : Nat) : Less .nil (.sl k [] false) := fun _ _ _ h => h.nilSl k
theorem Less.agg {cs ds : List AV} (hl : cs.length = ds.length) (h : ∀ (j : Nat) (a b : AV), cs[j]? = some a → ds[j]? = some b → Less a b) : Less (.agg cs) (.agg ds) := fun M μ v k => by
 cases k with
 | agg hu hr =>
  refine .agg (by rw [hu, hl]) fun j b u e1 e2 => ?_
  have hj : j < cs.length := by have := (List.getElem?_eq_some_iff.1 e1).1; omega
  exact h j _ b (List.getElem?_eq_getElem hj) e1 M μ u (hr j _ u (List.getElem?_eq_getElem hj) e2)
theorem Less.sl {s : Nat} {xs ys : List (List AV)} {f : Bool} (hl : xs.length = ys.length)
  (h : ∀ (i : Nat) (r r' : List AV), xs[i]? = some r → ys[i]? = some r' → r.length = r'.length ∧ ∀ (j : Nat) (a b : AV), r[j]? = some a → r'[j]? = some b → Less a b) : Less (.sl s xs f) (.sl s ys f) := fun M μ v k => by
 have hx : ∀ (i : Nat) (r' : List AV), ys[i]? = some r' → ∃ r, xs[i]? = some r := fun i r' e => by
  have hi : i < xs.length := by have := (List.getElem?_eq_some_iff.1 e).1; omega
  exact ⟨_, List.getElem?_eq_getElem hi⟩
 cases k with
 | sl0 => obtain rfl : ys = [] := List.length_eq_zero_iff.1 (by simpa using hl.symm); exact .sl0
 | sl0f => obtain rfl : ys = [] := List.length_eq_zero_iff.1 (by simpa using hl.symm); exact .sl0f
 | sl g hne hc hf hz hm hr =>
  rw [hl]
  refine .sl g (fun e => hne (List.length_eq_zero_iff.1 (by rw [hl, e]; rfl))) (by omega) (fun e => by rw [hf e, hl]) (fun i r' e => ?_) (fun i r' j b e1 e2 => ?_) (fun i r' j b e1 e2 => ?_)
  ·obtain ⟨r, er⟩ := hx i r' e
   rw [← (h i r r' er e).1]; exact hz i r er
  ·obtain ⟨r, er⟩ := hx i r' e1
   have hj : j < r.length := by have := (List.getElem?_eq_some_iff.1 e2).1; have := (h i r r' er e1).1; omega
   exact hm i r j _ er (List.getElem?_eq_getElem hj)
  ·obtain ⟨r, er⟩ := hx i r' e1
   have hj : j < r.length := by have := (List.getElem?_eq_some_iff.1 e2).1; have := (h i r r' er e1).1; omega
   exact (h i r r' er e1).2 j _ b (List.getElem?_eq_getElem hj) e2 M [] _ (hr i r j _ er (List.getElem?_eq_getElem hj))
theorem SoundCall.less {P : Program} {f : FuncId} {args : List AV} {σ σ' : List AObj} {r r' : AV} (h : SoundCall P f args σ r σ') (hl : Less r r') : SoundCall P f args σ r' σ' :=
 ⟨h.1, h.2.1, fun M μ w vs h1 h2 h3 => (h.2.2 M μ w vs h1 h2 h3).mono fun e w' ⟨v, M', μ', k1, k2, k3, k4, k5⟩ => ⟨v, M', μ', k1, k2, k3, k4, hl M' μ' v k5⟩⟩
abbrev nilPick : List AV := [I 8, I 0, I 2, I 0, I 0, .nil, .nil]
theorem added_two0 (a b m : Int) : SC 30 [.sl 1 (ints [a, b]) false, I m] [] (.agg [I 6, I 0, I 0, I 0, I 0, .sl 3 [] false, .sl 7 [nilPick, (constE a m).enc, (constE b m).enc] false]) [] := by
 have hc := constant_ a m
 have hF : Fits (1 + 1) 1 88 := by apply Fits.of; omega
 have lp0 : Lp Tryz.prog 35 0 (loopN Tryz.f30 0) ⟨lookT [(1, I m), (4, .lp 0 0), (5, .sl 7 [nilPick] true), (20, .sl 1 (ints [a, b]) false), (21, I 2), (22, I 0)], [.cells [I 0, I 0, I 0, I 0, I 0, .nil, .nil] []]⟩
   (.exit 0) ⟨lookT [(4, .lp 0 0), (5, .la 1 1)], [.cells [I 0, I 0, I 0, I 0, I 0, .nil, .nil] [], .arr 1 7 ([nilPick, (constE a m).enc] ++ [(constE b m).enc])]⟩ := by
  have hx : (ints [a, b])[0]? = some [I a] := rfl
  have ih := added_lp1 [a, b] b m [nilPick, (constE a m).enc] rfl rfl rfl
  exact lN [rG, rS [(0, .row 0 [I a])], rS [(3, oC hc), (5, .loc)], rG] [.keep [(1, []), (4, []), (5, []), (20, []), (21, []), (22, [])]] (qI 0 (qC0 ([I a]) [[I b]] (ob1 (hc) (q (Fits ((1 : Nat) + (1 : Nat)) (1 : Nat) (88 : Nat)) ob0)))) (ih)
 exact gK Tryz.func30 (rGs 4 [oL [.keep [(1, []), (4, []), (5, []), (20, []), (21, []), (22, [])]] lp0, rG]) [.tidO 0 [none, none, none, none, none, some 3, none], .frz 1] [] (ob1 (lp0) ob0)
theorem added_two (a b m : Int) : SC 30 [.sl 1 (ints [a, b]) false, I m] [] (.agg (Expr.mk 6 0 0 tyZ [pickE 2, constE a m, constE b m]).enc) [] := by
 refine (added_two0 a b m).less (.agg rfl fun j x y e1 e2 => ?_)
 match j, e1, e2 with
 | 0, e1, e2 => cases e1; cases e2; exact .refl _
 | 1, e1, e2 => cases e1; cases e2; exact .refl _
 | 2, e1, e2 => cases e1; cases e2; exact .refl _
 | 3, e1, e2 => cases e1; cases e2; exact .refl _
 | 4, e1, e2 => cases e1; cases e2; exact .refl _
 | 5, e1, e2 => cases e1; cases e2; exact .refl _
 | 6, e1, e2 =>
  cases e1; cases e2
  refine .sl rfl fun i r r' e1 e2 => ?_
  match i, e1, e2 with
  | 0, e1, e2 =>
   cases e1; cases e2
   refine ⟨rfl, fun j x y e1 e2 => ?_⟩
   match j, e1, e2 with
   | 0, e1, e2 => cases e1; cases e2; exact .refl _
   | 1, e1, e2 => cases e1; cases e2; exact .refl _
   | 2, e1, e2 => cases e1; cases e2; exact .refl _
   | 3, e1, e2 => cases e1; cases e2; exact .refl _
   | 4, e1, e2 => cases e1; cases e2; exact .refl _
   | 5, e1, e2 => cases e1; cases e2; exact .nil _
   | 6, e1, e2 => cases e1; cases e2; exact .nil _
   | j + 7, e1, e2 => simp at e1
  | 1, e1, e2 => cases e1; cases e2; exact ⟨rfl, fun j x y e1 e2 => by rw [e1] at e2; cases e2; exact .refl _⟩
  | 2, e1, e2 => cases e1; cases e2; exact ⟨rfl, fun j x y e1 e2 => by rw [e1] at e2; cases e2; exact .refl _⟩
  | i + 3, e1, e2 => simp at e1
 | j + 7, e1, e2 => simp at e1
end Go.Ae
namespace Go.Ae
open Go.Proofs
mutual
def TF (m : Int) : Ty → Ty
 | .mk k v us => if k = 2 then .mk 0 m [] else .mk k v (TFs m us)
def TFs (m : Int) : List Ty → List Ty
 | [] => []
 | t :: l => TF m t :: TFs m l
end
@[simp] theorem TFs_length (m : Int) : ∀ l : List Ty, (TFs m l).length = l.length
 | [] => rfl
 | _ :: l => by simp [TFs, TFs_length m l]
mutual
def Ty.sm : Ty → Prop
 | .mk _ _ l => l.length ≤ 1000 ∧ Ty.sms l
def Ty.sms : List Ty → Prop
 | [] => True
 | t :: l => t.sm ∧ Ty.sms l
end
theorem Ty.sms_mem : ∀ {l : List Ty}, Ty.sms l → ∀ t ∈ l, t.sm
 | [], _, t, h => by simp at h
 | x :: l, hs, t, h => by
  rcases List.mem_cons.1 h with rfl | h
  ·exact hs.1
  ·exact Ty.sms_mem hs.2 t h
theorem foldTy_loop (l : List Int) (k v : Int) (us : List Ty) (hn : us.length ≤ 1000) : ∀ (us' : List Ty) (i : Nat) (acc : List (List AV)), us.drop i = us' → acc.length ≤ i →
  (∀ x ∈ us', SC 15 [.agg x.enc, .sl 1 (ints l) false] [] (.agg (TF ((l.length : Int) + 1) x).enc) []) →
  Lp Tryz.prog 32 0 (loopN Tryz.f15 0) ⟨lookT [(1, .sl 1 (ints l) false), (2, .lp 0 0), (4, .lp 1 0), (5, .la 2 1), (16, .sl 3 (Ty.encs us) false), (17, I (us.length : Int)), (18, I (i : Int))],
   [.cells [I k, I v, .sl 3 (Ty.encs us) false] [], .cells [I 0, I 0, .nil] [], .arr 1 3 acc]⟩
   (.exit 0) ⟨lookT [(2, .lp 0 0), (4, .lp 1 0), (5, .la 2 1)], [.cells [I k, I v, .sl 3 (Ty.encs us) false] [], .cells [I 0, I 0, .nil] [], .arr 1 3 (acc ++ Ty.encs (TFs ((l.length : Int) + 1) us'))]⟩
 | [], i, acc, hd, ha, hs => by
  have hi := drop_end hd
  simp only [TFs, Ty.encs, List.append_nil]
  clear hs hd
  exact lL [rS [(0, .bit false)]] [.keep [(2, []), (4, []), (5, [])]] (qF ((i : Int) < (us.length : Int)) ob0)
 | .mk k1 v1 xs :: us', i, acc, hd, ha, hs => by
  have hi := drop_lt hd
  have hx : (Ty.encs us)[i]? = some (Ty.mk k1 v1 xs).enc := by rw [Ty.encs_get, drop_get hd]; rfl
  have hc := hs (.mk k1 v1 xs) (by simp)
  have ih := foldTy_loop l k v us hn us' (i + 1) (acc ++ [(TF ((l.length : Int) + 1) (.mk k1 v1 xs)).enc]) (drop_next hd) (by simp; omega) (fun x hx => hs x (by simp [hx]))
  rw [List.append_assoc] at ih
  simp only [TFs, Ty.encs]
  simp only [List.cons_append, List.nil_append] at ih
  clear hs hd
  simp only [Int.natCast_add] at ih
  have hF : Fits (acc.length + 1) acc.length 40 := by apply Fits.of; omega
  generalize TF ((l.length : Int) + 1) (.mk k1 v1 xs) = X at hc ih ⊢
  obtain ⟨xk, xv, xl⟩ := X
  generalize acc ++ (Ty.mk xk xv xl).enc :: Ty.encs (TFs ((l.length : Int) + 1) us') = R at ih ⊢
  exact lN [rS [(0, .bit true)], rS [(0, oW hx)], rS [(3, oC hc)], rS [(0, .int ((i : Int) + 1))]] [.keep [(1, []), (2, []), (4, []), (5, []), (16, []), (17, []), (18, [])]] (qT ((i : Int) < (us.length : Int)) (qI i (ob1 hx (ob1 (hc) (q (Fits (List.length acc + 1) (List.length acc) 40) (qw ((i : Int) + 1) ob0)))))) (ih)
theorem foldTy_ (l : List Int) (hl : l.length ≤ 1000) : ∀ (t : Ty), t.sm → SC 15 [.agg t.enc, .sl 1 (ints l) false] [] (.agg (TF ((l.length : Int) + 1) t).enc) []
 | .mk k v us, h => by
  have lp := foldTy_loop l k v us h.1 us 0 [] rfl (by simp) (fun x hx => foldTy_ l hl x (Ty.sms_mem h.2 x hx))
  simp only [List.nil_append] at lp
  have hlen := h.1
  clear h
  by_cases hk : k = 2
  ·subst hk
   have hf := fin_0 ((l.length : Int) + 1)
   simp only [TF, if_true]
   clear lp
   exact gK Tryz.func15 [rG, rG, rS [(1, .int (l.length : Int)), (2, .int ((l.length : Int) + 1)), (3, oC hf)]] [.tidO 1 [none, none, some 3]] [] (qN ints l (qw ((l.length : Int) + 1) (ob1 (hf) ob0)))
  ·simp only [TF, if_neg hk]
   generalize TFs ((l.length : Int) + 1) us = us2 at lp ⊢
   exact gK Tryz.func15 [rG, rS [(2, .bit false)], rG, .reg [.acc 5 3] [(2, .int (us.length : Int))], oL [.keep [(1, []), (2, []), (4, []), (5, []), (16, []), (17, []), (18, [])]] lp, rG, rG] [.frz 2] [] (qU (k == 2) (qN Ty.encs us (ob1 (lp) ob0)))
termination_by t => SizeOf.sizeOf t
decreasing_by (have := List.sizeOf_lt_of_mem hx; simp; omega)
end Go.Ae
namespace Go.Ae
open Go.Proofs
def addE (l : List Int) (k : Nat) (b : Int) : Expr := match afterC l k b with
 | [a] => constE a ((l.length : Int) + 1)
 | a :: c :: _ => .mk 6 0 0 tyZ [pickE 2, constE a ((l.length : Int) + 1), constE c ((l.length : Int) + 1)]
 | [] => .mk 0 0 0 tyZ []
theorem afterC_cases (l : List Int) (k : Nat) (b : Int) : (∃ a, afterC l k b = [a]) ∨ ∃ a c, afterC l k b = [a, c] := by
 unfold afterC
 split
 ·exact .inl ⟨_, rfl⟩
 ·split
  ·exact .inl ⟨_, rfl⟩
  ·split
   ·exact .inr ⟨_, _, rfl⟩
   ·exact .inr ⟨_, _, rfl⟩
theorem added_ (l : List Int) (k : Nat) (b : Int) : SC 30 [.sl 1 (ints (afterC l k b)) false, I ((l.length : Int) + 1)] [] (.agg (addE l k b).enc) [] := by
 unfold addE
 rcases afterC_cases l k b with ⟨a, h⟩ | ⟨a, c, h⟩
 ·rw [h]; exact added_one a _
 ·rw [h]; exact added_two a c _
def caseE (l : List Int) (kd n : Int) (i : Nat) : Expr := if kd = 11 then addE l i n else cmpE (lessC l i n)
def caseEs (l : List Int) (kd n : Int) : Nat → Nat → List Expr
 | 0, _ => []
 | r + 1, i => caseE l kd n i :: caseEs l kd n r (i + 1)
@[simp] theorem caseEs_length (l : List Int) (kd n : Int) : ∀ r i, (caseEs l kd n r i).length = r
 | 0, _ => rfl
 | r + 1, i => by simp [caseEs, caseEs_length l kd n r]
theorem caseEs_get (l : List Int) (kd n : Int) : ∀ r i j, j < r → (caseEs l kd n r i)[j]? = some (caseE l kd n (i + j))
 | 0, _, _, h => by omega
 | r + 1, i, 0, _ => by simp [caseEs]
 | r + 1, i, j + 1, h => by
  simp only [caseEs, List.getElem?_cons_succ]
  rw [caseEs_get l kd n r (i + 1) j (by omega)]
  congr 2; omega
mutual
def EF (l : List Int) : Expr → Expr
 | .mk k n v ty us =>
  if k = 9 then .mk 0 (clC n l 0) ((l.length : Int) + 1) tyZ []
  else if k = 10 then .mk 8 0 ((l.length : Int) + 1) tyZ []
  else if k = 11 ∨ k = 12 then .mk 6 0 0 tyZ (EFs l us ++ caseEs l k n (l.length + 1) 0)
  else .mk k n v (if k = 4 then TF ((l.length : Int) + 1) ty else ty) (EFs l us)
def EFs (l : List Int) : List Expr → List Expr
 | [] => []
 | e :: r => EF l e :: EFs l r
end
@[simp] theorem EFs_length (l : List Int) : ∀ r : List Expr, (EFs l r).length = r.length
 | [] => rfl
 | _ :: r => by simp [EFs, EFs_length l r]
theorem EFs_get (l : List Int) : ∀ (r : List Expr) (i : Nat), (EFs l r)[i]? = (r[i]?).map (EF l)
 | [], i => by simp [EFs]
 | t :: r, 0 => by simp [EFs]
 | t :: r, i + 1 => by simp [EFs, EFs_get l r i]
theorem encsE_append : ∀ (l r : List Expr), Expr.encs (l ++ r) = Expr.encs l ++ Expr.encs r
 | [], r => rfl
 | t :: l, r => by simp [Expr.encs, encsE_append l r]
mutual
def Expr.sm : Expr → Prop
 | .mk k _ _ ty l => (k = 4 → ty.sm) ∧ l.length ≤ 1000 ∧ Expr.sms l
def Expr.sms : List Expr → Prop
 | [] => True
 | t :: l => t.sm ∧ Expr.sms l
end
theorem Expr.sms_mem : ∀ {l : List Expr}, Expr.sms l → ∀ t ∈ l, t.sm
 | [], _, t, h => by simp at h
 | x :: l, hs, t, h => by
  rcases List.mem_cons.1 h with rfl | h
  ·exact hs.1
  ·exact Expr.sms_mem hs.2 t h
abbrev exO (k n v tk tv : Int) (tl : List Ty) (us : List Expr) : AObj := .cells [I k, I n, I v, I tk, I tv, .sl 3 (Ty.encs tl) false, .sl 7 (Expr.encs us) false] []
abbrev exZ : AObj := .cells [I 0, I 0, I 0, I 0, I 0, .nil, .nil] []
theorem expr_loop0 (l : List Int) (k n v tk tv : Int) (tl : List Ty) (us : List Expr) (hn : us.length ≤ 1000) : ∀ (us' : List Expr) (i : Nat) (acc : List (List AV)), us.drop i = us' → acc.length ≤ i →
  (∀ x ∈ us', SC 14 [.agg x.enc, .sl 1 (ints l) false] [] (.agg (EF l x).enc) []) →
  Lp Tryz.prog 83 0 (loopN Tryz.f14 0) ⟨lookT [(1, .sl 1 (ints l) false), (2, .lp 0 0), (4, .lp 1 0), (5, I ((l.length : Int) + 1)), (6, .la 2 1), (14, .sl 7 (Expr.encs us) false), (15, I (us.length : Int)), (16, I (i : Int))],
   [exO k n v tk tv tl us, exZ, .arr 1 7 acc]⟩
   (.exit 0) ⟨lookT [(1, .sl 1 (ints l) false), (2, .lp 0 0), (4, .lp 1 0), (5, I ((l.length : Int) + 1)), (6, .la 2 1)], [exO k n v tk tv tl us, exZ, .arr 1 7 (acc ++ Expr.encs (EFs l us'))]⟩
 | [], i, acc, hd, ha, hs => by
  have hi := drop_end hd
  simp only [EFs, Expr.encs, List.append_nil]
  clear hs hd
  exact lL [rS [(0, .bit false)]] [.keep [(1, []), (2, []), (4, []), (5, []), (6, [])]] (qF ((i : Int) < (us.length : Int)) ob0)
 | .mk k1 n1 v1 (.mk t1 w1 m1) xs :: us', i, acc, hd, ha, hs => by
  have hi := drop_lt hd
  have hx : (Expr.encs us)[i]? = some (Expr.mk k1 n1 v1 (.mk t1 w1 m1) xs).enc := by rw [Expr.encs_get, drop_get hd]; rfl
  have hc := hs (.mk k1 n1 v1 (.mk t1 w1 m1) xs) (by simp)
  have ih := expr_loop0 l k n v tk tv tl us hn us' (i + 1) (acc ++ [(EF l (.mk k1 n1 v1 (.mk t1 w1 m1) xs)).enc]) (drop_next hd) (by simp; omega) (fun x hx => hs x (by simp [hx]))
  rw [List.append_assoc] at ih
  simp only [EFs, Expr.encs]
  simp only [List.cons_append, List.nil_append] at ih
  clear hs hd
  simp only [Int.natCast_add] at ih
  have hF : Fits (acc.length + 1) acc.length 88 := by apply Fits.of; omega
  generalize EF l (.mk k1 n1 v1 (.mk t1 w1 m1) xs) = X at hc ih ⊢
  obtain ⟨xk, xn, xv, ⟨xtk, xtv, xtl⟩, xl⟩ := X
  generalize acc ++ (Expr.mk xk xn xv (.mk xtk xtv xtl) xl).enc :: Expr.encs (EFs l us') = R at ih ⊢
  exact lN [rS [(0, .bit true)], rS [(0, oW hx)], rS [(3, oC hc)], rS [(0, .int ((i : Int) + 1))]] [.keep [(1, []), (2, []), (4, []), (5, []), (6, []), (14, []), (15, []), (16, [])]] (qT ((i : Int) < (us.length : Int)) (qI i (ob1 hx (ob1 (hc) (q (Fits (List.length acc + 1) (List.length acc) 88) (qw ((i : Int) + 1) ob0)))))) (ih)
theorem expr_loop1 (l : List Int) (hl : l.length ≤ 3) (hr : ∀ x ∈ l, -2000 ≤ x ∧ x ≤ 2000) (k n v tk tv : Int) (tl : List Ty) (us : List Expr) (hk : k = 11 ∨ k = 12) : ∀ (r i : Nat) (acc : List (List AV)), i + r = l.length + 1 → acc.length ≤ 2000 + i →
  Lp Tryz.prog 83 0 (loopN Tryz.f14 1) ⟨lookT [(1, .sl 1 (ints l) false), (2, .lp 0 0), (4, .lp 1 0), (5, I ((l.length : Int) + 1)), (6, .la 2 1), (44, I ((l.length : Int) + 1)), (45, I (i : Int))],
   [exO k n v tk tv tl us, exZ, .arr 1 7 acc]⟩
   (.exit 3) ⟨lookT [(4, .lp 0 0), (6, .la 1 1)], [exZ, .arr 1 7 (acc ++ Expr.encs (caseEs l k n r i))]⟩
 | 0, i, acc, hi, ha => by
  simp only [caseEs, Expr.encs, List.append_nil]
  clear hr
  exact lL [rS [(0, .bit false)]] [.keep [(4, []), (6, [])]] (qF ((i : Int) < (l.length : Int) + 1) ob0)
 | r + 1, i, acc, hi, ha => by
  have ih := expr_loop1 l hl hr k n v tk tv tl us hk r (i + 1) (acc ++ [(caseE l k n i).enc]) (by omega) (by simp; omega)
  rw [List.append_assoc] at ih
  simp only [caseEs, Expr.encs]
  simp only [List.cons_append, List.nil_append] at ih
  simp only [Int.natCast_add] at ih
  have hF : Fits (acc.length + 1) acc.length 88 := by apply Fits.of; omega
  generalize hR : acc ++ (caseE l k n i).enc :: Expr.encs (caseEs l k n r (i + 1)) = R at ih ⊢
  clear hR
  rcases hk with rfl | rfl
  ·have h1 := after_ l i n hl (by omega) hr
   have h2 := added_ l i n
   have he : caseE l 11 n i = addE l i n := by simp [caseE]
   rw [he] at ih
   clear he hr
   generalize afterC l i n = A at h1 h2
   generalize addE l i n = X at h2 ih
   obtain ⟨xk, xn, xv, ⟨xtk, xtv, xtl⟩, xl⟩ := X
   exact lN [rS [(0, .bit true)], rG, rG, rS [(5, oC h1), (7, oC h2)], rS [(0, .int ((i : Int) + 1))]] [.keep [(1, []), (2, []), (4, []), (5, []), (6, []), (44, []), (45, [])]] (qT ((i : Int) < (l.length : Int) + 1) (ob1 (h1) (ob1 (h2) (q (Fits (List.length acc + 1) (List.length acc) 88) (qw ((i : Int) + 1) ob0))))) (ih)
  ·have h1 := less_ l i n hl (by omega)
   have h2 := compared_ (lessC l i n)
   have he : caseE l 12 n i = cmpE (lessC l i n) := by simp [caseE]
   rw [he] at ih
   clear he hr
   generalize lessC l i n = A at h1 h2 ih
   generalize cmpE A = X at h2 ih
   obtain ⟨xk, xn, xv, ⟨xtk, xtv, xtl⟩, xl⟩ := X
   exact lN [rS [(0, .bit true)], rG, rG, rS [(5, oC h1), (6, oC h2)], rS [(0, .int ((i : Int) + 1))]] [.keep [(1, []), (2, []), (4, []), (5, []), (6, []), (44, []), (45, [])]] (qT ((i : Int) < (l.length : Int) + 1) (ob1 (h1) (ob1 (h2) (q (Fits (List.length acc + 1) (List.length acc) 88) (qw ((i : Int) + 1) ob0))))) (ih)
theorem expr_ (l : List Int) (hl : l.length ≤ 3) (hr : ∀ x ∈ l, -2000 ≤ x ∧ x ≤ 2000) : ∀ (e : Expr), e.sm → SC 14 [.agg e.enc, .sl 1 (ints l) false] [] (.agg (EF l e).enc) [] := by
 intro e
 induction e using Expr.sind with
 | _ k n v ty us ih =>
  intro h
  obtain ⟨tk, tv, tl⟩ := ty
  have lp := expr_loop0 l k n v tk tv tl us h.2.1 us 0 [] rfl (by simp) (fun x hx => ih x hx (Expr.sms_mem h.2.2 x hx))
  simp only [List.nil_append] at lp
  have hlen := h.2.1
  by_cases h9 : k = 9
  ·subst h9
   have h1 := class_ l n (by omega)
   have h2 := constant_ (clC n l 0) ((l.length : Int) + 1)
   simp only [EF, if_true]
   generalize EFs l us = us2 at lp
   generalize clC n l 0 = C at h1 h2 ⊢
   clear h hr ih
   exact gK Tryz.func14 [rG, rS [(1, .int (l.length : Int)), (2, .int ((l.length : Int) + 1))], rG, .reg [.acc 6 7] [(2, .int (us.length : Int))], oL [.keep [(1, []), (2, []), (4, []), (5, []), (6, []), (14, []), (15, []), (16, [])]] lp, rG, rG, rS [(3, oC h1), (5, oC h2)]] [.tidO 1 [none, none, none, none, none, some 3, some 7]] [] (qN ints l (qw ((l.length : Int) + 1) (qN Expr.encs us (ob1 (lp) (ob1 (h1) (ob1 (h2) ob0))))))
  ·by_cases h10 : k = 10
   ·subst h10
    simp only [EF, if_true, if_neg h9]
    generalize EFs l us = us2 at lp
    clear h hr ih
    exact gK Tryz.func14 [rG, rS [(1, .int (l.length : Int)), (2, .int ((l.length : Int) + 1))], rG, .reg [.acc 6 7] [(2, .int (us.length : Int))], oL [.keep [(1, []), (2, []), (4, []), (5, []), (6, []), (14, []), (15, []), (16, [])]] lp, rG, rG, rG, rG] [.tidO 1 [none, none, none, none, none, some 3, some 7]] [] (qN ints l (qw ((l.length : Int) + 1) (qN Expr.encs us (ob1 (lp) ob0))))
   ·by_cases h11 : k = 11 ∨ k = 12
    ·simp only [EF, if_neg h9, if_neg h10, if_pos h11]
     have hl2 : (Expr.encs (EFs l us)).length = us.length := by rw [Expr.encs_length, EFs_length]
     have lp1 := expr_loop1 l hl hr k n v tk tv tl us h11 (l.length + 1) 0 (Expr.encs (EFs l us)) (by omega) (by omega)
     rw [← encsE_append] at lp1
     simp only [Int.natCast_zero] at lp1
     generalize EFs l us ++ caseEs l k n (l.length + 1) 0 = us3 at lp1 ⊢
     generalize EFs l us = us2 at lp lp1 hl2
     clear h hr ih
     rcases h11 with rfl | rfl
     ·exact gK Tryz.func14 ([rG, rS [(1, .int (l.length : Int)), (2, .int ((l.length : Int) + 1))], rG, .reg [.acc 6 7] [(2, .int (us.length : Int))], oL [.keep [(1, []), (2, []), (4, []), (5, []), (6, []), (14, []), (15, []), (16, [])]] lp] ++ (rGs 5 [oL [.keep [(1, []), (2, []), (4, []), (5, []), (6, []), (44, []), (45, [])]] lp1, rG])) [.tidO 0 [none, none, none, none, none, some 3, none], .frz 1] [] (qN ints l (qw ((l.length : Int) + 1) (qN Expr.encs us (ob1 (lp) (ob1 (lp1) ob0)))))
     ·exact gK Tryz.func14 ([rG, rS [(1, .int (l.length : Int)), (2, .int ((l.length : Int) + 1))], rG, .reg [.acc 6 7] [(2, .int (us.length : Int))], oL [.keep [(1, []), (2, []), (4, []), (5, []), (6, []), (14, []), (15, []), (16, [])]] lp] ++ (rGs 6 [oL [.keep [(1, []), (2, []), (4, []), (5, []), (6, []), (44, []), (45, [])]] lp1, rG])) [.tidO 0 [none, none, none, none, none, some 3, none], .frz 1] [] (qN ints l (qw ((l.length : Int) + 1) (qN Expr.encs us (ob1 (lp) (ob1 (lp1) ob0)))))
    ·by_cases h4 : k = 4
     ·subst h4
      have ht := foldTy_ l (by omega) (.mk tk tv tl) (h.1 rfl)
      simp only [EF, if_neg h9, if_neg h10, if_neg h11, if_true]
      generalize TF ((l.length : Int) + 1) (.mk tk tv tl) = T at ht ⊢
      obtain ⟨uk, uv, ul⟩ := T
      generalize EFs l us = us2 at lp ⊢
      clear h hr ih
      exact gK Tryz.func14 ([rG, rS [(1, .int (l.length : Int)), (2, .int ((l.length : Int) + 1))], rG, .reg [.acc 6 7] [(2, .int (us.length : Int))], oL [.keep [(1, []), (2, []), (4, []), (5, []), (6, []), (14, []), (15, []), (16, [])]] lp] ++ (rGs 6 [rS [(3, oC ht)], rG, rG])) [.frz 2] [] (qN ints l (qw ((l.length : Int) + 1) (qN Expr.encs us (ob1 (lp) (ob1 (ht) ob0)))))
     ·simp only [EF, if_neg h9, if_neg h10, if_neg h11, if_neg h4]
      generalize EFs l us = us2 at lp ⊢
      clear h hr ih
      exact gK Tryz.func14 [rG, rS [(1, .int (l.length : Int)), (2, .int ((l.length : Int) + 1))], rG, .reg [.acc 6 7] [(2, .int (us.length : Int))], oL [.keep [(1, []), (2, []), (4, []), (5, []), (6, []), (14, []), (15, []), (16, [])]] lp, rG, rS [(0, .bit false)], rS [(0, .bit false)], rS [(0, .bit false)], rS [(0, .bit false)], rS [(0, .bit false)], rG, rG] [.frz 2] [] (qN ints l (qw ((l.length : Int) + 1) (qN Expr.encs us (ob1 (lp) (qU (k == 9) (qU (k == 10) (qU (k == 11) (qU (k == 12) (qU (k == 4) ob0)))))))))
end Go.Ae
namespace Go.Ae
theorem goodC_some {t p : Int} {l : List Int} (h : goodC (some p) (t :: l) = true) : p < t ∧ goodC (some t) l = true := by
 simp only [goodC, Bool.and_eq_true, Bool.not_eq_true', Bool.or_eq_false_iff, decide_eq_false_iff_not] at h
 exact ⟨by omega, h.2⟩
theorem goodC_gt : ∀ {l : List Int} {p : Int}, goodC (some p) l = true → ∀ i, i < l.length → p < getI l i
 | t :: l, p, h, 0, _ => (goodC_some h).1
 | t :: l, p, h, i + 1, hi => by
  have h2 := goodC_some h
  have := goodC_gt h2.2 i (by simpa using hi)
  have e : getI (t :: l) (i + 1) = getI l i := by simp [getI]
  rw [e]; omega
theorem goodC_lt : ∀ {l : List Int} {p : Option Int}, goodC p l = true → ∀ i j, i < j → j < l.length → getI l i < getI l j
 | t :: l, p, h, i, j, hij, hj => by
  have h2 : goodC (some t) l = true := by
   simp only [goodC, Bool.and_eq_true] at h; exact h.2
  obtain ⟨j, rfl⟩ : ∃ j', j = j' + 1 := ⟨j - 1, by omega⟩
  have ej : getI (t :: l) (j + 1) = getI l j := by simp [getI]
  rw [ej]
  cases i with
  | zero => exact goodC_gt h2 j (by simpa using hj)
  | succ i =>
   have ei : getI (t :: l) (i + 1) = getI l i := by simp [getI]
   rw [ei]
   exact goodC_lt h2 i j (by omega) (by simpa using hj)
theorem clC_none : ∀ {l : List Int} (n k0 : Int), (∀ i, i < l.length → n < getI l i) → clC n l k0 = k0
 | [], n, k0, _ => rfl
 | t :: l, n, k0, h => by
  have h0 := h 0 (by simp)
  have e : getI (t :: l) 0 = t := by simp [getI]
  rw [e] at h0
  simp only [clC]
  rw [if_neg (by omega)]
  exact clC_none n k0 fun i hi => by
   have := h (i + 1) (by simpa using hi)
   have e : getI (t :: l) (i + 1) = getI l i := by simp [getI]
   rwa [e] at this
theorem clC_char : ∀ {l : List Int} {p : Option Int}, goodC p l = true → ∀ (n k0 : Int), ∃ k : Nat, k ≤ l.length ∧ clC n l k0 = k0 + k ∧ (∀ i, i < k → getI l i ≤ n) ∧ (∀ i, k ≤ i → i < l.length → n < getI l i)
 | [], _, _, n, k0 => ⟨0, by simp, by simp [clC], by simp, by simp⟩
 | t :: l, p, h, n, k0 => by
  have h2 : goodC (some t) l = true := by
   simp only [goodC, Bool.and_eq_true] at h; exact h.2
  have e0 : getI (t :: l) 0 = t := by simp [getI]
  have es : ∀ i, getI (t :: l) (i + 1) = getI l i := fun i => by simp [getI]
  by_cases ht : t ≤ n
  ·obtain ⟨k, h3, h4, h5, h6⟩ := clC_char h2 n (k0 + 1)
   refine ⟨k + 1, by simp; omega, by simp only [clC]; rw [if_pos ht, h4]; simp only [Int.natCast_add, Int.natCast_one]; omega, fun i hi => ?_, fun i hi hl => ?_⟩
   ·cases i with
    | zero => rw [e0]; exact ht
    | succ i => rw [es]; exact h5 i (by omega)
   ·obtain ⟨i, rfl⟩ : ∃ i', i = i' + 1 := ⟨i - 1, by omega⟩
    rw [es]; exact h6 i (by omega) (by simpa using hl)
  ·have hall : ∀ i, i < l.length → n < getI l i := fun i hi => by have := goodC_gt h2 i hi; omega
   refine ⟨0, by simp, by simp only [clC]; rw [if_neg ht, clC_none n k0 hall]; simp, by simp, fun i _ hl => ?_⟩
   cases i with
   | zero => rw [e0]; omega
   | succ i => rw [es]; exact hall i (by simpa using hl)
theorem cls {l : List Int} (h : goodC none l = true) (n : Int) : ∃ k : Nat, k ≤ l.length ∧ clC n l 0 = k ∧ (∀ i, i < k → getI l i ≤ n) ∧ (∀ i, k ≤ i → i < l.length → n < getI l i) := by
 obtain ⟨k, h1, h2, h3, h4⟩ := clC_char h n 0
 exact ⟨k, h1, by omega, h3, h4⟩
theorem after_ok {l : List Int} (h : goodC none l = true) (hl : l.length ≤ 3) {w b : Int} (hb : b = 1 ∨ b = -1) {k : Nat} (hk : clC w l 0 = (k : Int)) :
  (∀ a, afterC l k b = [a] → clC (w + b) l 0 = a) ∧ ∀ a c, afterC l k b = [a, c] → a ≠ c ∧ (clC (w + b) l 0 = a ∨ clC (w + b) l 0 = c) := by
 obtain ⟨k1, q1, q2, q3, q4⟩ := cls h w
 obtain ⟨k2, r1, r2, r3, r4⟩ := cls h (w + b)
 obtain rfl : k1 = k := by omega
 rw [r2]
 have hlt := fun i j => goodC_lt h i j
 have hr := goodC_mem l none h
 unfold afterC
 rcases hb with rfl | rfl
 ·have a1 : k1 ≤ k2 := by
   by_cases hc : k1 ≤ k2
   ·exact hc
   ·have := q3 k2 (by omega); have := r4 k2 (by omega) (by omega); omega
  have a2 : k2 ≤ k1 + 1 := by
   by_cases hc : k2 ≤ k1 + 1
   ·exact hc
   ·have := r3 (k1 + 1) (by omega); have := q4 k1 (by omega) (by omega); have := hlt k1 (k1 + 1) (by omega) (by omega); omega
  by_cases hc : ((0 : Int) < 1 ∧ k1 = l.length) ∨ ((1 : Int) < 0 ∧ k1 = 0)
  ·rw [if_pos hc]
   exact ⟨fun a e => by cases e; omega, fun a c e => by cases e⟩
  ·rw [if_neg hc]
   by_cases ho : oneP l k1
   ·rw [if_pos ho]
    obtain ⟨o1, o2, o3⟩ := ho
    have hw : IntKind.wrap .i64 ((k1 : Int) + 1) = (k1 : Int) + 1 := wrap64 (by omega) (by omega)
    rw [hw]
    refine ⟨fun a e => ?_, fun a c e => by cases e⟩
    cases e
    have := q3 (k1 - 1) (by omega)
    have := q4 k1 (by omega) o2
    by_cases hk2 : k2 = k1
    ·have := r4 k1 (by omega) o2; omega
    ·omega
   ·rw [if_neg ho, if_pos (by omega)]
    exact ⟨fun a e => (by simp at e), fun a c e => by simp only [List.cons.injEq, and_true] at e; omega⟩
 ·have a1 : k2 ≤ k1 := by
   by_cases hc : k2 ≤ k1
   ·exact hc
   ·have := r3 k1 (by omega); have := q4 k1 (by omega) (by omega); omega
  have a2 : k1 ≤ k2 + 1 := by
   by_cases hc : k1 ≤ k2 + 1
   ·exact hc
   ·have := r4 k2 (by omega) (by omega); have := q3 (k2 + 1) (by omega); have := hlt k2 (k2 + 1) (by omega) (by omega); omega
  by_cases hc : ((0 : Int) < -1 ∧ k1 = l.length) ∨ ((-1 : Int) < 0 ∧ k1 = 0)
  ·rw [if_pos hc]
   exact ⟨fun a e => by cases e; omega, fun a c e => by cases e⟩
  ·rw [if_neg hc]
   by_cases ho : oneP l k1
   ·rw [if_pos ho]
    obtain ⟨o1, o2, o3⟩ := ho
    have hw : IntKind.wrap .i64 ((k1 : Int) + -1) = (k1 : Int) + -1 := wrap64 (by omega) (by omega)
    rw [hw]
    refine ⟨fun a e => ?_, fun a c e => by cases e⟩
    cases e
    have := q3 (k1 - 1) (by omega)
    have := q4 k1 (by omega) o2
    by_cases hk2 : k2 = k1
    ·have := r3 (k1 - 1) (by omega); omega
    ·omega
   ·rw [if_neg ho, if_neg (by omega)]
    exact ⟨fun a e => (by simp at e), fun a c e => by simp only [List.cons.injEq, and_true] at e; omega⟩
theorem less_ok {l : List Int} (h : goodC none l = true) {w n : Int} {k : Nat} (hk : clC w l 0 = (k : Int)) (hc : ¬ lessC l k n < 0) : lessC l k n = if w < n then 1 else 0 := by
 obtain ⟨k1, q1, q2, q3, q4⟩ := cls h w
 obtain rfl : k1 = k := by omega
 unfold lessC at hc ⊢
 by_cases h1 : k1 < l.length ∧ getI l k1 ≤ n
 ·have := q4 k1 (by omega) h1.1
  rw [if_pos h1, if_pos (by omega)]
 ·rw [if_neg h1] at hc ⊢
  by_cases h2 : 0 < k1 ∧ n ≤ getI l (k1 - 1)
  ·have := q3 (k1 - 1) (by omega)
   rw [if_pos h2, if_neg (by omega)]
  ·rw [if_neg h2] at hc; omega
end Go.Ae
namespace Go.Ae
def idxC (x y z : Int) : Int := if z = x then 0 else if z = y then 1 else -1
end Go.Ae
namespace Go.Ae.N
def FD (l : List Int) (d : Def) : Def := ⟨d.name, TF ((l.length : Int) + 1) d.param, TF ((l.length : Int) + 1) d.result, EF l d.body⟩
def foldP (l : List Int) (p : Prog) : Prog := ⟨p.events, p.defs.map (FD l), EF l p.main⟩
section
variable {p : Prog} {n v : Int} {ty t : Ty} {l : List Expr} {sc : List Ty}
theorem inv_int2 (h : tImp p (.mk 9 n v ty l) sc = (t, true)) : -1000 ≤ n ∧ n ≤ 1000 := by
 rw [tImp_int] at h
 simp only [Prod.mk.injEq, Bool.and_eq_true, decide_eq_true_eq] at h
 exact ⟨h.2.1.2, h.2.2⟩
theorem addC11 {x : Ty × Bool} (h : (addC 11 n x).2 = true) : n = 1 ∨ n = -1 := by
 obtain ⟨⟨xk, xv, xl⟩, b⟩ := x
 simp only [addC] at h
 split at h
 ·simp only [if_true, Bool.or_eq_true, decide_eq_true_eq] at h; exact h
 ·simp at h
theorem inv_add2 (h : tImp p (.mk 11 n v ty l) sc = (t, true)) : n = 1 ∨ n = -1 := by
 by_cases h2 : l.length = 1
 ·obtain ⟨a, rfl⟩ := len1 h2
  rw [tImp_add] at h
  split at h
  ·exact addC11 (x := tImp p a sc) (by rw [h])
  ·simp at h
 ·rw [tImp_add0 _ _ _ _ _ _ h2] at h; simp at h
end
inductive VR (p : Prog) (l : List Int) (K : Int) : Ty → Vl → Vl → Prop
 | num {n k : Int} : VR p l K (tyF k) (.mk n 0 none []) (.mk n 0 none [])
 | int {n : Int} (h0 : -K ≤ n) (h1 : n ≤ K) : VR p l K tyI (.mk n 0 none []) (.mk (clC n l 0) 0 none [])
 | fn {i : Nat} {d : Def} (h : p.defs[i]? = some d) : VR p l K (.mk 1 0 [d.param, d.result]) (.mk 0 ((i : Int) + 1) none []) (.mk 0 ((i : Int) + 1) none [])
 | clo {n v : Int} {ty b : Ty} {a : Expr} {env env' : List Vl} (sc : List Ty) (hl : env.length = sc.length) (hl' : env'.length = sc.length)
   (he : ∀ (i : Nat) (w w' : Vl) (t : Ty), env[i]? = some w → env'[i]? = some w' → sc[i]? = some t → VR p l K t w w') (hv : ScV (ty :: sc)) (ht : tImp p a (ty :: sc).reverse = (b, true)) :
   VR p l K (.mk 1 0 [ty, b]) (.mk 0 0 (some (.mk 4 n v ty [a])) env) (.mk 0 0 (some (EF l (.mk 4 n v ty [a]))) env')
theorem VR.mono {p : Prog} {l : List Int} {K K' : Int} (hK : K ≤ K') {t : Ty} {w w' : Vl} (h : VR p l K t w w') : VR p l K' t w w' := by
 induction h with
 | num => exact .num
 | int h0 h1 => exact .int (by omega) (by omega)
 | fn h => exact .fn h
 | clo sc hl hl' he hv ht ih => exact .clo sc hl hl' ih hv ht
structure EnvR (p : Prog) (l : List Int) (K : Int) (env env' : List Vl) (sc : List Ty) : Prop where
 l1 : env.length = sc.length
 l2 : env'.length = sc.length
 get : ∀ (i : Nat) (w w' : Vl) (t : Ty), env[i]? = some w → env'[i]? = some w' → sc[i]? = some t → VR p l K t w w'
 v : ScV sc
theorem EnvR.nil {p : Prog} {l : List Int} {K : Int} : EnvR p l K [] [] [] := ⟨rfl, rfl, by simp, by simp [ScV]⟩
theorem EnvR.cons {p : Prog} {l : List Int} {K : Int} {env env' : List Vl} {sc : List Ty} {w w' : Vl} {t : Ty} (hv : VR p l K t w w') (ht : t.VI) (h : EnvR p l K env env' sc) : EnvR p l K (w :: env) (w' :: env') (t :: sc) := by
 refine ⟨by simp [h.l1], by simp [h.l2], fun i x x' u e1 e2 e3 => ?_, fun u hu => ?_⟩
 ·cases i with
  | zero => simp at e1 e2 e3; subst e1; subst e2; subst e3; exact hv
  | succ i => exact h.get i x x' u (by simpa using e1) (by simpa using e2) (by simpa using e3)
 ·rcases List.mem_cons.1 hu with rfl | hu
  ·exact ht
  ·exact h.v u hu
theorem EnvR.mono {p : Prog} {l : List Int} {K K' : Int} (hK : K ≤ K') {env env' : List Vl} {sc : List Ty} (h : EnvR p l K env env' sc) : EnvR p l K' env env' sc :=
 ⟨h.l1, h.l2, fun i w w' t e1 e2 e3 => (h.get i w w' t e1 e2 e3).mono hK, h.v⟩
theorem EnvR.at {p : Prog} {l : List Int} {K : Int} {env env' : List Vl} {sc : List Ty} (h : EnvR p l K env env' sc) {n : Int} {t : Ty} (h0 : 0 ≤ n) (h1 : n < (sc.reverse.length : Int)) (h2 : sc.reverse[sc.reverse.length - 1 - n.toNat]? = some t) :
  ∃ w w', env[n.toNat]? = some w ∧ env'[n.toNat]? = some w' ∧ VR p l K t w w' := by
 have hn : n.toNat < sc.length := by simp at h1; omega
 have : sc[n.toNat]? = some t := by
  rw [List.getElem?_reverse (by simp; omega)] at h2
  rw [← h2]
  congr 1
  simp
  omega
 have hn2 : n.toNat < env.length := by rw [h.l1]; exact hn
 have hn3 : n.toNat < env'.length := by rw [h.l2]; exact hn
 exact ⟨env[n.toNat], env'[n.toNat], List.getElem?_eq_getElem hn2, List.getElem?_eq_getElem hn3, h.get _ _ _ _ (List.getElem?_eq_getElem hn2) (List.getElem?_eq_getElem hn3) this⟩
def ER (p : Prog) (l : List Int) (K : Int) (e : Expr) (env env' : List Vl) (t : Ty) : Prop := ∃ sc, EnvR p l K env env' sc ∧ tImp p e sc.reverse = (t, true)
inductive FR (p : Prog) (l : List Int) (K : Int) (T : Ty) : List Fr → List Fr → Ty → Prop
 | nil : FR p l K T [] [] T
 | arg {n v : Int} {ty a b : Ty} {f x : Expr} {env env' : List Vl} {fn fn' : Vl} {r r' : List Fr} (hx : ER p l K x env env' a) (ha : a.VI) (hr : FR p l K T r r' b) :
   FR p l K T (⟨0, some (.mk 3 n v ty [f, x]), env, fn⟩ :: r) (⟨0, some (EF l (.mk 3 n v ty [f, x])), env', fn'⟩ :: r') (.mk 1 0 [a, b])
 | call {a b : Ty} {fn fn' : Vl} {r r' : List Fr} (ha : a.VI) (hf : VR p l K (.mk 1 0 [a, b]) fn fn') (hr : FR p l K T r r' b) : FR p l K T (⟨1, none, [], fn⟩ :: r) (⟨1, none, [], fn'⟩ :: r') a
 | lt {n v : Int} {ty a b : Ty} {f x : Expr} {env env' : List Vl} {fn fn' : Vl} {r r' : List Fr} {sc : List Ty} (he : EnvR p l K env env' sc) (ha : a.VI) (hx : tImp p x (a :: sc).reverse = (b, true)) (hr : FR p l K T r r' b) :
   FR p l K T (⟨2, some (.mk 5 n v ty [f, x]), env, fn⟩ :: r) (⟨2, some (EF l (.mk 5 n v ty [f, x])), env', fn'⟩ :: r') a
 | cs {n v : Int} {ty b : Ty} {f : Expr} {xs : List Expr} {env env' : List Vl} {fn fn' : Vl} {r r' : List Fr} {sc : List Ty} (he : EnvR p l K env env' sc) (hx : ∀ x ∈ xs, tImp p x sc.reverse = (b, true)) (hr : FR p l K T r r' b) :
   FR p l K T (⟨3, some (.mk 6 n v ty (f :: xs)), env, fn⟩ :: r) (⟨3, some (EF l (.mk 6 n v ty (f :: xs))), env', fn'⟩ :: r') (tyF xs.length)
 | ad {n v : Int} {ty : Ty} {f : Expr} {env env' : List Vl} {fn fn' : Vl} {r r' : List Fr} (hb : n = 1 ∨ n = -1) (hr : FR p l K T r r' tyI) :
   FR p l K T (⟨4, some (.mk 11 n v ty [f]), env, fn⟩ :: r) (⟨3, some (EF l (.mk 11 n v ty [f])), env', fn'⟩ :: r') tyI
 | ls {n v : Int} {ty : Ty} {f : Expr} {env env' : List Vl} {fn fn' : Vl} {r r' : List Fr} (hr : FR p l K T r r' (tyF 2)) :
   FR p l K T (⟨5, some (.mk 12 n v ty [f]), env, fn⟩ :: r) (⟨3, some (EF l (.mk 12 n v ty [f])), env', fn'⟩ :: r') tyI
theorem FR.mono {p : Prog} {l : List Int} {K K' : Int} (hK : K ≤ K') {T t : Ty} {r r' : List Fr} (h : FR p l K T r r' t) : FR p l K' T r r' t := by
 induction h with
 | nil => exact .nil
 | arg hx ha hr ih => obtain ⟨sc, h1, h2⟩ := hx; exact .arg ⟨sc, h1.mono hK, h2⟩ ha ih
 | call ha hf hr ih => exact .call ha (hf.mono hK) ih
 | lt he ha hx hr ih => exact .lt (he.mono hK) ha hx ih
 | cs he hx hr ih => exact .cs (he.mono hK) hx ih
 | ad hb hr ih => exact .ad hb ih
 | ls hr ih => exact .ls ih
def Sim (p : Prog) (l : List Int) (T : Ty) (s : MS) (s2 : Go.Ae.MS) : Prop :=
 match s.expr with
 | some e => ∃ t, ER p l (1099511627776 + s.steps) e s.env s2.env t ∧ s2.expr = some (EF l e) ∧ FR p l (1099511627776 + s.steps) T s.fr s2.fr t
 | none => ∃ t, VR p l (1099511627776 + s.steps) t s.val s2.val ∧ s2.expr = none ∧ FR p l (1099511627776 + s.steps) T s.fr s2.fr t
def outs (l ch is : List Int) (s : MS) : List Int :=
 match s.expr with
 | some (.mk k _ _ _ _) => if k = 8 then (ch[s.used]?).toList else if k = 10 then ((is[s.ui]?).map fun n => clC n l 0).toList else []
 | none => match s.fr, s.val with
  | ⟨k, some (.mk _ n _ _ _), _, _⟩ :: _, .mk w _ _ _ =>
   if k = 4 then (match afterC l (clC w l 0).toNat n with
    | [x, y] => [idxC x y (clC (IntKind.wrap .i64 (w + n)) l 0)]
    | _ => [])
   else if k = 5 then (if lessC l (clC w l 0).toNat n < 0 then [if w < n then 1 else 0] else []) else []
  | _, _ => []
inductive Mvs (q : Prog) (F : Int) (own : List Int) : Go.Ae.MS → Go.Ae.MS → Prop
 | refl {s} : Mvs q F own s s
 | more {s s1 s2} (h : Go.Ae.Mv q F own s (.go s1)) (r : Mvs q F own s1 s2) : Mvs q F own s s2
theorem Mvs.one {q : Prog} {F : Int} {own : List Int} {s s1 : Go.Ae.MS} (h : Go.Ae.Mv q F own s (.go s1)) : Mvs q F own s s1 := .more h .refl
theorem Mvs.run {q : Prog} {F : Int} {own : List Int} {s s1 s' : Go.Ae.MS} {en v w : Int} {b : Bool} (h : Mvs q F own s s1) (k : Go.Ae.MRun q F own s s' en v w b) : Go.Ae.MRun q F own s1 s' en v w b := by
 induction h with
 | refl => exact k
 | more h r ih =>
  cases k with
  | stop k => have := k.det h; cases this
  | more k r2 => have := k.det h; cases this; exact ih r2
inductive FRun (p : Prog) (fuel : Int) (ch is l : List Int) : MS → List Int → MS → List Int → Int → Int → Int → Bool → Prop
 | stop {s s' o en v w b} (h : Mv p fuel ch is s (.stop s' en v w b)) : FRun p fuel ch is l s o s' o en v w b
 | more {s s1 s' o o' en v w b} (h : Mv p fuel ch is s (.go s1)) (r : FRun p fuel ch is l s1 (o ++ outs l ch is s) s' o' en v w b) : FRun p fuel ch is l s o s' o' en v w b
theorem frun_ex {p : Prog} {fuel : Int} {ch is l : List Int} {s s' : MS} {en v w : Int} {b : Bool} (h : MRun p fuel ch is s s' en v w b) : ∀ o, ∃ o', FRun p fuel ch is l s o s' o' en v w b := by
 induction h with
 | stop h => exact fun o => ⟨o, .stop h⟩
 | more h r ih => exact fun o => by obtain ⟨o', k⟩ := ih (o ++ outs l ch is _); exact ⟨o', .more h k⟩
theorem FRun.pre {p : Prog} {fuel : Int} {ch is l : List Int} {s s' : MS} {o o' : List Int} {en v w : Int} {b : Bool} (h : FRun p fuel ch is l s o s' o' en v w b) : o <+: o' := by
 induction h with
 | stop => exact List.prefix_refl _
 | more h r ih => exact (List.prefix_append ..).trans ih
end Go.Ae.N
namespace Go.Ae.N
open Go.Proofs
theorem at_loop : ∀ (n : Nat) (env : List Vl), n < env.length → n ≤ 9223372036854775807 →
  Lp Tryz.prog 17 0 (loopN Tryz.f65 0) ⟨lookT [(0, envE env), (1, I (n : Int)), (4, .lp 0 0)], [.cells [I 0, I 0, .ip [] 0, .ip [] 0] []]⟩
   (.exit 0) ⟨lookT [(0, envE (env.drop n)), (4, .lp 0 0)], [.cells [I 0, I 0, .ip [] 0, .ip [] 0] []]⟩
 | 0, env, h, h2 => by
  simp only [List.drop_zero]
  exact lL [rG] [.keep [(0, []), (4, [])]] ob0
 | n + 1, .mk vn vf vl ve :: env, h, h2 => by
  have hn : n < env.length := by simpa using h
  have ih := at_loop n env hn (by omega)
  simp only [List.drop_succ_cons, Int.natCast_add]
  clear h
  exact lN [rS [(0, .int ((n : Int) + 1)), (1, .bit true)], rG, rS [(0, .int ((n : Int) + 1)), (1, .int ((n : Int) + 1 - 1)), (2, .int (n : Int))]] [.keep [(0, []), (1, []), (4, [])]] (q ((n : Int) + (1 : Int) = (n : Int) + 1) (qT (0 < (n : Int) + 1) (q ((n : Int) + (1 : Int) = (n : Int) + 1) (qw ((n : Int) + 1 - 1) (q ((n : Int) + 1 - 1 = (n : Int)) ob0))))) (ih)
theorem at_ (env : List Vl) (n : Nat) (vn vf : Int) (vl : Option Expr) (ve : List Vl) (h : env[n]? = some (.mk vn vf vl ve)) (h2 : n ≤ 9223372036854775807) :
  SC 65 [envE env, I (n : Int)] [] (.agg [I vn, I vf, lamE vl, envE ve]) [] := by
 have hn : n < env.length := by
  apply Classical.byContradiction
  intro hc
  rw [List.getElem?_eq_none (by omega)] at h
  cases h
 have lp := at_loop n env hn h2
 obtain ⟨r, hr⟩ : ∃ r, env.drop n = .mk vn vf vl ve :: r := by
  refine ⟨env.drop (n + 1), ?_⟩
  have hg : env[n] = .mk vn vf vl ve := by rw [List.getElem?_eq_getElem hn] at h; simpa using h
  rw [← hg, List.getElem_cons_drop]
 rw [hr] at lp
 clear h hr hn
 exact gF Tryz.func65 [rG, oL [.keep [(0, []), (1, []), (4, [])]] lp, rG] (ob1 (lp) ob0)
end Go.Ae.N
namespace Go.Ae.N
open Go.Proofs
def Mc (fuel : Int) (p : Prog) (steps : Int) (g1 g3 : Nat) (en value : Int) (wrong : Bool) (e : Option Expr) (env : List Vl) (v : Vl) : AObj :=
 .cells ([I fuel, B false, I steps, .la 1 g1, I en, I value, B wrong] ++ (p.enc ++ ([.ifc 96 (.lp 2 0), .la 3 g3, .ip (lamC e) 0, .ip (envC env) 0] ++ v.enc))) [9, 10, 11, 12, 13, 14, 15]
section
variable (fuel steps : Int) (es : List ByteArray) (ds : List Def) (mk mn mv mtk mtv : Int) (mtl : List Ty) (ml : List Expr) (E R : List (List AV)) (cc ci : List Int) (cu : Int) (used width : Int)
 (e : Option Expr) (env : List Vl) (wn wf : Int) (wl : Option Expr) (we : List Vl) (en value : Int) (wrong : Bool)
theorem yield_ (vn vf : Int) (vl : Option Expr) (ve : List Vl) :
  SC 64 [.lp 0 0, .agg (Vl.mk vn vf vl ve).enc]
   [Mc fuel ⟨es, ds, .mk mk mn mv (.mk mtk mtv mtl) ml⟩ steps 1 1 en value wrong e env (.mk wn wf wl we), .arr 1 1 E, lists cc ci cu used width, .arr 1 7 R]
   (B true) [Mc fuel ⟨es, ds, .mk mk mn mv (.mk mtk mtv mtl) ml⟩ steps 1 1 en value wrong none [] (.mk vn vf vl ve), .arr 1 1 E, lists cc ci cu used width, .arr 1 7 R] := by
 exact gF Tryz.func64 [rG, rG, rG] ob0
theorem goes_ (e2 : Option Expr) (env2 : List Vl) :
  SC 69 [.lp 0 0, .ip (lamC e2) 0, .ip (envC env2) 0]
   [Mc fuel ⟨es, ds, .mk mk mn mv (.mk mtk mtv mtl) ml⟩ steps 1 1 en value wrong e env (.mk wn wf wl we), .arr 1 1 E, lists cc ci cu used width, .arr 1 7 R]
   (B true) [Mc fuel ⟨es, ds, .mk mk mn mv (.mk mtk mtv mtl) ml⟩ steps 1 1 en value wrong e2 env2 (.mk wn wf wl we), .arr 1 1 E, lists cc ci cu used width, .arr 1 7 R] := by
 exact gF Tryz.func69 [rG, rG, rG] ob0
theorem stop_ (en2 : Int) :
  SC 67 [.lp 0 0, I en2]
   [Mc fuel ⟨es, ds, .mk mk mn mv (.mk mtk mtv mtl) ml⟩ steps 1 1 en value wrong e env (.mk wn wf wl we), .arr 1 1 E, lists cc ci cu used width, .arr 1 7 R]
   (B false) [Mc fuel ⟨es, ds, .mk mk mn mv (.mk mtk mtv mtl) ml⟩ steps 1 1 en2 value wrong e env (.mk wn wf wl we), .arr 1 1 E, lists cc ci cu used width, .arr 1 7 R] := by
 exact gF Tryz.func67 [rG, rG, rG] ob0
theorem answered0 (n : Int) (hs : 0 ≤ steps ∧ steps ≤ 10000000) :
  SC 68 [.lp 0 0, I n, I 0]
   [Mc fuel ⟨es, ds, .mk mk mn mv (.mk mtk mtv mtl) ml⟩ steps 1 1 en value wrong e env (.mk wn wf wl we), .arr 1 1 E, lists cc ci cu used width, .arr 1 7 R]
   (B true) [Mc fuel ⟨es, ds, .mk mk mn mv (.mk mtk mtv mtl) ml⟩ (steps + 1) 1 1 en value wrong none [] (.mk n 0 none []), .arr 1 1 E, lists cc ci cu used width, .arr 1 7 R] := by
 have h := fun s => yield_ fuel s es ds mk mn mv mtk mtv mtl ml E R cc ci cu used width e env wn wf wl we en value wrong n 0 none []
 exact gF Tryz.func68 (rGs 4 [rS [(4, .int (steps + 1))], rS [(3, oC (h (steps + 1)))]]) (qw (steps + 1) (ob1 (h (steps + 1)) ob0))
theorem answered1 (n : Int) :
  SC 68 [.lp 0 0, I n, I 1]
   [Mc fuel ⟨es, ds, .mk mk mn mv (.mk mtk mtv mtl) ml⟩ steps 1 1 en value wrong e env (.mk wn wf wl we), .arr 1 1 E, lists cc ci cu used width, .arr 1 7 R]
   (B false) [Mc fuel ⟨es, ds, .mk mk mn mv (.mk mtk mtv mtl) ml⟩ steps 1 1 2 value wrong e env (.mk wn wf wl we), .arr 1 1 E, lists cc ci cu used width, .arr 1 7 R] := by
 have h := stop_ fuel steps es ds mk mn mv mtk mtv mtl ml E R cc ci cu used width e env wn wf wl we en value wrong 2
 exact gF Tryz.func68 [rG, rG, rG, rS [(1, oC h)]] (ob1 (h) ob0)
theorem answered2 (n : Int) :
  SC 68 [.lp 0 0, I n, I 2]
   [Mc fuel ⟨es, ds, .mk mk mn mv (.mk mtk mtv mtl) ml⟩ steps 1 1 en value wrong e env (.mk wn wf wl we), .arr 1 1 E, lists cc ci cu used width, .arr 1 7 R]
   (B false) [Mc fuel ⟨es, ds, .mk mk mn mv (.mk mtk mtv mtl) ml⟩ steps 1 1 en value true e env (.mk wn wf wl we), .arr 1 1 E, lists cc ci cu used width, .arr 1 7 R] := by
 exact gF Tryz.func68 (rGs 6 []) ob0
theorem push_ (kd : Int) (xk xn xv xtk xtv : Int) (xtl : List Ty) (ak an av atk atv : Int) (atl : List Ty) (al : List Expr) (xl : List Expr) (hR : R.length ≤ 4294967296) (hl : xl.length ≤ 4294967296) :
  SC 66 [.lp 0 0, I kd, .ip (Expr.mk xk xn xv (.mk xtk xtv xtl) (.mk ak an av (.mk atk atv atl) al :: xl)).enc 0]
   [Mc fuel ⟨es, ds, .mk mk mn mv (.mk mtk mtv mtl) ml⟩ steps 1 1 en value wrong e env (.mk wn wf wl we), .arr 1 1 E, lists cc ci cu used width, .arr 1 7 R]
   (B true) [Mc fuel ⟨es, ds, .mk mk mn mv (.mk mtk mtv mtl) ml⟩ steps 1 2 en value wrong (some (.mk ak an av (.mk atk atv atl) al)) env (.mk wn wf wl we), .arr 1 1 E, lists cc ci cu used width,
    .arr 2 7 (R ++ [(Fr.mk kd (some (.mk xk xn xv (.mk xtk xtv xtl) (.mk ak an av (.mk atk atv atl) al :: xl))) env vZ).enc])] := by
 have hF : Fits (R.length + 1) R.length 56 := by apply Fits.of; omega
 have h := fun R => goes_ fuel steps es ds mk mn mv mtk mtv mtl ml E R cc ci cu used width e env wn wf wl we en value wrong (some (.mk ak an av (.mk atk atv atl) al)) env
 exact gF Tryz.func66 [rG, rG, rS [(5, .row 0 (xE ak an av atk atv atl al)), (10, oC (h (R ++ [[I kd, AV.ip [I xk, I xn, I xv, I xtk, I xtv, AV.sl 3 (Ty.encs xtl) false, AV.sl 7 ([I ak, I an, I av, I atk, I atv, AV.sl 3 (Ty.encs atl) false, AV.sl 7 (Expr.encs al) false] :: Expr.encs xl) false] 0, AV.ip (envC env) 0, I 0, I 0, AV.ip [] 0, AV.ip [] 0]])))]] (q (Fits (List.length R + 1) (List.length R) 56) (qI 0 (qC0 ((xE ak an av atk atv atl al)) (Expr.encs xl) (ob1 (h (R ++ [[I kd, .ip [I xk, I xn, I xv, I xtk, I xtv, .sl 3 (Ty.encs xtl) false, .sl 7 ((xE ak an av atk atv atl al) :: Expr.encs xl) false] 0, .ip (envC env) 0, I 0, I 0, .ip [] 0, .ip [] 0]])) ob0))))
end
end Go.Ae.N

/- Part 9 of the proof: AeRM0, AeRMP, AeRM8, AeRRM10, AeRRM11, AeRRI0, AeRRI1, AeRF22, AeRF23. -/
import Derived.Test.YtcmlbbgbfgikaaaGreatT8
import Derived.Laws.Strings
import Derived.WideShapes
set_option linter.unusedSimpArgs false
set_option linter.unusedVariables false
namespace Go.Ae
open Go.Proofs
def ints : List Int → List (List AV)
 | [] => []
 | n :: l => [I n] :: ints l
@[simp] theorem ints_length : ∀ l : List Int, (ints l).length = l.length
 | [] => rfl
 | _ :: l => by simp [ints, ints_length l]
theorem ints_get : ∀ (l : List Int) (i : Nat), (ints l)[i]? = (l[i]?).map fun s => [I s]
 | [], i => by simp [ints]
 | t :: l, 0 => by simp [ints]
 | t :: l, i + 1 => by simp [ints, ints_get l i]
theorem ints_append : ∀ (l r : List Int), ints (l ++ r) = ints l ++ ints r
 | [], r => rfl
 | n :: l, r => by simp [ints, ints_append l r]
inductive Vl where
 | mk (number fn : Int) (lam : Option Expr) (env : List Vl)
def lamC : Option Expr → List AV
 | none => []
 | some e => e.enc
def lamE (l : Option Expr) : AV := .ip (lamC l) 0
mutual
def Vl.enc : Vl → List AV
 | .mk n f l env => [I n, I f, .ip (lamC l) 0, .ip (envC env) 0]
def envC : List Vl → List AV
 | [] => []
 | v :: l => v.enc ++ [.ip (envC l) 0]
end
def envE (env : List Vl) : AV := .ip (envC env) 0
structure Fr where
 kind : Int
 expr : Option Expr
 env : List Vl
 fn : Vl
def Fr.enc : Fr → List AV
 | ⟨k, e, env, f⟩ => I k :: .ip (lamC e) 0 :: .ip (envC env) 0 :: f.enc
def Fr.encs : List Fr → List (List AV)
 | [] => []
 | f :: l => f.enc :: Fr.encs l
@[simp] theorem Fr.encs_length : ∀ l : List Fr, (Fr.encs l).length = l.length
 | [] => rfl
 | _ :: l => by simp [Fr.encs, Fr.encs_length l]
theorem Fr.encs_append : ∀ (l r : List Fr), Fr.encs (l ++ r) = Fr.encs l ++ Fr.encs r
 | [], r => rfl
 | n :: l, r => by simp [Fr.encs, Fr.encs_append l r]
abbrev lists (ch : List Int) (used width : Int) : AObj := .cells [.sl 1 (ints ch) false, .nil, I used, I 0, I width] []
def vZ : Vl := .mk 0 0 none []
theorem getLast_get {α : Type} (R : List α) (x : α) : (R ++ [x])[R.length]? = some x := by simp
end Go.Ae
namespace Go.Ae
structure MS where
 steps : Int
 ev : List Int
 fr : List Fr
 expr : Option Expr
 env : List Vl
 val : Vl
 used : Nat
inductive Out where
 | go (s : MS)
 | stop (s : MS) (en value width : Int) (wrong : Bool)
mutual
def Expr.nodes : Expr → Nat
 | .mk _ _ _ _ l => 1 + Expr.nodesL l
def Expr.nodesL : List Expr → Nat
 | [] => 0
 | e :: l => e.nodes + Expr.nodesL l
end
theorem nodes_mem : ∀ {l : List Expr} {x : Expr}, x ∈ l → x.nodes ≤ Expr.nodesL l
 | y :: l, x, h => by
  rcases List.mem_cons.1 h with rfl | h
  ·simp only [Expr.nodesL]; omega
  ·have := nodes_mem h; simp only [Expr.nodesL]; omega
theorem nodes_pos : ∀ e : Expr, 1 ≤ e.nodes
 | .mk _ _ _ _ l => by simp only [Expr.nodes]; omega
theorem nodesL_len : ∀ l : List Expr, l.length ≤ Expr.nodesL l
 | [] => by simp
 | e :: l => by have := nodesL_len l; have := nodes_pos e; simp only [Expr.nodesL, List.length_cons]; omega
inductive Mv (p : Prog) (fuel : Int) (ch : List Int) : MS → Out → Prop
 | const {st ev fr n v ty l env val us} : Mv p fuel ch ⟨st, ev, fr, some (.mk 0 n v ty l), env, val, us⟩ (.go ⟨st, ev, fr, none, [], .mk n 0 none [], us⟩)
 | var {st ev fr} {n : Nat} {v ty l env val us w} (h : env[n]? = some w) (hn : n ≤ 9223372036854775807) :
   Mv p fuel ch ⟨st, ev, fr, some (.mk 1 (n : Int) v ty l), env, val, us⟩ (.go ⟨st, ev, fr, none, [], w, us⟩)
 | fn {st ev fr n v ty l env val us} (h0 : 0 ≤ n) (h1 : n ≤ 100000) : Mv p fuel ch ⟨st, ev, fr, some (.mk 2 n v ty l), env, val, us⟩ (.go ⟨st, ev, fr, none, [], .mk 0 (n + 1) none [], us⟩)
 | lam {st ev fr n v ty l env val us} : Mv p fuel ch ⟨st, ev, fr, some (.mk 4 n v ty l), env, val, us⟩ (.go ⟨st, ev, fr, none, [], .mk 0 0 (some (.mk 4 n v ty l)) env, us⟩)
 | app {st ev fr n v ty a l env val us} (hl : l.length ≤ 1000) : Mv p fuel ch ⟨st, ev, fr, some (.mk 3 n v ty (a :: l)), env, val, us⟩ (.go ⟨st, ev, ⟨0, some (.mk 3 n v ty (a :: l)), env, vZ⟩ :: fr, some a, env, val, us⟩)
 | lt {st ev fr n v ty a l env val us} (hl : l.length ≤ 1000) : Mv p fuel ch ⟨st, ev, fr, some (.mk 5 n v ty (a :: l)), env, val, us⟩ (.go ⟨st, ev, ⟨2, some (.mk 5 n v ty (a :: l)), env, vZ⟩ :: fr, some a, env, val, us⟩)
 | cs {st ev fr n v ty a l env val us} (hl : l.length ≤ 1000) : Mv p fuel ch ⟨st, ev, fr, some (.mk 6 n v ty (a :: l)), env, val, us⟩ (.go ⟨st, ev, ⟨3, some (.mk 6 n v ty (a :: l)), env, vZ⟩ :: fr, some a, env, val, us⟩)
 | more {st ev fr k n v ty l env val us} (hk : k = 7 ∨ k = 8) (hf : fuel ≤ st) : Mv p fuel ch ⟨st, ev, fr, some (.mk k n v ty l), env, val, us⟩ (.stop ⟨st, ev, fr, some (.mk k n v ty l), env, val, us⟩ 1 0 0 false)
 | want {st ev fr n v ty l env val us} (hf : st < fuel) (hu : us = ch.length) : Mv p fuel ch ⟨st, ev, fr, some (.mk 8 n v ty l), env, val, us⟩ (.stop ⟨st, ev, fr, some (.mk 8 n v ty l), env, val, us⟩ 2 0 v false)
 | wrong {st ev fr n v ty l env val us c} (hf : st < fuel) (hc : ch[us]? = some c) (hw : c < 0 ∨ v ≤ c) : Mv p fuel ch ⟨st, ev, fr, some (.mk 8 n v ty l), env, val, us⟩ (.stop ⟨st, ev, fr, some (.mk 8 n v ty l), env, val, us⟩ 0 0 0 true)
 | fine {st ev fr n v ty l env val us c} (hf : st < fuel) (hc : ch[us]? = some c) (h0 : 0 ≤ c) (h1 : c < v) : Mv p fuel ch ⟨st, ev, fr, some (.mk 8 n v ty l), env, val, us⟩ (.go ⟨st + 1, ev, fr, none, [], .mk c 0 none [], us + 1⟩)
 | full {st ev fr n v ty l env val us} (hf : st < fuel) (he : 4096 ≤ ev.length) : Mv p fuel ch ⟨st, ev, fr, some (.mk 7 n v ty l), env, val, us⟩ (.stop ⟨st, ev, fr, some (.mk 7 n v ty l), env, val, us⟩ 1 0 0 false)
 | event {st ev fr n v ty a l env val us} (hf : st < fuel) (he : ev.length < 4096) (hl : l.length ≤ 1000) : Mv p fuel ch ⟨st, ev, fr, some (.mk 7 n v ty (a :: l)), env, val, us⟩ (.go ⟨st + 1, ev ++ [n], fr, some a, env, val, us⟩)
 | done {st ev env val us} : Mv p fuel ch ⟨st, ev, [], none, env, val, us⟩ (.stop ⟨st, ev, [], none, env, val, us⟩ 0 (match val with | .mk n _ _ _ => n) 0 false)
 | arg {st ev fr n v ty a b env fn env' val us} : Mv p fuel ch ⟨st, ev, ⟨0, some (.mk 3 n v ty [a, b]), env, fn⟩ :: fr, none, env', val, us⟩ (.go ⟨st, ev, ⟨1, none, [], val⟩ :: fr, some b, env, val, us⟩)
 | bmore {st ev fr k e env fn env' val us} (hk : k ≠ 0) (hf : fuel ≤ st) : Mv p fuel ch ⟨st, ev, ⟨k, e, env, fn⟩ :: fr, none, env', val, us⟩ (.stop ⟨st, ev, ⟨k, e, env, fn⟩ :: fr, none, env', val, us⟩ 1 0 0 false)
 | blet {st ev fr n v ty a b env fn env' val us} (hf : st < fuel) : Mv p fuel ch ⟨st, ev, ⟨2, some (.mk 5 n v ty [a, b]), env, fn⟩ :: fr, none, env', val, us⟩ (.go ⟨st + 1, ev, fr, some b, val :: env, val, us⟩)
 | bcase {st ev fr n v ty l env fn env'} {w : Nat} {wf wl we us b} (hf : st < fuel) (hl : l.length ≤ 1000) (hw : l[1 + w]? = some b) :
   Mv p fuel ch ⟨st, ev, ⟨3, some (.mk 6 n v ty l), env, fn⟩ :: fr, none, env', .mk (w : Int) wf wl we, us⟩ (.go ⟨st + 1, ev, fr, some b, env, .mk (w : Int) wf wl we, us⟩)
 | bfun {st ev fr} {i : Nat} {gl ge env' val us d} (hf : st < fuel) (hd : p.defs[i]? = some d) :
   Mv p fuel ch ⟨st, ev, ⟨1, none, [], .mk 0 ((i : Int) + 1) gl ge⟩ :: fr, none, env', val, us⟩ (.go ⟨st + 1, ev, fr, some d.body, [val], val, us⟩)
 | bclo {st ev fr n v ty b ge env' val us} (hf : st < fuel) :
   Mv p fuel ch ⟨st, ev, ⟨1, none, [], .mk 0 0 (some (.mk 4 n v ty [b])) ge⟩ :: fr, none, env', val, us⟩ (.go ⟨st + 1, ev, fr, some b, val :: ge, val, us⟩)
def ScV (sc : List Ty) : Prop := ∀ t ∈ sc, t.V
inductive VT (p : Prog) : Vl → Ty → Prop
 | num {n k : Int} (h0 : 0 ≤ n) (h1 : n < k) : VT p (.mk n 0 none []) (tyF k)
 | fn {i : Nat} {d : Def} (h : p.defs[i]? = some d) : VT p (.mk 0 ((i : Int) + 1) none []) (.mk 1 0 [d.param, d.result])
 | clo {n v : Int} {ty b : Ty} {a : Expr} {env : List Vl} (sc : List Ty) (hl : env.length = sc.length)
   (he : ∀ (i : Nat) (w : Vl) (t : Ty), env[i]? = some w → sc[i]? = some t → VT p w t) (hv : ScV (ty :: sc)) (ht : tImp p a (ty :: sc).reverse = (b, true)) (hn : a.nodes ≤ 400) (ho : a.ok) :
   VT p (.mk 0 0 (some (.mk 4 n v ty [a])) env) (.mk 1 0 [ty, b])
def EnvT (p : Prog) (env : List Vl) (sc : List Ty) : Prop := env.length = sc.length ∧ (∀ (i : Nat) (w : Vl) (t : Ty), env[i]? = some w → sc[i]? = some t → VT p w t) ∧ ScV sc
theorem EnvT.nil {p : Prog} : EnvT p [] [] := ⟨rfl, by simp, by simp [ScV]⟩
theorem EnvT.cons {p : Prog} {v : Vl} {t : Ty} {env : List Vl} {sc : List Ty} (hv : VT p v t) (ht : t.V) (h : EnvT p env sc) : EnvT p (v :: env) (t :: sc) := by
 refine ⟨by simp [h.1], fun i w u e1 e2 => ?_, fun u hu => ?_⟩
 ·cases i with
  | zero => simp at e1 e2; subst e1; subst e2; exact hv
  | succ i => exact h.2.1 i w u (by simpa using e1) (by simpa using e2)
 ·rcases List.mem_cons.1 hu with rfl | hu
  ·exact ht
  ·exact h.2.2 u hu
def ET (p : Prog) (e : Expr) (env : List Vl) (t : Ty) : Prop := ∃ sc, EnvT p env sc ∧ tImp p e sc.reverse = (t, true) ∧ e.nodes ≤ 400 ∧ e.ok
inductive ST (p : Prog) (T : Ty) : List Fr → Ty → Prop
 | nil : ST p T [] T
 | arg {n v : Int} {ty a b : Ty} {f x : Expr} {env : List Vl} {fn : Vl} {r : List Fr} (hx : ET p x env a) (hr : ST p T r b) : ST p T (⟨0, some (.mk 3 n v ty [f, x]), env, fn⟩ :: r) (.mk 1 0 [a, b])
 | call {a b : Ty} {fn : Vl} {r : List Fr} (ha : a.V) (hf : VT p fn (.mk 1 0 [a, b])) (hr : ST p T r b) : ST p T (⟨1, none, [], fn⟩ :: r) a
 | lt {n v : Int} {ty a b : Ty} {f x : Expr} {env : List Vl} {fn : Vl} {r : List Fr} (hx : ∀ w, VT p w a → ET p x (w :: env) b) (hr : ST p T r b) : ST p T (⟨2, some (.mk 5 n v ty [f, x]), env, fn⟩ :: r) a
 | cs {n v : Int} {ty b : Ty} {f : Expr} {l : List Expr} {env : List Vl} {fn : Vl} {r : List Fr} (hl : l.length ≤ 900) (hx : ∀ x ∈ l, ET p x env b) (hr : ST p T r b) :
   ST p T (⟨3, some (.mk 6 n v ty (f :: l)), env, fn⟩ :: r) (tyF l.length)
def WT (p : Prog) (T : Ty) (s : MS) : Prop :=
 match s.expr with
 | some e => ∃ t, ET p e s.env t ∧ ST p T s.fr t
 | none => ∃ t, VT p s.val t ∧ ST p T s.fr t
structure PT (p : Prog) : Prop where
 defs : ∀ d ∈ p.defs, tImp p d.body [d.param] = (d.result, true) ∧ d.body.nodes ≤ 400 ∧ d.body.ok
 defsV : ∀ d ∈ p.defs, d.param.V ∧ d.result.V
 len : p.defs.length ≤ 1000
section
variable {p : Prog} {n v : Int} {ty t : Ty} {l : List Expr} {sc : List Ty}
theorem inv_const (h : tImp p (.mk 0 n v ty l) sc = (t, true)) : t = tyF v ∧ 0 ≤ n ∧ n < v := by
 rw [tImp_const] at h
 simp only [Prod.mk.injEq, Bool.and_eq_true, decide_eq_true_eq] at h
 exact ⟨h.1.symm, h.2.1.2, h.2.2⟩
theorem inv_pick (h : tImp p (.mk 8 n v ty l) sc = (t, true)) : t = tyF v := by
 rw [tImp_pick] at h
 simp only [Prod.mk.injEq] at h
 exact h.1.symm
theorem inv_var (h : tImp p (.mk 1 n v ty l) sc = (t, true)) : 0 ≤ n ∧ n < (sc.length : Int) ∧ sc[sc.length - 1 - n.toNat]? = some t := by
 rw [tImp_var] at h
 split at h
 ·rename_i h1
  simp only [Bool.and_eq_true, decide_eq_true_eq] at h1
  split at h
  ·rename_i u hu
   simp only [Prod.mk.injEq, and_true] at h
   subst h
   exact ⟨h1.1.2, h1.2, hu⟩
  ·simp at h
 ·simp at h
theorem inv_fun (h : tImp p (.mk 2 n v ty l) sc = (t, true)) : 0 ≤ n ∧ n < (p.defs.length : Int) ∧ ∃ d, p.defs[n.toNat]? = some d ∧ t = .mk 1 0 [d.param, d.result] := by
 rw [tImp_fun] at h
 split at h
 ·rename_i h1
  simp only [Bool.and_eq_true, decide_eq_true_eq] at h1
  split at h
  ·rename_i u hu
   simp only [Prod.mk.injEq] at h
   exact ⟨h1.1.2, h1.2, u, hu, h.1.symm⟩
  ·simp at h
 ·simp at h
theorem inv_event (h : tImp p (.mk 7 n v ty l) sc = (t, true)) : ∃ a, l = [a] ∧ 0 ≤ n ∧ n < (p.events.length : Int) ∧ tImp p a sc = (t, true) := by
 by_cases h2 : l.length = 1
 ·obtain ⟨a, rfl⟩ := len1 h2
  rw [tImp_event] at h
  split at h
  ·rename_i h1
   simp only [Bool.and_eq_true, decide_eq_true_eq] at h1
   exact ⟨a, rfl, h1.1.2, h1.2, h⟩
  ·simp at h
 ·rw [tImp_event0 _ _ _ _ _ _ h2] at h; simp at h
theorem inv_app (hd : ∀ d ∈ p.defs, d.param.V ∧ d.result.V) (hs : ScV sc) (h : tImp p (.mk 3 n v ty l) sc = (t, true)) :
  ∃ a b x, l = [a, b] ∧ tImp p a sc = (.mk 1 0 [x, t], true) ∧ tImp p b sc = (x, true) := by
 by_cases h2 : l.length = 2
 ·obtain ⟨a, b, rfl⟩ := len2 h2
  rw [tImp_app] at h
  split at h
  ·split at h
   ·rename_i h1
    simp only [Bool.and_eq_true] at h1
    obtain ⟨x, u, e1, e2, e3⟩ := (appC_V (tImp_V p hd a sc hs h1.1) (by rw [h])).2
    refine ⟨a, b, x, rfl, ?_, ?_⟩
    ·rw [h] at e3
     simp only at e3
     subst e3
     rw [← e1, ← h1.1]
    ·rw [e2, ← h1.2]
   ·simp at h
  ·simp at h
 ·rw [tImp_app0 _ _ _ _ _ _ h2] at h; simp at h
theorem inv_lam (h : tImp p (.mk 4 n v ty l) sc = (t, true)) : ∃ a b, l = [a] ∧ ty.V ∧ tImp p a (sc ++ [ty]) = (b, true) ∧ t = .mk 1 0 [ty, b] := by
 by_cases h2 : l.length = 1
 ·obtain ⟨a, rfl⟩ := len1 h2
  rw [tImp_lam] at h
  split at h
  ·rename_i h0
   simp only [Bool.and_eq_true] at h0
   split at h
   ·rename_i h1
    simp only [Bool.and_eq_true] at h1
    simp only [Prod.mk.injEq, and_true] at h
    exact ⟨a, _, rfl, h0.2, by rw [← h1.1], h.symm⟩
   ·simp at h
  ·simp at h
 ·rw [tImp_lam0 _ _ _ _ _ _ h2] at h; simp at h
theorem inv_let (h : tImp p (.mk 5 n v ty l) sc = (t, true)) : ∃ a b x, l = [a, b] ∧ tImp p a sc = (x, true) ∧ tImp p b (sc ++ [x]) = (t, true) := by
 by_cases h2 : l.length = 2
 ·obtain ⟨a, b, rfl⟩ := len2 h2
  rw [tImp_let] at h
  split at h
  ·split at h
   ·rename_i h1
    exact ⟨a, b, _, rfl, by rw [← h1], h⟩
   ·simp at h
  ·simp at h
 ·rw [tImp_let0 _ _ _ _ _ _ h2] at h; simp at h
theorem inv_case (hd : ∀ d ∈ p.defs, d.param.V ∧ d.result.V) (hs : ScV sc) (h : tImp p (.mk 6 n v ty l) sc = (t, true)) :
  ∃ a r, l = a :: r ∧ tImp p a sc = (tyF r.length, true) ∧ ∀ x ∈ r, tImp p x sc = (t, true) := by
 rcases l with _ | ⟨a, _ | ⟨b, r⟩⟩
 ·rw [tImp_case0 _ _ _ _ _ _ (by simp)] at h; simp at h
 ·rw [tImp_case0 _ _ _ _ _ _ (by simp)] at h; simp at h
 ·rw [tImp_case] at h
  split at h
  ·split at h
   ·rename_i h1
    split at h
    ·rename_i h2
     simp only [Prod.mk.injEq] at h
     obtain ⟨e1, e2⟩ := h
     rw [e1] at e2
     obtain ⟨c1, c2⟩ := casesC_true e2
     refine ⟨a, b :: r, rfl, ?_, fun x hx => ?_⟩
     ·have hV := tImp_V p hd a sc hs h1
      generalize hT : tImp p a sc = T at h1 h2 hV
      obtain ⟨⟨k, w, m⟩, q⟩ := T
      simp only [Ty.kd, Ty.vl] at h2 h1
      have := V_kd0 hV h2.1
      rw [this.2.2, h2.1, h2.2, h1]
      rfl
     ·rcases List.mem_cons.1 hx with rfl | hx
      ·rw [← e1, ← c1]
      ·have := c2 x hx; rw [this.2, ← this.1]
    ·simp at h
   ·simp at h
  ·simp at h
end
def Fr.pend : Fr → Nat
 | ⟨k, e, _, _⟩ => if k = 0 then (match e with
  | some (.mk _ _ _ _ (_ :: b :: _)) => 2 + 3 * b.nodes
  | _ => 1) else 1
def pends : List Fr → Nat
 | [] => 0
 | f :: l => f.pend + pends l
def nodesO : Option Expr → Nat
 | none => 0
 | some e => e.nodes
def MS.psi (s : MS) : Nat := pends s.fr + 3 * nodesO s.expr
theorem pend_pos (f : Fr) : 1 ≤ f.pend := by
 obtain ⟨k, e, env, fn⟩ := f
 simp only [Fr.pend]
 split
 ·split <;> omega
 ·omega
theorem pends_len : ∀ l : List Fr, l.length ≤ pends l
 | [] => by simp
 | f :: l => by have := pends_len l; have := pend_pos f; simp only [pends, List.length_cons]; omega
def Dec (fuel : Int) (s s' : MS) : Prop := (s'.steps = s.steps ∧ s'.psi < s.psi) ∨ (s'.steps = s.steps + 1 ∧ s.steps < fuel ∧ s'.psi ≤ s.psi + 1200)
theorem rev_snoc {α : Type} (l : List α) (t : α) : (t :: l).reverse = l.reverse ++ [t] := by simp
theorem EnvT.get {p : Prog} {env : List Vl} {sc : List Ty} (h : EnvT p env sc) {n : Int} {t : Ty} (h0 : 0 ≤ n) (h1 : n < (sc.reverse.length : Int)) (h2 : sc.reverse[sc.reverse.length - 1 - n.toNat]? = some t) :
  ∃ w, env[n.toNat]? = some w ∧ VT p w t := by
 have hn : n.toNat < sc.length := by simp at h1; omega
 have : sc[n.toNat]? = some t := by
  rw [List.getElem?_reverse (by simp; omega)] at h2
  rw [← h2]
  congr 1
  simp
  omega
 have hn2 : n.toNat < env.length := by rw [h.1]; exact hn
 exact ⟨env[n.toNat], List.getElem?_eq_getElem hn2, h.2.1 _ _ _ (List.getElem?_eq_getElem hn2) this⟩
theorem ScV.rev {sc : List Ty} (h : ScV sc) : ScV sc.reverse := fun t ht => h t (by simpa using ht)
theorem WT.step {p : Prog} (hp : PT p) {T : Ty} (fuel : Int) (ch : List Int) {s : MS} (hu : s.used ≤ ch.length) (h : WT p T s) :
  ∃ o, Mv p fuel ch s o ∧ ∀ s', o = .go s' → WT p T s' ∧ Dec fuel s s' ∧ s'.used ≤ ch.length ∧ (s.ev.length ≤ 4096 → s'.ev.length ≤ 4096) ∧ ∀ m ∈ s'.ev, m ∈ s.ev ∨ (0 ≤ m ∧ m < (p.events.length : Int)) := by
 obtain ⟨st, ev, fr, expr, env, val, us⟩ := s
 simp only at hu
 cases expr with
 | some e =>
  obtain ⟨t, ⟨sc, henv, hty, hnd, hok⟩, hfr⟩ := h
  obtain ⟨k, n, v, ty, l⟩ := e
  simp only at henv hfr
  have hsV : ScV sc.reverse := henv.2.2.rev
  have hln : l.length ≤ 400 := by have := nodesL_len l; simp only [Expr.nodes] at hnd; omega
  have hol := Expr.oks_mem hok.2.2.2.2.2
  have hsub : ∀ x ∈ l, x.nodes < (Expr.mk k n v ty l).nodes ∧ x.nodes ≤ 400 ∧ x.ok := fun x hx => by
   have := nodes_mem hx
   simp only [Expr.nodes] at hnd ⊢
   exact ⟨by omega, by omega, hol x hx⟩
  have hpos := nodes_pos (.mk k n v ty l)
  rcases kind9 k with rfl | rfl | rfl | rfl | rfl | rfl | rfl | rfl | rfl | hk
  ·obtain ⟨rfl, h0, h1⟩ := inv_const hty
   exact ⟨_, .const, fun s' e => by cases e; exact ⟨⟨_, .num h0 h1, hfr⟩, .inl ⟨rfl, by simp only [MS.psi, nodesO]; omega⟩, hu, id, fun _ h => .inl h⟩⟩
  ·obtain ⟨h0, h1, h2⟩ := inv_var hty
   obtain ⟨w, hw, hwt⟩ := henv.get h0 h1 h2
   have := hok.2.1
   unfold ir at this
   obtain ⟨n, rfl⟩ := Int.eq_ofNat_of_zero_le h0
   exact ⟨_, .var hw (by omega), fun s' e => by cases e; exact ⟨⟨_, hwt, hfr⟩, .inl ⟨rfl, by simp only [MS.psi, nodesO]; omega⟩, hu, id, fun _ h => .inl h⟩⟩
  ·obtain ⟨h0, h1, d, hd, rfl⟩ := inv_fun hty
   have := hp.len
   obtain ⟨n, rfl⟩ := Int.eq_ofNat_of_zero_le h0
   exact ⟨_, .fn h0 (by omega), fun s' e => by cases e; exact ⟨⟨_, .fn hd, hfr⟩, .inl ⟨rfl, by simp only [MS.psi, nodesO]; omega⟩, hu, id, fun _ h => .inl h⟩⟩
  ·obtain ⟨a, b, x, rfl, ha, hb⟩ := inv_app hp.defsV hsV hty
   have h1 := hsub a (by simp)
   have h2 := hsub b (by simp)
   refine ⟨_, .app (by simp), fun s' e => ?_⟩
   cases e
   refine ⟨⟨_, ⟨sc, henv, ha, h1.2⟩, .arg ⟨sc, henv, hb, h2.2⟩ hfr⟩, .inl ⟨rfl, ?_⟩, hu, id, fun _ h => .inl h⟩
   simp only [MS.psi, nodesO, pends, Fr.pend, Expr.nodes, Expr.nodesL, if_true]
   omega
  ·obtain ⟨a, b, rfl, hv, ha, rfl⟩ := inv_lam hty
   have h1 := hsub a (by simp)
   refine ⟨_, .lam, fun s' e => ?_⟩
   cases e
   refine ⟨⟨_, .clo sc henv.1 henv.2.1 (fun u hu => ?_) (by rw [rev_snoc]; exact ha) h1.2.1 h1.2.2, hfr⟩, .inl ⟨rfl, by simp only [MS.psi, nodesO]; omega⟩, hu, id, fun _ h => .inl h⟩
   rcases List.mem_cons.1 hu with rfl | hu
   ·exact hv
   ·exact henv.2.2 u hu
  ·obtain ⟨a, b, x, rfl, ha, hb⟩ := inv_let hty
   have h1 := hsub a (by simp)
   have h2 := hsub b (by simp)
   have hxV : x.V := by have := tImp_V p hp.defsV a sc.reverse hsV (by rw [ha]); rwa [ha] at this
   refine ⟨_, .lt (by simp), fun s' e => ?_⟩
   cases e
   refine ⟨⟨_, ⟨sc, henv, ha, h1.2⟩, .lt (fun w hw => ⟨x :: sc, henv.cons hw hxV, by rw [rev_snoc]; exact hb, h2.2⟩) hfr⟩, .inl ⟨rfl, ?_⟩, hu, id, fun _ h => .inl h⟩
   simp only [MS.psi, nodesO, pends, Fr.pend, Expr.nodes, Expr.nodesL, show ¬ ((2 : Int) = 0) by omega, if_false]
   omega
  ·obtain ⟨a, r, rfl, ha, hr⟩ := inv_case hp.defsV hsV hty
   have h1 := hsub a (by simp)
   refine ⟨_, .cs (by simp at hln ⊢; omega), fun s' e => ?_⟩
   cases e
   refine ⟨⟨_, ⟨sc, henv, ha, h1.2⟩, .cs (by simp at hln; omega) (fun x hx => ⟨sc, henv, hr x hx, (hsub x (by simp [hx])).2⟩) hfr⟩, .inl ⟨rfl, ?_⟩, hu, id, fun _ h => .inl h⟩
   simp only [MS.psi, nodesO, pends, Fr.pend, Expr.nodes, Expr.nodesL, show ¬ ((3 : Int) = 0) by omega, if_false]
   omega
  ·obtain ⟨a, rfl, h0, h1, ha⟩ := inv_event hty
   by_cases hf : fuel ≤ st
   ·exact ⟨_, .more (.inl rfl) hf, fun s' e => by cases e⟩
   ·by_cases he : 4096 ≤ ev.length
    ·exact ⟨_, .full (by omega) he, fun s' e => by cases e⟩
    ·have h3 := hsub a (by simp)
     refine ⟨_, .event (by omega) (by omega) (by simp), fun s' e => ?_⟩
     cases e
     refine ⟨⟨_, ⟨sc, henv, ha, h3.2⟩, hfr⟩, .inr ⟨rfl, by simp only; omega, ?_⟩, hu, fun _ => by simp; omega, fun m hm => ?_⟩
     rotate_left
     ·rcases List.mem_append.1 hm with hm | hm
      ·exact .inl hm
      ·simp only [List.mem_singleton] at hm; subst hm; exact .inr ⟨h0, h1⟩
     simp only [MS.psi, nodesO]
     omega
  ·obtain rfl := inv_pick hty
   by_cases hf : fuel ≤ st
   ·exact ⟨_, .more (.inr rfl) hf, fun s' e => by cases e⟩
   ·by_cases hc : us = ch.length
    ·exact ⟨_, .want (by omega) hc, fun s' e => by cases e⟩
    ·have hlt : us < ch.length := by omega
     have hg : ch[us]? = some ch[us] := List.getElem?_eq_getElem hlt
     by_cases hw : ch[us] < 0 ∨ v ≤ ch[us]
     ·exact ⟨_, .wrong (by omega) hg hw, fun s' e => by cases e⟩
     ·refine ⟨_, .fine (by omega) hg (by omega) (by omega), fun s' e => ?_⟩
      cases e
      exact ⟨⟨_, .num (by omega) (by omega), hfr⟩, .inr ⟨rfl, by simp only; omega, by simp only [MS.psi, nodesO]; omega⟩, by simp only; omega, id, fun _ h => .inl h⟩
  ·rw [tImp_other _ _ _ _ _ _ _ hk] at hty; simp at hty
 | none =>
  obtain ⟨t, hv, hfr⟩ := h
  simp only at hv hfr
  cases hfr with
  | nil => exact ⟨_, .done, fun s' e => by cases e⟩
  | @arg n v ty a b f x env' fn r hx hr =>
   refine ⟨_, .arg, fun s' e => ?_⟩
   cases e
   refine ⟨⟨_, hx, .call ?_ hv hr⟩, .inl ⟨rfl, ?_⟩, hu, id, fun _ h => .inl h⟩
   ·obtain ⟨sc, he, ht, _⟩ := hx
    have := tImp_V p hp.defsV x sc.reverse he.2.2.rev (by rw [ht])
    rwa [ht] at this
   ·simp only [MS.psi, nodesO, pends, Fr.pend, if_true, show ¬ ((1 : Int) = 0) by omega, if_false]
    omega
  | @call a b fn r ha hf hr =>
   by_cases hfu : fuel ≤ st
   ·exact ⟨_, .bmore (by omega) hfu, fun s' e => by cases e⟩
   ·cases hf with
    | @fn i d hd =>
     have hm := List.mem_of_getElem? hd
     have h3 := hp.defs d hm
     refine ⟨_, .bfun (by omega) hd, fun s' e => ?_⟩
     cases e
     refine ⟨⟨_, ⟨[d.param], EnvT.nil.cons hv ha, h3.1, h3.2⟩, hr⟩, .inr ⟨rfl, by simp only; omega, ?_⟩, hu, id, fun _ h => .inl h⟩
     simp only [MS.psi, nodesO, pends]
     have := h3.2.1
     omega
    | @clo n v ty b a env sc hl he hV ht hn ho =>
     refine ⟨_, .bclo (by omega), fun s' e => ?_⟩
     cases e
     refine ⟨⟨_, ⟨_, EnvT.cons hv ha ⟨hl, he, fun u hu => hV u (by simp [hu])⟩, ht, hn, ho⟩, hr⟩, .inr ⟨rfl, by simp only; omega, ?_⟩, hu, id, fun _ h => .inl h⟩
     simp only [MS.psi, nodesO, pends]
     omega
  | @lt n v ty a b f x env' fn r hx hr =>
   by_cases hfu : fuel ≤ st
   ·exact ⟨_, .bmore (by omega) hfu, fun s' e => by cases e⟩
   ·refine ⟨_, .blet (by omega), fun s' e => ?_⟩
    cases e
    have h3 := hx val hv
    refine ⟨⟨_, h3, hr⟩, .inr ⟨rfl, by simp only; omega, ?_⟩, hu, id, fun _ h => .inl h⟩
    simp only [MS.psi, nodesO, pends]
    obtain ⟨_, _, _, h4, _⟩ := h3
    omega
  | @cs n v ty b f l env' fn r hl hx hr =>
   by_cases hfu : fuel ≤ st
   ·exact ⟨_, .bmore (by omega) hfu, fun s' e => by cases e⟩
   ·generalize hk : tyF (l.length : Int) = u at hv
    cases hv with
    | @num w k h0 h1 =>
     unfold tyF at hk
     cases hk
     obtain ⟨w, rfl⟩ := Int.eq_ofNat_of_zero_le h0
     have hw : w < l.length := by omega
     refine ⟨_, .bcase (by omega) (by simp; omega) (b := l[w]) (by rw [Nat.add_comm]; simp [List.getElem?_eq_getElem hw]), fun s' e => ?_⟩
     cases e
     have h3 := hx l[w] (List.getElem_mem hw)
     refine ⟨⟨_, h3, hr⟩, .inr ⟨rfl, by simp only; omega, ?_⟩, hu, id, fun _ h => .inl h⟩
     simp only [MS.psi, nodesO, pends]
     obtain ⟨_, _, _, h4, _⟩ := h3
     omega
    | fn => simp [tyF] at hk
    | clo => simp [tyF] at hk
end Go.Ae
namespace Go.Ae
def mback (p : Prog) (fuel : Int) (s : MS) : Out :=
 match s.fr with
 | [] => .stop s 0 (match s.val with | .mk n _ _ _ => n) 0 false
 | ⟨k, e, env, fn⟩ :: r =>
  if k = 0 then (match e with
   | some (.mk _ _ _ _ [_, b]) => .go ⟨s.steps, s.ev, ⟨1, none, [], s.val⟩ :: r, some b, env, s.val, s.used⟩
   | _ => .go s)
  else if fuel ≤ s.steps then .stop s 1 0 0 false
  else if k = 2 then (match e with
   | some (.mk _ _ _ _ [_, b]) => .go ⟨s.steps + 1, s.ev, r, some b, s.val :: env, s.val, s.used⟩
   | _ => .go s)
  else if k = 3 then (match e, s.val with
   | some (.mk _ _ _ _ l), .mk w _ _ _ => .go ⟨s.steps + 1, s.ev, r, l[1 + w.toNat]?, env, s.val, s.used⟩
   | _, _ => .go s)
  else (match fn with
   | .mk _ f gl ge => if 0 < f then .go ⟨s.steps + 1, s.ev, r, (p.defs[f.toNat - 1]?).map (·.body), [s.val], s.val, s.used⟩
    else (match gl with
     | some (.mk _ _ _ _ [b]) => .go ⟨s.steps + 1, s.ev, r, some b, s.val :: ge, s.val, s.used⟩
     | _ => .go s))
def mmove (p : Prog) (fuel : Int) (ch : List Int) (s : MS) : Out :=
 match s.expr with
 | none => mback p fuel s
 | some (.mk k n v ty l) =>
  if k = 0 then .go ⟨s.steps, s.ev, s.fr, none, [], .mk n 0 none [], s.used⟩
  else if k = 1 then .go ⟨s.steps, s.ev, s.fr, none, [], s.env.getD n.toNat vZ, s.used⟩
  else if k = 2 then .go ⟨s.steps, s.ev, s.fr, none, [], .mk 0 (n + 1) none [], s.used⟩
  else if k = 4 then .go ⟨s.steps, s.ev, s.fr, none, [], .mk 0 0 (some (.mk k n v ty l)) s.env, s.used⟩
  else if k = 3 then .go ⟨s.steps, s.ev, ⟨0, some (.mk k n v ty l), s.env, vZ⟩ :: s.fr, l[0]?, s.env, s.val, s.used⟩
  else if k = 5 then .go ⟨s.steps, s.ev, ⟨2, some (.mk k n v ty l), s.env, vZ⟩ :: s.fr, l[0]?, s.env, s.val, s.used⟩
  else if k = 6 then .go ⟨s.steps, s.ev, ⟨3, some (.mk k n v ty l), s.env, vZ⟩ :: s.fr, l[0]?, s.env, s.val, s.used⟩
  else if fuel ≤ s.steps then .stop s 1 0 0 false
  else if k = 8 then
   (match ch[s.used]? with
   | none => .stop s 2 0 v false
   | some c => if c < 0 ∨ v ≤ c then .stop s 0 0 0 true else .go ⟨s.steps + 1, s.ev, s.fr, none, [], .mk c 0 none [], s.used + 1⟩)
  else if 4096 ≤ s.ev.length then .stop s 1 0 0 false
  else .go ⟨s.steps + 1, s.ev ++ [n], s.fr, l[0]?, s.env, s.val, s.used⟩
theorem Mv.eq {p : Prog} {fuel : Int} {ch : List Int} {s : MS} {o : Out} (h : Mv p fuel ch s o) : mmove p fuel ch s = o := by
 cases h with
 | @more st ev fr k n v ty l env val us hk hf => rcases hk with rfl | rfl <;> simp [mmove, hf]
 | @want st ev fr n v ty l env val us hf hu => simp [mmove, show ¬ fuel ≤ st by omega, hu]
 | @wrong st ev fr n v ty l env val us c hf hc hw => simp [mmove, show ¬ fuel ≤ st by omega, hc, hw]
 | @fine st ev fr n v ty l env val us c hf hc h0 h1 => simp [mmove, show ¬ fuel ≤ st by omega, hc, show ¬ (c < 0 ∨ v ≤ c) by omega]
 | @full st ev fr n v ty l env val us hf he => simp [mmove, show ¬ fuel ≤ st by omega, he]
 | @event st ev fr n v ty a l env val us hf he hl => simp [mmove, show ¬ fuel ≤ st by omega, show ¬ 4096 ≤ ev.length by omega]
 | @bmore st ev fr k e env fn env' val us hk hf => simp [mmove, mback, hk, hf]
 | @blet st ev fr n v ty a b env fn env' val us hf => simp [mmove, mback, show ¬ fuel ≤ st by omega]
 | @bcase st ev fr n v ty l env fn env' w wf wl we us b hf hl hw => simp [mmove, mback, show ¬ fuel ≤ st by omega, hw]
 | @bfun st ev fr i gl ge env' val us d hf hd =>
  have h1 : ((i : Int) + 1).toNat - 1 = i := by omega
  have h2 : (0 : Int) < (i : Int) + 1 := by omega
  simp [mmove, mback, show ¬ fuel ≤ st by omega, h2, hd]
 | @done st ev env val us => cases val; rfl
 | @bclo st ev fr n v ty b ge env' val us hf => simp [mmove, mback, show ¬ fuel ≤ st by omega]
 | @var st ev fr n v ty l env val us w h hn => simp [mmove, List.getD_eq_getElem?_getD, h]
 | _ => simp [mmove, mback]
theorem Mv.det {p : Prog} {fuel : Int} {ch : List Int} {s : MS} {o o' : Out} (h : Mv p fuel ch s o) (h' : Mv p fuel ch s o') : o = o' := h.eq.symm.trans h'.eq
inductive MRun (p : Prog) (fuel : Int) (ch : List Int) : MS → MS → Int → Int → Int → Bool → Prop
 | stop {s s' en value width wrong} (h : Mv p fuel ch s (.stop s' en value width wrong)) : MRun p fuel ch s s' en value width wrong
 | more {s s1 s' en value width wrong} (h : Mv p fuel ch s (.go s1)) (r : MRun p fuel ch s1 s' en value width wrong) : MRun p fuel ch s s' en value width wrong
theorem MRun.det {p : Prog} {fuel : Int} {ch : List Int} {s s1 s2 : MS} {en1 v1 w1 en2 v2 w2 : Int} {b1 b2 : Bool} (h : MRun p fuel ch s s1 en1 v1 w1 b1) (k : MRun p fuel ch s s2 en2 v2 w2 b2) :
  s1 = s2 ∧ en1 = en2 ∧ v1 = v2 ∧ w1 = w2 ∧ b1 = b2 := by
 induction h generalizing s2 with
 | stop h =>
  cases k with
  | stop k => have := h.det k; cases this; exact ⟨rfl, rfl, rfl, rfl, rfl⟩
  | more k r => have := h.det k; cases this
 | more h r ih =>
  cases k with
  | stop k => have := h.det k; cases this
  | more k r2 => have := h.det k; cases this; exact ih r2
structure Inv (p : Prog) (T : Ty) (fuel : Int) (ch : List Int) (s : MS) : Prop where
 wt : WT p T s
 s0 : 0 ≤ s.steps
 s1 : s.steps ≤ fuel
 psi : s.psi ≤ 1200 * (s.steps.toNat + 1)
 ev : s.ev.length ≤ 4096
 evr : ∀ m ∈ s.ev, 0 ≤ m ∧ m < (p.events.length : Int)
 us : s.used ≤ ch.length
theorem Inv.next {p : Prog} (hp : PT p) {T : Ty} {fuel : Int} {ch : List Int} {s : MS} (h : Inv p T fuel ch s) :
  ∃ o, Mv p fuel ch s o ∧ ∀ s', o = .go s' → Inv p T fuel ch s' ∧ Dec fuel s s' := by
 obtain ⟨o, h1, h2⟩ := h.wt.step hp fuel ch h.us
 refine ⟨o, h1, fun s' e => ?_⟩
 obtain ⟨k1, k2, k3, k4, k5⟩ := h2 s' e
 obtain ⟨q1, q2, q3, q4, q5, q6, q7⟩ := h
 refine ⟨⟨k1, ?_, ?_, ?_, k4 q5, fun m hm => ?_, k3⟩, k2⟩
 ·rcases k2 with k2 | k2 <;> omega
 ·rcases k2 with k2 | k2 <;> omega
 ·rcases k2 with k2 | k2
  ·rw [k2.1]; omega
  ·rw [k2.1]; omega
 ·rcases k5 m hm with h | h
  ·exact q6 m h
  ·exact h
theorem Inv.go {p : Prog} (hp : PT p) {T : Ty} {fuel : Int} {ch : List Int} {s s' : MS} (h : Inv p T fuel ch s) (hm : Mv p fuel ch s (.go s')) : Inv p T fuel ch s' := by
 obtain ⟨o, h1, h2⟩ := h.next hp
 exact (h2 s' (h1.det hm)).1
theorem run_ex {p : Prog} (hp : PT p) {T : Ty} {fuel : Int} {ch : List Int} (s : MS) (h : Inv p T fuel ch s) : ∃ s' en value width wrong, MRun p fuel ch s s' en value width wrong := by
 obtain ⟨o, h1, h2⟩ := h.next hp
 cases o with
 | stop s' en value width wrong => exact ⟨_, _, _, _, _, .stop h1⟩
 | go s' =>
  obtain ⟨h3, h4⟩ := h2 s' rfl
  obtain ⟨_, _, _, _, _, r⟩ := run_ex hp s' h3
  exact ⟨_, _, _, _, _, .more h1 r⟩
termination_by ((fuel - s.steps).toNat, s.psi)
decreasing_by
 rcases h4 with h4 | h4
 ·rw [h4.1]; exact Prod.Lex.right _ h4.2
 ·exact Prod.Lex.left _ _ (by have := h.s1; omega)
theorem MRun.inv {p : Prog} (hp : PT p) {T : Ty} {fuel : Int} {ch : List Int} {s s' : MS} {en value width : Int} {wrong : Bool} (h : MRun p fuel ch s s' en value width wrong) (hi : Inv p T fuel ch s) :
  Inv p T fuel ch s' ∧ Mv p fuel ch s' (.stop s' en value width wrong) := by
 induction h with
 | @stop s s' en value width wrong h =>
  have : s' = s := by cases h <;> rfl
  subst this
  exact ⟨hi, h⟩
 | more h r ih => exact ih (hi.go hp h)
theorem Inv.val {p : Prog} {k : Int} {fuel : Int} {ch : List Int} {s s' : MS} {en value width : Int} {wrong : Bool} (hk : 1 ≤ k) (hi : Inv p (tyF k) fuel ch s) (h : Mv p fuel ch s (.stop s' en value width wrong)) :
  0 ≤ value ∧ value < k ∧ (en ≠ 0 → value = 0) := by
 have hw := hi.wt
 generalize ho : Out.stop s' en value width wrong = o at h
 cases h with
 | done =>
  cases ho
  obtain ⟨t, h1, h2⟩ := hw
  simp only at h1 h2
  generalize hT : tyF k = T at h2
  cases h2
  subst hT
  generalize hk2 : tyF k = T at h1
  cases h1 with
  | num h0 h1 => unfold tyF at hk2; cases hk2; exact ⟨h0, h1, fun h => absurd rfl h⟩
  | fn => simp [tyF] at hk2
  | clo => simp [tyF] at hk2
 | more => cases ho; exact ⟨by omega, by omega, fun _ => rfl⟩
 | want => cases ho; exact ⟨by omega, by omega, fun _ => rfl⟩
 | wrong => cases ho; exact ⟨by omega, by omega, fun _ => rfl⟩
 | full => cases ho; exact ⟨by omega, by omega, fun _ => rfl⟩
 | bmore => cases ho; exact ⟨by omega, by omega, fun _ => rfl⟩
 | _ => cases ho
end Go.Ae
namespace Go.Ae
open Go.Proofs
def SetM (m : List (ByteArray × AV)) : Prop := ∀ s, findM s m = none ∨ findM s m = some (B true)
theorem SetM.nil : SetM [] := fun s => .inl rfl
theorem findM_append (s : ByteArray) : ∀ (m r : List (ByteArray × AV)), findM s (m ++ r) = (findM s m).or (findM s r)
 | [], r => by simp [findM]
 | (k, a) :: m, r => by
  simp only [List.cons_append, findM]
  split
  ·rfl
  ·exact findM_append s m r
theorem SetM.add {m : List (ByteArray × AV)} (h : SetM m) (s : ByteArray) : SetM (m ++ [(s, B true)]) := fun t => by
 rw [findM_append]
 rcases h t with h | h
 ·rw [h]
  simp only [Option.none_or, findM]
  split
  ·exact .inr rfl
  ·exact .inl rfl
 ·rw [h]; exact .inr rfl
mutual
theorem szC_nodes : ∀ (e : Expr) (d n : Int), (szC e d n).1 = true → (szC e d n).2 = n - e.nodes
 | .mk _ _ _ _ l, d, n, h => by
  simp only [szC] at h ⊢
  split at h
  ·simp at h
  ·rename_i h1
   rw [if_neg h1]
   split at h
   ·simp at h
   ·rename_i h2
    rw [if_neg h2]
    have := szCs_nodes l (d - 1) (n - 1) h
    simp only [Expr.nodes]
    omega
theorem szCs_nodes : ∀ (l : List Expr) (d n : Int), (szCs l d n).1 = true → (szCs l d n).2 = n - Expr.nodesL l
 | [], d, n, h => by simp [szCs, Expr.nodesL]
 | t :: l, d, n, h => by
  rw [szCs_cons] at h ⊢
  split at h
  ·rename_i h1
   rw [if_pos h1]
   have e1 := szC_nodes t d n h1
   have e2 := szCs_nodes l d _ h
   simp only [Expr.nodesL]
   omega
  ·simp at h
end
theorem szC_le {e : Expr} {d n : Int} (h0 : 0 ≤ n) (h : (szC e d n).1 = true) : (e.nodes : Int) ≤ n := by
 have := szC_nodes e d n h
 have := (szC_bound e d n h0).2.2 h
 omega
def nmsOk : List ByteArray → List (ByteArray × AV) → Prop
 | [], _ => True
 | s :: us, m => nameC s.data.toList = true ∧ findM s m = none ∧ nmsOk us (m ++ [(s, B true)])
def bodies : List Def → Int
 | [] => 0
 | d :: l => d.body.nodes + bodies l
section
variable (es : List ByteArray) (ds : List Def) (mk mn mv mtk mtv : Int) (mtl : List Ty) (ml : List Expr)
theorem check_loop0 (hn : es.length ≤ 16) (left : Int) : ∀ (us : List ByteArray) (i : Nat) (m : List (ByteArray × AV)), es.drop i = us → (∀ s ∈ us, s.size ≤ 281474976710656) → SetM m →
  (∃ m', SetM m' ∧ nmsOk us m ∧ Lp Tryz.prog 136 0 (loopN Tryz.f27 0)
   ⟨lookT [(2, .lp 0 0), (3, .lp 1 0), (5, .lp 2 0), (6, .mp 3), (35, .sl 1 (strs es) false), (36, I (es.length : Int)), (37, I (i : Int))], [.cells [B false] [], .cells (Prog.enc ⟨es, ds, .mk mk mn mv (.mk mtk mtv mtl) ml⟩) [], .cells [I left] [], .map m]⟩
   (.exit 0) ⟨lookT [(2, .lp 0 0), (3, .lp 1 0), (5, .lp 2 0), (6, .mp 3)], [.cells [B false] [], .cells (Prog.enc ⟨es, ds, .mk mk mn mv (.mk mtk mtv mtl) ml⟩) [], .cells [I left] [], .map m']⟩) ∨
  Lp Tryz.prog 136 0 (loopN Tryz.f27 0)
   ⟨lookT [(2, .lp 0 0), (3, .lp 1 0), (5, .lp 2 0), (6, .mp 3), (35, .sl 1 (strs es) false), (36, I (es.length : Int)), (37, I (i : Int))], [.cells [B false] [], .cells (Prog.enc ⟨es, ds, .mk mk mn mv (.mk mtk mtv mtl) ml⟩) [], .cells [I left] [], .map m]⟩
   .ret ⟨lookT [(4, B false)], []⟩
 | [], i, m, hd, hs, hm => by
  have hi := drop_end hd
  refine .inl ⟨m, hm, trivial, ?_⟩
  clear hs hm hd
  exact lL [rS [(0, .bit false)]] [.keep [(2, []), (3, []), (5, []), (6, [])]] (qF ((i : Int) < (es.length : Int)) ob0)
 | s :: us, i, m, hd, hs, hm => by
  have hi := drop_lt hd
  have hx : (strs es)[i]? = some [S s] := by rw [strs_get, drop_get hd]; rfl
  have hc := isName_ s (hs s (by simp))
  have ih := check_loop0 hn left us (i + 1) (m ++ [(s, B true)]) (drop_next hd) (fun x hx => hs x (by simp [hx])) (hm.add s)
  have hf := hm s
  clear hs hm hd
  simp only [Int.natCast_add] at ih
  generalize hnm : nameC s.data.toList = b at hc
  cases b with
  | false =>
   clear ih hf hnm
   refine .inr ?_
   exact lL [rS [(0, .bit true)], rS [(0, oW hx)], rS [(1, oC hc)], rG] [.keep [(4, [])]] (qT ((i : Int) < (es.length : Int)) (qI i (ob1 hx (ob1 (hc) ob0))))
  | true =>
   rcases hf with hf | hf
   ·rcases ih with ⟨m', hm', ih⟩ | ih
    ·refine .inl ⟨m', hm', ⟨hnm, hf, ih.1⟩, ?_⟩
     replace ih := ih.2
     clear hm' hnm
     exact lN [rS [(0, .bit true)], rS [(0, oW hx)], rS [(1, oC hc), (6, .look none)], rS [(2, .look none)], rS [(0, .int ((i : Int) + 1))]] [.keep [(2, []), (3, []), (5, []), (6, []), (35, []), (36, []), (37, [])]] (qT ((i : Int) < (es.length : Int)) (qI i (ob1 hx (ob1 (hc) (q (findM s m = none) (q (findM s m = none) (qw ((i : Int) + 1) ob0))))))) (ih)
    ·refine .inr ?_
     clear hnm
     exact lN [rS [(0, .bit true)], rS [(0, oW hx)], rS [(1, oC hc), (6, .look none)], rS [(2, .look none)], rS [(0, .int ((i : Int) + 1))]] [.keep [(2, []), (3, []), (5, []), (6, []), (35, []), (36, []), (37, [])]] (qT ((i : Int) < (es.length : Int)) (qI i (ob1 hx (ob1 (hc) (q (findM s m = none) (q (findM s m = none) (qw ((i : Int) + 1) ob0))))))) (ih)
   ·clear ih hnm
    refine .inr ?_
    exact lL [rS [(0, .bit true)], rS [(0, oW hx)], rS [(1, oC hc), (6, .look (some (B true)))], rG] [.keep [(4, [])]] (qT ((i : Int) < (es.length : Int)) (qI i (ob1 hx (ob1 (hc) (q (findM s m = some (B true)) ob0)))))
theorem check_loop1 (hn : ds.length ≤ 16) : ∀ (us : List Def) (i : Nat) (left : Int) (m : List (ByteArray × AV)), ds.drop i = us → (∀ d ∈ us, d.ok) → 0 ≤ left → left ≤ 400 → SetM m →
  ((∀ d ∈ us, d.param.V ∧ d.result.V ∧ ∃ n, 0 ≤ n ∧ n ≤ 400 ∧ (szC d.body 30 n).1 = true) ∧ nmsOk (us.map (·.name)) m ∧ bodies us ≤ left ∧ Lp Tryz.prog 136 0 (loopN Tryz.f27 1)
   ⟨lookT [(2, .lp 0 0), (3, .lp 1 0), (5, .lp 2 0), (6, .mp 3), (54, .sl 14 (Def.encs ds) false), (55, I (ds.length : Int)), (56, I (i : Int))], [.cells [B false] [], .cells (Prog.enc ⟨es, ds, .mk mk mn mv (.mk mtk mtv mtl) ml⟩) [], .cells [I left] [], .map m]⟩
   (.exit 2) ⟨lookT [(2, .lp 0 0), (3, .lp 1 0)], [.cells [B false] [], .cells (Prog.enc ⟨es, ds, .mk mk mn mv (.mk mtk mtv mtl) ml⟩) []]⟩) ∨
  Lp Tryz.prog 136 0 (loopN Tryz.f27 1)
   ⟨lookT [(2, .lp 0 0), (3, .lp 1 0), (5, .lp 2 0), (6, .mp 3), (54, .sl 14 (Def.encs ds) false), (55, I (ds.length : Int)), (56, I (i : Int))], [.cells [B false] [], .cells (Prog.enc ⟨es, ds, .mk mk mn mv (.mk mtk mtv mtl) ml⟩) [], .cells [I left] [], .map m]⟩
   .ret ⟨lookT [(4, B false)], []⟩
 | [], i, left, m, hd, hs, h0, h1, hm => by
  have hi := drop_end hd
  refine .inl ⟨by simp, trivial, h0, ?_⟩
  clear hs hm hd
  exact lL [rS [(0, .bit false)]] [.keep [(2, []), (3, [])]] (qF ((i : Int) < (ds.length : Int)) ob0)
 | d :: us, i, left, m, hd, hs, h0, h1, hm => by
  obtain ⟨nm, ⟨pk, pv, pl⟩, ⟨rk, rv, rl⟩, ⟨bk, bn, bv, ⟨btk, btv, btl⟩, bl⟩⟩ := d
  have hi := drop_lt hd
  have hx : (Def.encs ds)[i]? = some (Def.mk nm (.mk pk pv pl) (.mk rk rv rl) (.mk bk bn bv (.mk btk btv btl) bl)).enc := by rw [Def.encs_get, drop_get hd]; rfl
  have hok := hs _ (List.mem_cons_self ..)
  have hc := isName_ nm hok.1
  have ht1 := isTy_ (.mk pk pv pl) hok.2.1
  have ht2 := isTy_ (.mk rk rv rl) hok.2.2.1
  have hz := size_ (.mk bk bn bv (.mk btk btv btl) bl) 30 left hok.2.2.2 (by omega) (by omega) h0 (by omega)
  have hzb := szC_bound (.mk bk bn bv (.mk btk btv btl) bl) 30 left h0
  have hV : ∀ t : Ty, t.V ↔ (tyC t 20).1 = true := fun t => Iff.rfl
  have hf := hm nm
  have ih := fun h2 => check_loop1 hn us (i + 1) (szC (.mk bk bn bv (.mk btk btv btl) bl) 30 left).2 (m ++ [(nm, B true)]) (drop_next hd) (fun x hx => hs x (by simp [hx])) (hzb.2.2 h2) (by omega) (hm.add nm)
  clear hs hm hd hok
  simp only [Int.natCast_add] at ih
  generalize hnm : nameC nm.data.toList = b at hc
  have hv1 := hV (.mk pk pv pl)
  have hv2 := hV (.mk rk rv rl)
  clear hV
  generalize (tyC (.mk pk pv pl) 20).1 = b1 at ht1 hv1
  generalize (tyC (.mk rk rv rl) 20).1 = b2 at ht2 hv2
  cases b with
  | false =>
   clear ih hf hv1 hv2 hzb hnm
   refine .inr ?_
   exact lL [rS [(0, .bit true)], rS [(0, oW hx)], rS [(2, oC hc)], rG] [.keep [(4, [])]] (qT ((i : Int) < (ds.length : Int)) (qI i (ob1 hx (ob1 (hc) ob0))))
  | true =>
   rcases hf with hf | hf
   ·cases b1 with
    | false =>
     clear ih hv1 hv2 hzb hnm
     refine .inr ?_
     exact lL [rS [(0, .bit true)], rS [(0, oW hx)], rS [(2, oC hc), (8, .look none), (14, oC ht1)], rG] [.keep [(4, [])]] (qT ((i : Int) < (ds.length : Int)) (qI i (ob1 hx (ob1 (hc) (q (findM (Def.name { name := nm, param := Ty.mk pk pv pl, result := Ty.mk rk rv rl, body := Expr.mk bk bn bv (Ty.mk btk btv btl) bl }) m = none) (ob1 (ht1) ob0))))))
    | true =>
     cases b2 with
     | false =>
      clear ih hv1 hv2 hzb hnm
      refine .inr ?_
      exact lL [rS [(0, .bit true)], rS [(0, oW hx)], rS [(2, oC hc), (8, .look none), (14, oC ht1), (21, oC ht2)], rG] [.keep [(4, [])]] (qT ((i : Int) < (ds.length : Int)) (qI i (ob1 hx (ob1 (hc) (q (findM (Def.name { name := nm, param := Ty.mk pk pv pl, result := Ty.mk rk rv rl, body := Expr.mk bk bn bv (Ty.mk btk btv btl) bl }) m = none) (ob1 (ht1) (ob1 (ht2) ob0)))))))
     | true =>
      generalize hzz : szC (.mk bk bn bv (.mk btk btv btl) bl) 30 left = Z at hz ih hzb
      obtain ⟨zb, zn⟩ := Z
      cases zb with
      | false =>
       clear ih hv1 hv2 hzb hzz hnm
       refine .inr ?_
       exact lL [rS [(0, .bit true)], rS [(0, oW hx)], rS [(2, oC hc), (8, .look none), (14, oC ht1), (21, oC ht2), (27, oC hz)], rG] [.keep [(4, [])]] (qT ((i : Int) < (ds.length : Int)) (qI i (ob1 hx (ob1 (hc) (q (findM (Def.name { name := nm, param := Ty.mk pk pv pl, result := Ty.mk rk rv rl, body := Expr.mk bk bn bv (Ty.mk btk btv btl) bl }) m = none) (ob1 (ht1) (ob1 (ht2) (ob1 (hz) ob0))))))))
      | true =>
       have hnod := szC_nodes _ _ _ (by rw [hzz])
       rw [hzz] at hnod
       simp only at hnod
       rcases ih rfl with ⟨hq, hq2, hq3, ih⟩ | ih
       ·refine .inl ⟨fun d hd => ?_, ⟨hnm, hf, hq2⟩, by simp only [bodies]; omega, ?_⟩
        ·rcases List.mem_cons.1 hd with rfl | hd
         ·exact ⟨hv1.2 rfl, hv2.2 rfl, left, h0, h1, by rw [hzz]⟩
         ·exact hq d hd
        ·clear hq hq2 hq3 hnod hnm hv1 hv2 hzb hzz
         exact lN [rS [(0, .bit true)], rS [(0, oW hx)], rS [(2, oC hc), (8, .look none), (14, oC ht1), (21, oC ht2), (27, oC hz)], rS [(3, .look none)], rS [(0, .int ((i : Int) + 1))]] [.keep [(2, []), (3, []), (5, []), (6, []), (54, []), (55, []), (56, [])]] (qT ((i : Int) < (ds.length : Int)) (qI i (ob1 hx (ob1 (hc) (q (findM (Def.name { name := nm, param := Ty.mk pk pv pl, result := Ty.mk rk rv rl, body := Expr.mk bk bn bv (Ty.mk btk btv btl) bl }) m = none) (ob1 (ht1) (ob1 (ht2) (ob1 (hz) (q (findM (Def.name { name := nm, param := Ty.mk pk pv pl, result := Ty.mk rk rv rl, body := Expr.mk bk bn bv (Ty.mk btk btv btl) bl }) m = none) (qw ((i : Int) + 1) ob0)))))))))) (ih)
       ·refine .inr ?_
        clear hv1 hv2 hzb hzz hnm hnod
        exact lN [rS [(0, .bit true)], rS [(0, oW hx)], rS [(2, oC hc), (8, .look none), (14, oC ht1), (21, oC ht2), (27, oC hz)], rS [(3, .look none)], rS [(0, .int ((i : Int) + 1))]] [.keep [(2, []), (3, []), (5, []), (6, []), (54, []), (55, []), (56, [])]] (qT ((i : Int) < (ds.length : Int)) (qI i (ob1 hx (ob1 (hc) (q (findM (Def.name { name := nm, param := Ty.mk pk pv pl, result := Ty.mk rk rv rl, body := Expr.mk bk bn bv (Ty.mk btk btv btl) bl }) m = none) (ob1 (ht1) (ob1 (ht2) (ob1 (hz) (q (findM (Def.name { name := nm, param := Ty.mk pk pv pl, result := Ty.mk rk rv rl, body := Expr.mk bk bn bv (Ty.mk btk btv btl) bl }) m = none) (qw ((i : Int) + 1) ob0)))))))))) (ih)
   ·clear ih hv1 hv2 hzb hnm
    refine .inr ?_
    exact lL [rS [(0, .bit true)], rS [(0, oW hx)], rS [(2, oC hc), (8, .look (some (B true)))], rG] [.keep [(4, [])]] (qT ((i : Int) < (ds.length : Int)) (qI i (ob1 hx (ob1 (hc) (q (findM (Def.name { name := nm, param := Ty.mk pk pv pl, result := Ty.mk rk rv rl, body := Expr.mk bk bn bv (Ty.mk btk btv btl) bl }) m = some (B true)) ob0)))))
theorem check_loop2 (hn : ds.length ≤ 16) (hd0 : ∀ d ∈ ds, d.ok) : ∀ (us : List Def) (i : Nat), ds.drop i = us → (∀ d ∈ us, TypeOk ⟨es, ds, .mk mk mn mv (.mk mtk mtv mtl) ml⟩ d.body [d.param] ∧ (tImp ⟨es, ds, .mk mk mn mv (.mk mtk mtv mtl) ml⟩ d.body [d.param]).1.ok) →
  ((∀ d ∈ us, tImp ⟨es, ds, .mk mk mn mv (.mk mtk mtv mtl) ml⟩ d.body [d.param] = (d.result, true)) ∧ Lp Tryz.prog 136 0 (loopN Tryz.f27 2)
   ⟨lookT [(2, .lp 0 0), (3, .lp 1 0), (95, .sl 14 (Def.encs ds) false), (96, I (ds.length : Int)), (97, I (i : Int))], [.cells [B false] [], .cells (Prog.enc ⟨es, ds, .mk mk mn mv (.mk mtk mtv mtl) ml⟩) []]⟩
   (.exit 4) ⟨lookT [(2, .lp 0 0), (3, .lp 1 0)], [.cells [B false] [], .cells (Prog.enc ⟨es, ds, .mk mk mn mv (.mk mtk mtv mtl) ml⟩) []]⟩) ∨
  Lp Tryz.prog 136 0 (loopN Tryz.f27 2)
   ⟨lookT [(2, .lp 0 0), (3, .lp 1 0), (95, .sl 14 (Def.encs ds) false), (96, I (ds.length : Int)), (97, I (i : Int))], [.cells [B false] [], .cells (Prog.enc ⟨es, ds, .mk mk mn mv (.mk mtk mtv mtl) ml⟩) []]⟩
   .ret ⟨lookT [(4, B false)], []⟩
 | [], i, hd, hs => by
  have hi := drop_end hd
  refine .inl ⟨by simp, ?_⟩
  clear hs hd0 hd
  exact lL [rS [(0, .bit false)]] [.keep [(2, []), (3, [])]] (qF ((i : Int) < (ds.length : Int)) ob0)
 | d :: us, i, hd, hs => by
  obtain ⟨nm, ⟨pk, pv, pl⟩, ⟨rk, rv, rl⟩, ⟨bk, bn, bv, ⟨btk, btv, btl⟩, bl⟩⟩ := d
  have hi := drop_lt hd
  have hx : (Def.encs ds)[i]? = some (Def.mk nm (.mk pk pv pl) (.mk rk rv rl) (.mk bk bn bv (.mk btk btv btl) bl)).enc := by rw [Def.encs_get, drop_get hd]; rfl
  obtain ⟨ht, ho⟩ := hs _ (List.mem_cons_self ..)
  have ih := check_loop2 hn hd0 us (i + 1) (drop_next hd) (fun x hx => hs x (by simp [hx]))
  clear hs hd hd0
  simp only [Int.natCast_add] at ih
  unfold TypeOk at ht
  simp only at ht ho
  generalize hT : tImp ⟨es, ds, .mk mk mn mv (.mk mtk mtv mtl) ml⟩ (.mk bk bn bv (.mk btk btv btl) bl) [.mk pk pv pl] = T at ht ho
  obtain ⟨⟨tk, tv, tl⟩, tb⟩ := T
  have he := eqTy_0 (.mk tk tv tl) (.mk rk rv rl) ho
  clear ho
  cases tb with
  | false =>
   clear ih hT
   refine .inr ?_
   exact lL [rS [(0, .bit true)], rS [(0, oW hx)], rS [(7, oC ht)], rG, rG] [.keep [(4, [])]] (qT ((i : Int) < (ds.length : Int)) (qI i (ob1 hx (ob1 (ht) ob0))))
  | true =>
   by_cases hq : Ty.mk tk tv tl = Ty.mk rk rv rl
   ·rw [decide_eq_true hq] at he
    rcases ih with ⟨h1, ih⟩ | ih
    ·refine .inl ⟨fun d hd => ?_, ?_⟩
     ·rcases List.mem_cons.1 hd with rfl | hd
      ·simp only [hT, hq]
      ·exact h1 d hd
     ·clear h1 hT hq
      exact lN [rS [(0, .bit true)], rS [(0, oW hx)], rS [(7, oC ht)], rS [(6, oC he)], rS [(0, .int ((i : Int) + 1))]] [.keep [(2, []), (3, []), (95, []), (96, []), (97, [])]] (qT ((i : Int) < (ds.length : Int)) (qI i (ob1 hx (ob1 (ht) (ob1 (he) (qw ((i : Int) + 1) ob0)))))) (ih)
    ·clear hT hq
     refine .inr ?_
     exact lN [rS [(0, .bit true)], rS [(0, oW hx)], rS [(7, oC ht)], rS [(6, oC he)], rS [(0, .int ((i : Int) + 1))]] [.keep [(2, []), (3, []), (95, []), (96, []), (97, [])]] (qT ((i : Int) < (ds.length : Int)) (qI i (ob1 hx (ob1 (ht) (ob1 (he) (qw ((i : Int) + 1) ob0)))))) (ih)
   ·rw [decide_eq_false hq] at he
    clear ih hT hq
    refine .inr ?_
    exact lL [rS [(0, .bit true)], rS [(0, oW hx)], rS [(7, oC ht)], rS [(6, oC he)], rG] [.keep [(4, [])]] (qT ((i : Int) < (ds.length : Int)) (qI i (ob1 hx (ob1 (ht) (ob1 (he) ob0)))))
end
end Go.Ae
namespace Go.Ae
open Go.Proofs
structure Valid (p : Prog) : Prop where
 ev : p.events.length ≤ 16
 ds : p.defs.length ≤ 16
 pt : PT p
 dok : ∀ d ∈ p.defs, d.ok
 mok : p.main.ok
 msz : (szC p.main 30 400).1 = true
 nm1 : nmsOk p.events []
 nm2 : nmsOk (p.defs.map (·.name)) []
 tot : (p.main.nodes : Int) + bodies p.defs ≤ 400
 dsz : ∀ d ∈ p.defs, ∃ n, 0 ≤ n ∧ n ≤ 400 ∧ (szC d.body 30 n).1 = true
 mty : ∃ k : Int, 1 ≤ k ∧ k ≤ 4 ∧ tImp p p.main [] = (tyF k, true)
theorem check_ (p : Prog) (hok : p.ok) : ∃ b, SC 27 [.agg [B false], .agg p.enc] [] (B b) [] ∧ (b = true → Valid p) := by
 obtain ⟨es, ds, mk, mn, mv, ⟨mtk, mtv, mtl⟩, ml⟩ := p
 obtain ⟨o1, o2, o3, o4, o5⟩ := hok
 simp only at o1 o2 o3 o4 o5
 by_cases h1 : es.length ≤ 16
 ·by_cases h2 : ds.length ≤ 16
  ·have hz := size_ (.mk mk mn mv (.mk mtk mtv mtl) ml) 30 400 o5 (by omega) (by omega) (by omega) (by omega)
   have hzb := szC_bound (.mk mk mn mv (.mk mtk mtv mtl) ml) 30 400 (by omega)
   generalize hzz : szC (.mk mk mn mv (.mk mtk mtv mtl) ml) 30 400 = Z at hz hzb
   obtain ⟨zb, zn⟩ := Z
   cases zb with
   | false =>
    refine ⟨false, ?_, fun h => by cases h⟩
    clear hzb hzz o2 o4 o5 o1 o3
    exact gF Tryz.func27 [rG, rG, rS [(2, .int (es.length : Int)), (3, .bit false), (7, .int (ds.length : Int)), (8, .bit false), (13, oC hz)], rG] (qN strs es (qF (16 < (es.length : Int)) (qN Def.encs ds (qF (16 < (ds.length : Int)) (ob1 (hz) ob0)))))
   | true =>
    have l0 := check_loop0 es ds mk mn mv mtk mtv mtl ml h1 zn es 0 [] rfl o2 .nil
    have l1 := check_loop1 es ds mk mn mv mtk mtv mtl ml h2 ds 0 zn [] rfl o4 (hzb.2.2 rfl) hzb.2.1 .nil
    rcases l0 with ⟨m', hm', hnm1, l0⟩ | l0
    ·clear hm'
     rcases l1 with ⟨hV, hnm2, hbod, l1⟩ | l1
     ·have htot : ((Expr.mk mk mn mv (.mk mtk mtv mtl) ml).nodes : Int) + bodies ds ≤ 400 := by
       have := szC_nodes (.mk mk mn mv (.mk mtk mtv mtl) ml) 30 400 (by rw [hzz])
       rw [hzz] at this
       simp only at this
       omega
      have hd : ∀ d ∈ ds, d.ok ∧ d.param.V ∧ d.result.V := fun d hd => ⟨o4 d hd, (hV d hd).1, (hV d hd).2.1⟩
      have hall := type_all es ds mk mn mv mtk mtv mtl ml (by omega) (by omega) hd
      have hT := fun d (hd' : d ∈ ds) => (show TypeOk ⟨es, ds, .mk mk mn mv (.mk mtk mtv mtl) ml⟩ d.body [d.param] from by
       obtain ⟨n, n0, n1, n2⟩ := (hV d hd').2.2
       exact hall d.body [d.param] 30 n (o4 d hd').2.2.2 n2 (by omega) (by omega) (by simp) (fun t ht => by
        simp only [List.mem_singleton] at ht; subst ht; exact ⟨(o4 d hd').2.1, (hV d hd').1⟩))
      have l2 := check_loop2 es ds mk mn mv mtk mtv mtl ml h2 o4 ds 0 rfl (fun d hd' => ⟨hT d hd', tImp_ok _ (fun d h => (hd d h).1) d.body _ (o4 d hd').2.2.2 (fun t ht => by
       simp only [List.mem_singleton] at ht; subst ht; exact (o4 d hd').2.1)⟩)
      have hM : TypeOk ⟨es, ds, .mk mk mn mv (.mk mtk mtv mtl) ml⟩ (.mk mk mn mv (.mk mtk mtv mtl) ml) [] :=
       hall _ [] 30 400 o5 (by rw [hzz]) (by omega) (by omega) (by simp) (by simp)
      have hMV := tImp_V ⟨es, ds, .mk mk mn mv (.mk mtk mtv mtl) ml⟩ (fun d h => (hd d h).2) (.mk mk mn mv (.mk mtk mtv mtl) ml) [] (by simp)
      unfold TypeOk at hM
      rcases l2 with ⟨hB, l2⟩ | l2
      ·have hval : ∀ k w l, tImp ⟨es, ds, .mk mk mn mv (.mk mtk mtv mtl) ml⟩ (.mk mk mn mv (.mk mtk mtv mtl) ml) [] = (.mk k w l, true) → k = 0 → Valid ⟨es, ds, .mk mk mn mv (.mk mtk mtv mtl) ml⟩ := fun k w l e hk => by
        rw [e] at hMV
        have hv := V_kd0 (hMV rfl) hk
        refine ⟨h1, h2, ⟨fun d hd' => ⟨hB d hd', ?_, (o4 d hd').2.2.2⟩, fun d hd' => (hd d hd').2, by simp only; omega⟩, o4, o5, by rw [hzz], hnm1, hnm2, htot, fun d hd' => (hV d hd').2.2, w, hv.1, hv.2.1, ?_⟩
        ·obtain ⟨n, n0, n1, n2⟩ := (hV d hd').2.2
         have := szC_le n0 n2
         omega
        ·rw [e, hk, hv.2.2]; rfl
       clear hB hMV hT hall hd hV o2 o4 o5 o1 o3 hzz hzb hnm1 hnm2 hbod htot
       generalize tImp ⟨es, ds, .mk mk mn mv (.mk mtk mtv mtl) ml⟩ (.mk mk mn mv (.mk mtk mtv mtl) ml) [] = T at hM hval
       obtain ⟨⟨tk, tv, tl⟩, tb⟩ := T
       cases tb with
       | false =>
        refine ⟨false, ?_, fun h => by cases h⟩
        clear hval
        exact gF Tryz.func27 [rG, rG, rS [(2, .int (es.length : Int)), (3, .bit false), (7, .int (ds.length : Int)), (8, .bit false), (13, oC hz)], rG, rS [(2, .int (es.length : Int))], oL [.keep [(2, []), (3, []), (5, []), (6, []), (35, []), (36, []), (37, [])]] l0, rG, rS [(2, .int (ds.length : Int))], oL [.keep [(2, []), (3, []), (5, []), (6, []), (54, []), (55, []), (56, [])]] l1, rS [(2, .int (ds.length : Int))], oL [.keep [(2, []), (3, []), (95, []), (96, []), (97, [])]] l2, rS [(4, oC hM)], rG] (qN strs es (qF (16 < (es.length : Int)) (qN Def.encs ds (qF (16 < (ds.length : Int)) (ob1 (hz) (qN strs es (ob1 (l0) (qN Def.encs ds (ob1 (l1) (qN Def.encs ds (ob1 (l2) (ob1 (hM) ob0))))))))))))
       | true =>
        by_cases hk : tk = 0
        ·refine ⟨true, ?_, fun _ => hval _ _ _ rfl hk⟩
         clear hval
         exact gF Tryz.func27 [rG, rG, rS [(2, .int (es.length : Int)), (3, .bit false), (7, .int (ds.length : Int)), (8, .bit false), (13, oC hz)], rG, rS [(2, .int (es.length : Int))], oL [.keep [(2, []), (3, []), (5, []), (6, []), (35, []), (36, []), (37, [])]] l0, rG, rS [(2, .int (ds.length : Int))], oL [.keep [(2, []), (3, []), (5, []), (6, []), (54, []), (55, []), (56, [])]] l1, rS [(2, .int (ds.length : Int))], oL [.keep [(2, []), (3, []), (95, []), (96, []), (97, [])]] l2, rS [(4, oC hM)], rS [(4, .bit true)]] (qN strs es (qF (16 < (es.length : Int)) (qN Def.encs ds (qF (16 < (ds.length : Int)) (ob1 (hz) (qN strs es (ob1 (l0) (qN Def.encs ds (ob1 (l1) (qN Def.encs ds (ob1 (l2) (ob1 (hM) (qV (tk == 0) ob0)))))))))))))
        ·refine ⟨false, ?_, fun h => by cases h⟩
         clear hval
         exact gF Tryz.func27 [rG, rG, rS [(2, .int (es.length : Int)), (3, .bit false), (7, .int (ds.length : Int)), (8, .bit false), (13, oC hz)], rG, rS [(2, .int (es.length : Int))], oL [.keep [(2, []), (3, []), (5, []), (6, []), (35, []), (36, []), (37, [])]] l0, rG, rS [(2, .int (ds.length : Int))], oL [.keep [(2, []), (3, []), (5, []), (6, []), (54, []), (55, []), (56, [])]] l1, rS [(2, .int (ds.length : Int))], oL [.keep [(2, []), (3, []), (95, []), (96, []), (97, [])]] l2, rS [(4, oC hM)], rS [(4, .bit false)]] (qN strs es (qF (16 < (es.length : Int)) (qN Def.encs ds (qF (16 < (ds.length : Int)) (ob1 (hz) (qN strs es (ob1 (l0) (qN Def.encs ds (ob1 (l1) (qN Def.encs ds (ob1 (l2) (ob1 (hM) (qU (tk == 0) ob0)))))))))))))
      ·refine ⟨false, ?_, fun h => by cases h⟩
       clear hMV hT hall hd hV o2 o4 o5 o1 o3 hzz hzb hM hnm1 hnm2 hbod htot
       exact gF Tryz.func27 [rG, rG, rS [(2, .int (es.length : Int)), (3, .bit false), (7, .int (ds.length : Int)), (8, .bit false), (13, oC hz)], rG, rS [(2, .int (es.length : Int))], oL [.keep [(2, []), (3, []), (5, []), (6, []), (35, []), (36, []), (37, [])]] l0, rG, rS [(2, .int (ds.length : Int))], oL [.keep [(2, []), (3, []), (5, []), (6, []), (54, []), (55, []), (56, [])]] l1, rS [(2, .int (ds.length : Int))], oL [.keep [(2, []), (3, []), (95, []), (96, []), (97, [])]] l2] (qN strs es (qF (16 < (es.length : Int)) (qN Def.encs ds (qF (16 < (ds.length : Int)) (ob1 (hz) (qN strs es (ob1 (l0) (qN Def.encs ds (ob1 (l1) (qN Def.encs ds (ob1 (l2) ob0)))))))))))
     ·refine ⟨false, ?_, fun h => by cases h⟩
      clear o2 o4 o5 o1 o3 hzz hzb hnm1
      exact gF Tryz.func27 [rG, rG, rS [(2, .int (es.length : Int)), (3, .bit false), (7, .int (ds.length : Int)), (8, .bit false), (13, oC hz)], rG, rS [(2, .int (es.length : Int))], oL [.keep [(2, []), (3, []), (5, []), (6, []), (35, []), (36, []), (37, [])]] l0, rG, rS [(2, .int (ds.length : Int))], oL [.keep [(2, []), (3, []), (5, []), (6, []), (54, []), (55, []), (56, [])]] l1] (qN strs es (qF (16 < (es.length : Int)) (qN Def.encs ds (qF (16 < (ds.length : Int)) (ob1 (hz) (qN strs es (ob1 (l0) (qN Def.encs ds (ob1 (l1) ob0)))))))))
    ·refine ⟨false, ?_, fun h => by cases h⟩
     clear l1 o2 o4 o5 o1 o3 hzz hzb
     exact gF Tryz.func27 [rG, rG, rS [(2, .int (es.length : Int)), (3, .bit false), (7, .int (ds.length : Int)), (8, .bit false), (13, oC hz)], rG, rS [(2, .int (es.length : Int))], oL [.keep [(2, []), (3, []), (5, []), (6, []), (35, []), (36, []), (37, [])]] l0] (qN strs es (qF (16 < (es.length : Int)) (qN Def.encs ds (qF (16 < (ds.length : Int)) (ob1 (hz) (qN strs es (ob1 (l0) ob0)))))))
  ·refine ⟨false, ?_, fun h => by cases h⟩
   clear o2 o4 o5
   exact gF Tryz.func27 [rG, rG, rS [(2, .int (es.length : Int)), (3, .bit false), (7, .int (ds.length : Int)), (8, .bit true)], rG] (qN strs es (qF (16 < (es.length : Int)) (qN Def.encs ds (qT (16 < (ds.length : Int)) ob0))))
 ·refine ⟨false, ?_, fun h => by cases h⟩
  clear o2 o4 o5
  exact gF Tryz.func27 [rG, rG, rS [(2, .int (es.length : Int)), (3, .bit true)], rG] (qN strs es (qT (16 < (es.length : Int)) ob0))
theorem lplain_ : SC 35 [] [] (.agg [B false]) [] := by
 exact gF Tryz.func35 [rG, rG] ob0
theorem lcheck_ (p : Prog) (hok : p.ok) : ∃ e : Int, SC 16 [.agg p.enc] [] (I e) [] ∧ (e = 0 ∨ e = 15) ∧ (e = 0 → Valid p) := by
 obtain ⟨b, h, hv⟩ := check_ p hok
 obtain ⟨es, ds, mk, mn, mv, ⟨mtk, mtv, mtl⟩, ml⟩ := p
 have hp := lplain_
 cases b with
 | false =>
  refine ⟨15, ?_, .inr rfl, fun h => by omega⟩
  clear hv hok
  exact gF Tryz.func16 [rG, rS [(0, oC hp), (2, oC h)], rG] (ob1 (hp) (ob1 (h) ob0))
 | true =>
  refine ⟨0, ?_, .inl rfl, fun _ => hv rfl⟩
  clear hv hok
  exact gF Tryz.func16 [rG, rS [(0, oC hp), (2, oC h)], rG] (ob1 (hp) (ob1 (h) ob0))
end Go.Ae
namespace Go.Ae
theorem nmsOk_get : ∀ {us : List ByteArray} {m : List (ByteArray × AV)}, nmsOk us m → ∀ (i : Nat) (s : ByteArray), us[i]? = some s →
  nameC s.data.toList = true ∧ findM s m = none ∧ ∀ (j : Nat) (x : ByteArray), j < i → us[j]? = some x → x ≠ s
 | [], _, _, i, s, e => by simp at e
 | u :: us, m, h, 0, s, e => by
  simp only [List.getElem?_cons_zero, Option.some.injEq] at e
  subst e
  exact ⟨h.1, h.2.1, fun j x hj => by omega⟩
 | u :: us, m, h, i + 1, s, e => by
  obtain ⟨h1, h2, h3⟩ := nmsOk_get h.2.2 i s (by simpa using e)
  rw [findM_append] at h2
  have h4 : findM s m = none := by
   cases hf : findM s m with
   | none => rfl
   | some a => rw [hf] at h2; simp at h2
  rw [h4] at h2
  have h5 : u ≠ s := fun e' => by
   subst e'
   simp only [findM, (bbeq u u).2 rfl, if_true] at h2
   cases h2
  refine ⟨h1, h4, fun j x hj hx => ?_⟩
  cases j with
  | zero =>
   simp only [List.getElem?_cons_zero, Option.some.injEq] at hx
   subst hx
   exact h5
  | succ j => exact h3 j x (by omega) (by simpa using hx)
mutual
theorem ndC_nodes : ∀ (e : Expr) (m : Int), (e.nodes : Int) ≤ m → ndC e m = e.nodes
 | .mk _ _ _ _ l, m, h => by
  simp only [Expr.nodes] at h ⊢
  rw [ndC, ndL_nodes l m 1 (by omega) (by omega)]
  omega
theorem ndL_nodes : ∀ (l : List Expr) (m n : Int), 1 ≤ n → n + Expr.nodesL l ≤ m → ndL l m n = n + Expr.nodesL l
 | [], m, n, h1, h => by simp [ndL, Expr.nodesL]
 | e :: l, m, n, h1, h => by
  simp only [Expr.nodesL] at h ⊢
  have := nodes_pos e
  rw [ndL, if_pos (by omega), ndC_nodes e (m - n) (by omega), ndL_nodes l m _ (by omega) (by omega)]
  omega
end
mutual
theorem szC_dp : ∀ (e : Expr) (d n : Int), 0 ≤ d → (szC e d n).1 = true → dpC e ≤ d
 | .mk _ _ _ _ l, d, n, h0, h => by
  simp only [szC] at h
  split at h
  ·simp at h
  ·split at h
   ·simp at h
   ·have := szCs_dp l (d - 1) (n - 1) 0 (by omega) (by omega) h
    rw [dpC]
    omega
theorem szCs_dp : ∀ (l : List Expr) (d n k : Int), 0 ≤ d → k ≤ d → (szCs l d n).1 = true → dpL l k ≤ d
 | [], d, n, k, h0, h1, h => by simpa [dpL] using h1
 | e :: l, d, n, k, h0, h1, h => by
  rw [szCs_cons] at h
  split at h
  ·rename_i h2
   have := szC_dp e d n h0 h2
   rw [dpL]
   exact szCs_dp l d _ _ h0 (by split <;> omega) h
  ·simp at h
end
theorem bodies_pos : ∀ l : List Def, 0 ≤ bodies l
 | [] => by simp [bodies]
 | x :: l => by have := bodies_pos l; simp only [bodies]; omega
end Go.Ae
namespace Go.Ae
open Go.Proofs
theorem bbne {a b : ByteArray} (h : a ≠ b) : (a.toList == b.toList) = false := by
 cases e : a.toList == b.toList with
 | false => rfl
 | true =>
  have e' := eq_of_beq e
  rw [ByteArray.toList_eq, ByteArray.toList_eq] at e'
  exact absurd (WideShapes.bytes_inj e') h
theorem unlike_in (us vs : List ByteArray) (s : ByteArray) (i : Nat) (hv : vs.length ≤ 1000) (hu : us.length ≤ 1000) : ∀ (vs' : List ByteArray) (k : Nat), vs.drop k = vs' → (∀ x ∈ vs', x ≠ s) →
  Lp Tryz.prog 30 0 (loopN Tryz.f38 1) ⟨lookT [(0, .sl 1 (strs us) false), (4, S s), (7, .sl 1 (strs us) false), (8, I (us.length : Int)), (9, I (i : Int)), (19, .sl 1 (strs vs) false), (20, I (vs.length : Int)), (21, I (k : Int))], []⟩
   (.exit 2) ⟨lookT [(0, .sl 1 (strs us) false), (7, .sl 1 (strs us) false), (8, I (us.length : Int)), (9, I (i : Int))], []⟩
 | [], k, hd, hne => by
  have hi := drop_end hd
  clear hd hne
  exact lL [rS [(0, .bit false)]] [.keep [(0, []), (7, []), (8, []), (9, [])]] (qF ((k : Int) < (vs.length : Int)) ob0)
 | x :: vs', k, hd, hne => by
  have hi := drop_lt hd
  have hx : (strs vs)[k]? = some [S x] := by rw [strs_get, drop_get hd]; rfl
  have hn := bbne (hne x (by simp))
  have ih := unlike_in us vs s i hv hu vs' (k + 1) (drop_next hd) (fun y hy => hne y (by simp [hy]))
  clear hne hd
  simp only [Int.natCast_add] at ih
  exact lN [rS [(0, .bit true)], rS [(0, oW hx)], rS [(2, .bit false)], rS [(0, .int ((k : Int) + 1))]] [.keep [(0, []), (4, []), (7, []), (8, []), (9, []), (19, []), (20, []), (21, [])]] (qT ((k : Int) < (vs.length : Int)) (qI k (ob1 hx (qU (ByteArray.toList x == ByteArray.toList s) (qw ((k : Int) + 1) ob0))))) (ih)
theorem strs_take : ∀ (l : List ByteArray) (n : Nat), (strs l).take n = strs (l.take n)
 | [], n => by simp [strs]
 | x :: l, 0 => by simp [strs]
 | x :: l, n + 1 => by simp [strs, strs_take l n]
theorem unlike_loop (us : List ByteArray) (hu : us.length ≤ 1000) (hok : ∀ s ∈ us, s.size ≤ 281474976710656) (hm : nmsOk us []) : ∀ (us' : List ByteArray) (i : Nat), us.drop i = us' →
  Lp Tryz.prog 30 0 (loopN Tryz.f38 0) ⟨lookT [(0, .sl 1 (strs us) false), (7, .sl 1 (strs us) false), (8, I (us.length : Int)), (9, I (i : Int))], []⟩
   (.exit 0) ⟨lookT [], []⟩
 | [], i, hd => by
  have hi := drop_end hd
  clear hd hok hm
  exact lL [rS [(0, .bit false)]] [.keep []] (qF ((i : Int) < (us.length : Int)) ob0)
 | s :: us', i, hd => by
  have hi := drop_lt hd
  have hx : (strs us)[i]? = some [S s] := by rw [strs_get, drop_get hd]; rfl
  have hg := nmsOk_get hm i s (drop_get hd)
  have hc := refName_ s (hok s (List.mem_of_getElem? (drop_get hd)))
  rw [hg.1] at hc
  have hin := unlike_in us (us.take i) s i (by simp; omega) hu (us.take i) 0 rfl (fun x hx => by
   obtain ⟨j, hj⟩ := List.getElem?_of_mem hx
   have hji : j < i := by have := (List.getElem?_eq_some_iff.1 hj).1; simp at this; omega
   rw [List.getElem?_take_of_lt hji] at hj
   exact hg.2.2 j x hji hj)
  have ih := unlike_loop us hu hok hm us' (i + 1) (drop_next hd)
  clear hok hm hd hg
  simp only [Int.natCast_add] at ih
  rw [List.length_take, ← strs_take] at hin
  simp only [Int.natCast_zero] at hin
  exact lN [rS [(0, .bit true)], rS [(1, oW hx)], rS [(1, oC hc)], rS [(2, .rows (List.take i (strs us))), (3, .int (↑(min i (List.length us)) : Int))], oL [.keep [(0, []), (4, []), (7, []), (8, []), (9, []), (19, []), (20, []), (21, [])]] hin, rS [(0, .int ((i : Int) + 1))]] [.keep [(0, []), (7, []), (8, []), (9, [])]] (qT ((i : Int) < (us.length : Int)) (qI i (ob1 hx (ob1 (hc) (q ((0 : Int) ≤ Option.getD none (0 : Int)) (q (Option.getD none (0 : Int) ≤ Option.getD (some (i : Int)) ((strs us).length : Int)) (q (Option.getD (some (i : Int)) ((strs us).length : Int) ≤ ((strs us).length : Int)) (q (List.drop (Int.toNat (Option.getD none (0 : Int))) (List.take (Int.toNat (Option.getD (some (i : Int)) ((strs us).length : Int))) (strs us)) = List.take i (strs us)) (q ((↑(List.length (List.take i (strs us))) : Int) = (↑(min i (List.length us)) : Int)) (ob1 (hin) (qw ((i : Int) + 1) ob0))))))))))) (ih)
theorem unlike_ (us : List ByteArray) (hu : us.length ≤ 1000) (hok : ∀ s ∈ us, s.size ≤ 281474976710656) (hm : nmsOk us []) : SC 38 [.sl 1 (strs us) false] [] (B true) [] := by
 have lp := unlike_loop us hu hok hm us 0 rfl
 clear hok hm
 exact gF Tryz.func38 [rG, rS [(1, .int (us.length : Int))], oL [.keep [(0, []), (7, []), (8, []), (9, [])]] lp, rG] (qN strs us (ob1 (lp) ob0))
theorem names_loop (ds : List Def) (hn : ds.length ≤ 1000) : ∀ (us : List Def) (i : Nat) (acc : List (List AV)), ds.drop i = us → acc.length ≤ i →
  Lp Tryz.prog 20 0 (loopN Tryz.f39 0) ⟨lookT [(3, .la 0 1), (7, .sl 14 (Def.encs ds) false), (8, I (ds.length : Int)), (9, I (i : Int))], [.arr 1 1 acc]⟩
   (.exit 0) ⟨lookT [(3, .la 0 1)], [.arr 1 1 (acc ++ strs (us.map (·.name)))]⟩
 | [], i, acc, hd, ha => by
  have hi := drop_end hd
  simp only [List.map_nil, strs, List.append_nil]
  clear hd
  exact lL [rS [(0, .bit false)]] [.keep [(3, [])]] (qF ((i : Int) < (ds.length : Int)) ob0)
 | d :: us, i, acc, hd, ha => by
  obtain ⟨nm, ⟨pk, pv, pl⟩, ⟨rk, rv, rl⟩, ⟨bk, bn, bv, ⟨btk, btv, btl⟩, bl⟩⟩ := d
  have hi := drop_lt hd
  have hx : (Def.encs ds)[i]? = some (Def.mk nm (.mk pk pv pl) (.mk rk rv rl) (.mk bk bn bv (.mk btk btv btl) bl)).enc := by rw [Def.encs_get, drop_get hd]; rfl
  have ih := names_loop ds hn us (i + 1) (acc ++ [[S nm]]) (drop_next hd) (by simp; omega)
  rw [List.append_assoc] at ih
  simp only [List.map_cons, strs]
  simp only [List.cons_append, List.nil_append] at ih
  clear hd
  simp only [Int.natCast_add] at ih
  have hF : Fits (acc.length + 1) acc.length 16 := by apply Fits.of; omega
  generalize acc ++ [S nm] :: strs (us.map (·.name)) = R at ih ⊢
  exact lN [rS [(0, .bit true)], rS [(0, oW hx)], rG, rS [(0, .int ((i : Int) + 1))]] [.keep [(3, []), (7, []), (8, []), (9, [])]] (qT ((i : Int) < (ds.length : Int)) (qI i (ob1 hx (q (Fits (List.length acc + 1) (List.length acc) 16) (qw ((i : Int) + 1) ob0))))) (ih)
theorem names_ (es : List ByteArray) (ds : List Def) (mk mn mv mtk mtv : Int) (mtl : List Ty) (ml : List Expr) (hn : ds.length ≤ 1000) :
  SC 39 [.agg (Prog.enc ⟨es, ds, .mk mk mn mv (.mk mtk mtv mtl) ml⟩)] [] (.sl 1 (strs (ds.map (·.name))) false) [] := by
 have lp := names_loop ds hn ds 0 [] rfl (by simp)
 simp only [List.nil_append] at lp
 generalize strs (ds.map (·.name)) = R at lp ⊢
 exact gK Tryz.func39 [rG, rG, .reg [.acc 3 1] [(2, .int (ds.length : Int))], oL [.keep [(3, []), (7, []), (8, []), (9, [])]] lp, rG] [.frz 0] [] (qN Def.encs ds (ob1 (lp) ob0))
end Go.Ae
namespace Go.Ae
open Go.Proofs
def isTyR (t : Ty) : Bool := decide (tnC t 20 ≤ 20) && shC t
noncomputable def tRef (p : Prog) : Expr → List Ty → Ty × Bool
 | .mk k n v ty l, sc =>
  if plainC (.mk k n v ty l) then
   (if k = 0 then (tyF v, decide (1 ≤ v) && decide (v ≤ 4) && decide (0 ≤ n) && decide (n < v))
   else if k = 8 then (tyF v, decide (1 ≤ v) && decide (v ≤ 4))
   else if k = 1 then (if decide (0 ≤ n) && decide (n < (sc.length : Int)) then (match sc[n.toNat]? with
    | some t => (t, true)
    | none => (tyZ, false)) else (tyZ, false))
   else if k = 2 then (if decide (0 ≤ n) && decide (n < (p.defs.length : Int)) then (match p.defs[n.toNat]? with
    | some d => (.mk 1 0 [d.param, d.result], decide (tnC (.mk 1 0 [d.param, d.result]) 20 ≤ 20))
    | none => (tyZ, false)) else (tyZ, false))
   else if k = 4 then (match l with
    | [a] => (.mk 1 0 [ty, (tRef p a (ty :: sc)).1], (tRef p a (ty :: sc)).2 && isTyR ty && decide (tnC (.mk 1 0 [ty, (tRef p a (ty :: sc)).1]) 20 ≤ 20))
    | _ => (tyZ, false))
   else if k = 7 then (match l with
    | [a] => ((tRef p a sc).1, (tRef p a sc).2 && decide (0 ≤ n) && decide (n < (p.events.length : Int)))
    | _ => (tyZ, false))
   else match l with
    | [] => (tyZ, false)
    | a :: m => if (tRef p a sc).2 then
      (if k = 5 then (match m with
       | [b] => tRef p b ((tRef p a sc).1 :: sc)
       | _ => (tyZ, false))
      else if k = 3 then (match m with
       | [b] => if (tRef p b sc).2 then appC (tRef p a sc).1 (tRef p b sc).1 else (tyZ, false)
       | _ => (tyZ, false))
      else (match m with
       | [] => (tyZ, false)
       | b :: r => if (tRef p a sc).1.kd = 0 ∧ (tRef p a sc).1.vl = ((b :: r).length : Int) then
         ((tRef p b sc).1, r.attach.foldl (fun ok c => ok && (tRef p c.1 sc).2 && decide ((tRef p b sc).1 = (tRef p c.1 sc).1)) (tRef p b sc).2) else (tyZ, false))) else (tyZ, false))
  else (tyZ, false)
termination_by e => SizeOf.sizeOf e
decreasing_by all_goals (simp_wf; first | omega | (have := List.sizeOf_lt_of_mem c.2; omega))
def OfOk (p : Prog) (e : Expr) (sc : List Ty) : Prop :=
 SC 42 [.agg p.enc, .sl 3 (Ty.encs sc) false, .agg e.enc] [] (.tup [.agg (tRef p e sc).1.enc, B (tRef p e sc).2]) []
section
variable (p : Prog) (n v : Int) (ty : Ty) (l : List Expr) (sc : List Ty)
theorem tRef_not (k : Int) (h : plainC (.mk k n v ty l) = false) : tRef p (.mk k n v ty l) sc = (tyZ, false) := by
 rw [tRef.eq_def]; dsimp only; rw [h]; rfl
theorem tRef_const (h : plainC (.mk 0 n v ty l) = true) : tRef p (.mk 0 n v ty l) sc = (tyF v, decide (1 ≤ v) && decide (v ≤ 4) && decide (0 ≤ n) && decide (n < v)) := by
 rw [tRef.eq_def]; dsimp only; rw [h]; rfl
theorem tRef_pick (h : plainC (.mk 8 n v ty l) = true) : tRef p (.mk 8 n v ty l) sc = (tyF v, decide (1 ≤ v) && decide (v ≤ 4)) := by
 rw [tRef.eq_def]; dsimp only; rw [h]; rfl
theorem tRef_var (h : plainC (.mk 1 n v ty l) = true) : tRef p (.mk 1 n v ty l) sc = (if decide (0 ≤ n) && decide (n < (sc.length : Int)) then (match sc[n.toNat]? with
    | some t => (t, true)
    | none => (tyZ, false)) else (tyZ, false)) := by
 rw [tRef.eq_def]; dsimp only; rw [h]; rfl
theorem tRef_fun (h : plainC (.mk 2 n v ty l) = true) : tRef p (.mk 2 n v ty l) sc = (if decide (0 ≤ n) && decide (n < (p.defs.length : Int)) then (match p.defs[n.toNat]? with
    | some d => (.mk 1 0 [d.param, d.result], decide (tnC (.mk 1 0 [d.param, d.result]) 20 ≤ 20))
    | none => (tyZ, false)) else (tyZ, false)) := by
 rw [tRef.eq_def]; dsimp only; rw [h]; rfl
theorem tRef_lam (a : Expr) (h : plainC (.mk 4 n v ty [a]) = true) : tRef p (.mk 4 n v ty [a]) sc =
  (.mk 1 0 [ty, (tRef p a (ty :: sc)).1], (tRef p a (ty :: sc)).2 && isTyR ty && decide (tnC (.mk 1 0 [ty, (tRef p a (ty :: sc)).1]) 20 ≤ 20)) := by
 rw [tRef.eq_def]; dsimp only; rw [h]; rfl
theorem tRef_event (a : Expr) (h : plainC (.mk 7 n v ty [a]) = true) : tRef p (.mk 7 n v ty [a]) sc = ((tRef p a sc).1, (tRef p a sc).2 && decide (0 ≤ n) && decide (n < (p.events.length : Int))) := by
 rw [tRef.eq_def]; dsimp only; rw [h]; rfl
theorem tRef_let (a b : Expr) (h : plainC (.mk 5 n v ty [a, b]) = true) : tRef p (.mk 5 n v ty [a, b]) sc = if (tRef p a sc).2 then tRef p b ((tRef p a sc).1 :: sc) else (tyZ, false) := by
 rw [tRef.eq_def]; dsimp only; rw [h]; rfl
theorem tRef_app (a b : Expr) (h : plainC (.mk 3 n v ty [a, b]) = true) : tRef p (.mk 3 n v ty [a, b]) sc =
  if (tRef p a sc).2 then (if (tRef p b sc).2 then appC (tRef p a sc).1 (tRef p b sc).1 else (tyZ, false)) else (tyZ, false) := by
 rw [tRef.eq_def]; dsimp only; rw [h]; rfl
noncomputable def casesR (p : Prog) (sc : List Ty) (f : Ty) (r : List Expr) (b : Bool) : Bool := r.foldl (fun ok c => ok && (tRef p c sc).2 && decide (f = (tRef p c sc).1)) b
theorem tRef_case (a b : Expr) (r : List Expr) (h : plainC (.mk 6 n v ty (a :: b :: r)) = true) : tRef p (.mk 6 n v ty (a :: b :: r)) sc =
  if (tRef p a sc).2 then (if (tRef p a sc).1.kd = 0 ∧ (tRef p a sc).1.vl = ((b :: r).length : Int) then ((tRef p b sc).1, casesR p sc (tRef p b sc).1 r (tRef p b sc).2) else (tyZ, false)) else (tyZ, false) := by
 have hf : ∀ f b, r.attach.foldl (fun ok c => ok && (tRef p c.1 sc).2 && decide (f = (tRef p c.1 sc).1)) b = casesR p sc f r b :=
  fun f b => List.foldl_attach (f := fun ok c => ok && (tRef p c sc).2 && decide (f = (tRef p c sc).1))
 rw [tRef.eq_def]; dsimp only; rw [h]
 simp only [hf]
 rfl
theorem tRef_case1 (a : Expr) (h : plainC (.mk 6 n v ty [a]) = true) : tRef p (.mk 6 n v ty [a]) sc = (tyZ, false) := by
 rw [tRef.eq_def]; dsimp only; rw [h]
 cases (tRef p a sc).2 <;> rfl
end
theorem of_not (es : List ByteArray) (ds : List Def) (mk mn mv mtk mtv : Int) (mtl : List Ty) (ml : List Expr) (sc : List Ty) (k n v tk tv : Int) (tl : List Ty) (l : List Expr) (h : plainC (.mk k n v (.mk tk tv tl) l) = false) :
  OfOk ⟨es, ds, .mk mk mn mv (.mk mtk mtv mtl) ml⟩ (.mk k n v (.mk tk tv tl) l) sc := by
 unfold OfOk
 have hp := plain_ k n v tk tv tl l
 rw [tRef_not _ _ _ _ _ _ _ h]
 rw [h] at hp
 exact gK Tryz.func42 [rG, rS [(1, oC hp)], rG] [.tidO 2 [none, none, some 3]] [] (ob1 (hp) ob0)
theorem of_const (es : List ByteArray) (ds : List Def) (mk mn mv mtk mtv : Int) (mtl : List Ty) (ml : List Expr) (sc : List Ty) (n v tk tv : Int) (tl : List Ty) (l : List Expr) (h : plainC (.mk 0 n v (.mk tk tv tl) l) = true) :
  OfOk ⟨es, ds, .mk mk mn mv (.mk mtk mtv mtl) ml⟩ (.mk 0 n v (.mk tk tv tl) l) sc := by
 unfold OfOk
 have hp := plain_ 0 n v tk tv tl l
 rw [tRef_const _ _ _ _ _ _ h]
 rw [h] at hp
 have hf := fin_1 v
 rcases dsp (1 ≤ v) with ⟨hb1, hb1'⟩ | ⟨hb1, hb1'⟩
 ·skip
  rcases dsp (v ≤ 4) with ⟨hb2, hb2'⟩ | ⟨hb2, hb2'⟩
  ·skip
   rcases dsp (0 ≤ n) with ⟨hb3, hb3'⟩ | ⟨hb3, hb3'⟩
   ·skip
    rcases dsp (n < v) with ⟨hb4, hb4'⟩ | ⟨hb4, hb4'⟩
    ·skip
     exact gR Tryz.func42 [rG, rS [(1, oC hp)], rG, rG, rS [(2, oC hf), (5, .bit true), (9, .bit true), (14, .bit true), (21, .bit true)]] [.tidO 2 [none, none, some 3]] [] (.tup [.agg [I 0, I v, .sl 3 [] false], B true]) ([]) (ob1 (hp) (ob1 (hf) (qT (1 ≤ v) (qT (v ≤ 4) (qT (0 ≤ n) (qT (n < v) ob0)))))) (by (simp only [tyF, Ty.enc, Ty.encs, *, decide_true, decide_false, Bool.and_true, Bool.and_false, Bool.true_and, Bool.false_and])) (by first | rfl | (simp [*]; done))
    ·skip
     exact gR Tryz.func42 [rG, rS [(1, oC hp)], rG, rG, rS [(2, oC hf), (5, .bit true), (9, .bit true), (14, .bit true), (21, .bit false)]] [.tidO 2 [none, none, some 3]] [] (.tup [.agg [I 0, I v, .sl 3 [] false], B false]) ([]) (ob1 (hp) (ob1 (hf) (qT (1 ≤ v) (qT (v ≤ 4) (qT (0 ≤ n) (qF (n < v) ob0)))))) (by (simp only [tyF, Ty.enc, Ty.encs, *, decide_true, decide_false, Bool.and_true, Bool.and_false, Bool.true_and, Bool.false_and])) (by first | rfl | (simp [*]; done))
   ·skip
    exact gR Tryz.func42 [rG, rS [(1, oC hp)], rG, rG, rS [(2, oC hf), (5, .bit true), (9, .bit true), (14, .bit false)]] [.tidO 2 [none, none, some 3]] [] (.tup [.agg [I 0, I v, .sl 3 [] false], B false]) ([]) (ob1 (hp) (ob1 (hf) (qT (1 ≤ v) (qT (v ≤ 4) (qF (0 ≤ n) ob0))))) (by (simp only [tyF, Ty.enc, Ty.encs, *, decide_true, decide_false, Bool.and_true, Bool.and_false, Bool.true_and, Bool.false_and])) (by first | rfl | (simp [*]; done))
  ·skip
   exact gR Tryz.func42 [rG, rS [(1, oC hp)], rG, rG, rS [(2, oC hf), (5, .bit true), (9, .bit false)]] [.tidO 2 [none, none, some 3]] [] (.tup [.agg [I 0, I v, .sl 3 [] false], B false]) ([]) (ob1 (hp) (ob1 (hf) (qT (1 ≤ v) (qF (v ≤ 4) ob0)))) (by (simp only [tyF, Ty.enc, Ty.encs, *, decide_true, decide_false, Bool.and_true, Bool.and_false, Bool.true_and, Bool.false_and])) (by first | rfl | (simp [*]; done))
 ·skip
  exact gR Tryz.func42 [rG, rS [(1, oC hp)], rG, rG, rS [(2, oC hf), (5, .bit false)]] [.tidO 2 [none, none, some 3]] [] (.tup [.agg [I 0, I v, .sl 3 [] false], B false]) ([]) (ob1 (hp) (ob1 (hf) (qF (1 ≤ v) ob0))) (by (simp only [tyF, Ty.enc, Ty.encs, *, decide_true, decide_false, Bool.and_true, Bool.and_false, Bool.true_and, Bool.false_and])) (by first | rfl | (simp [*]; done))
theorem of_pick (es : List ByteArray) (ds : List Def) (mk mn mv mtk mtv : Int) (mtl : List Ty) (ml : List Expr) (sc : List Ty) (n v tk tv : Int) (tl : List Ty) (l : List Expr) (h : plainC (.mk 8 n v (.mk tk tv tl) l) = true) :
  OfOk ⟨es, ds, .mk mk mn mv (.mk mtk mtv mtl) ml⟩ (.mk 8 n v (.mk tk tv tl) l) sc := by
 unfold OfOk
 have hp := plain_ 8 n v tk tv tl l
 rw [tRef_pick _ _ _ _ _ _ h]
 rw [h] at hp
 have hf := fin_1 v
 rcases dsp (1 ≤ v) with ⟨hb1, hb1'⟩ | ⟨hb1, hb1'⟩
 ·skip
  rcases dsp (v ≤ 4) with ⟨hb2, hb2'⟩ | ⟨hb2, hb2'⟩
  ·skip
   exact gR Tryz.func42 [rG, rS [(1, oC hp)], rG, rG, rG, rS [(2, oC hf), (5, .bit true), (9, .bit true)]] [.tidO 2 [none, none, some 3]] [] (.tup [.agg [I 0, I v, .sl 3 [] false], B true]) ([]) (ob1 (hp) (ob1 (hf) (qT (1 ≤ v) (qT (v ≤ 4) ob0)))) (by (simp only [tyF, Ty.enc, Ty.encs, *, decide_true, decide_false, Bool.and_true, Bool.and_false, Bool.true_and, Bool.false_and])) (by first | rfl | (simp [*]; done))
  ·skip
   exact gR Tryz.func42 [rG, rS [(1, oC hp)], rG, rG, rG, rS [(2, oC hf), (5, .bit true), (9, .bit false)]] [.tidO 2 [none, none, some 3]] [] (.tup [.agg [I 0, I v, .sl 3 [] false], B false]) ([]) (ob1 (hp) (ob1 (hf) (qT (1 ≤ v) (qF (v ≤ 4) ob0)))) (by (simp only [tyF, Ty.enc, Ty.encs, *, decide_true, decide_false, Bool.and_true, Bool.and_false, Bool.true_and, Bool.false_and])) (by first | rfl | (simp [*]; done))
 ·skip
  exact gR Tryz.func42 [rG, rS [(1, oC hp)], rG, rG, rG, rS [(2, oC hf), (5, .bit false)]] [.tidO 2 [none, none, some 3]] [] (.tup [.agg [I 0, I v, .sl 3 [] false], B false]) ([]) (ob1 (hp) (ob1 (hf) (qF (1 ≤ v) ob0))) (by (simp only [tyF, Ty.enc, Ty.encs, *, decide_true, decide_false, Bool.and_true, Bool.and_false, Bool.true_and, Bool.false_and])) (by first | rfl | (simp [*]; done))
theorem of_var (es : List ByteArray) (ds : List Def) (mk mn mv mtk mtv : Int) (mtl : List Ty) (ml : List Expr) (sc : List Ty) (n v tk tv : Int) (tl : List Ty) (l : List Expr) (h : plainC (.mk 1 n v (.mk tk tv tl) l) = true) :
  OfOk ⟨es, ds, .mk mk mn mv (.mk mtk mtv mtl) ml⟩ (.mk 1 n v (.mk tk tv tl) l) sc := by
 unfold OfOk
 have hp := plain_ 1 n v tk tv tl l
 rw [tRef_var _ _ _ _ _ _ h]
 rw [h] at hp
 by_cases h1 : 0 ≤ n
 ·by_cases h2 : n < (sc.length : Int)
  ·have hj : n.toNat < sc.length := by omega
   obtain ⟨ka, va, la, hg⟩ : ∃ ka va la, sc[n.toNat]? = some (Ty.mk ka va la) := by
    rcases hx : sc[n.toNat]'hj with ⟨ka, va, la⟩
    exact ⟨ka, va, la, by rw [List.getElem?_eq_getElem hj, hx]⟩
   have hx : (Ty.encs sc)[n.toNat]? = some (Ty.mk ka va la).enc := by rw [Ty.encs_get, hg]; rfl
   simp only [decide_eq_true h1, decide_eq_true h2, Bool.and_true, if_true, hg]
   exact gK Tryz.func42 [rG, rS [(1, oC hp)], rG, rG, rG, rG, rS [(2, .bit false), (7, .int (sc.length : Int)), (8, .bit false)], rS [(3, .row (Int.toNat n) (Ty.enc (Ty.mk ka va la)))]] [.tidO 2 [none, none, some 3]] [] (ob1 (hp) (qF (n < 0) (qN Ty.encs sc (qF ((sc.length : Int) ≤ n) (q (n = (↑(Int.toNat n) : Int)) (q ((Ty.encs sc)[Int.toNat n]? = some (Ty.enc (Ty.mk ka va la))) ob0))))))
  ·simp only [decide_eq_false h2, Bool.and_false, Bool.false_eq_true, if_false]
   exact gK Tryz.func42 [rG, rS [(1, oC hp)], rG, rG, rG, rG, rS [(2, .bit false), (7, .int (sc.length : Int)), (8, .bit true)], rG] [.tidO 2 [none, none, some 3]] [] (ob1 (hp) (qF (n < 0) (qN Ty.encs sc (qT ((sc.length : Int) ≤ n) ob0))))
 ·simp only [decide_eq_false h1, Bool.false_and, Bool.false_eq_true, if_false]
  exact gK Tryz.func42 [rG, rS [(1, oC hp)], rG, rG, rG, rG, rS [(2, .bit true)], rG] [.tidO 2 [none, none, some 3]] [] (ob1 (hp) (qT (n < 0) ob0))
theorem of_fun (es : List ByteArray) (ds : List Def) (mk mn mv mtk mtv : Int) (mtl : List Ty) (ml : List Expr) (sc : List Ty) (n v tk tv : Int) (tl : List Ty) (l : List Expr) (hs : ds.length ≤ 1000) (hd : ∀ d ∈ ds, d.ok) (h : plainC (.mk 2 n v (.mk tk tv tl) l) = true) :
  OfOk ⟨es, ds, .mk mk mn mv (.mk mtk mtv mtl) ml⟩ (.mk 2 n v (.mk tk tv tl) l) sc := by
 unfold OfOk
 have hp := plain_ 2 n v tk tv tl l
 rw [tRef_fun _ _ _ _ _ _ h]
 rw [h] at hp
 by_cases h1 : 0 ≤ n
 ·by_cases h2 : n < (ds.length : Int)
  ·have hj : n.toNat < ds.length := by omega
   obtain ⟨nm, ka, va, la, kb, vb, lb, bk, bn, bv, btk, btv, btl, bl, hg⟩ : ∃ nm ka va la kb vb lb bk bn bv btk btv btl bl, ds[n.toNat]? = some (Def.mk nm (.mk ka va la) (.mk kb vb lb) (.mk bk bn bv (.mk btk btv btl) bl)) := by
    rcases hx : ds[n.toNat]'hj with ⟨nm, ⟨ka, va, la⟩, ⟨kb, vb, lb⟩, ⟨bk, bn, bv, ⟨btk, btv, btl⟩, bl⟩⟩
    exact ⟨_, _, _, _, _, _, _, _, _, _, _, _, _, _, by rw [List.getElem?_eq_getElem hj, hx]⟩
   have hok := hd _ (List.mem_of_getElem? hg)
   have hx : (Def.encs ds)[n.toNat]? = some (Def.mk nm (.mk ka va la) (.mk kb vb lb) (.mk bk bn bv (.mk btk btv btl) bl)).enc := by rw [Def.encs_get, hg]; rfl
   have ht := tyNodes_ (.mk 1 0 [.mk ka va la, .mk kb vb lb]) 20 ⟨by unfold ir; omega, by unfold ir; omega, by simp, hok.2.1, hok.2.2.1, trivial⟩ (by omega) (by omega)
   have hf := fun_ (.mk ka va la) (.mk kb vb lb)
   simp only [decide_eq_true h1, decide_eq_true h2, Bool.and_true, if_true, hg]
   generalize tnC (.mk 1 0 [.mk ka va la, .mk kb vb lb]) 20 = E2 at ht ⊢
   clear hok hd
   by_cases h3 : E2 ≤ 20
   ·simp only [decide_eq_true h3]
    exact gK Tryz.func42 ([rG, rS [(1, oC hp)]] ++ (rGs 5 [rS [(2, .bit false), (8, .int (ds.length : Int)), (9, .bit false)], rS [(4, .row (Int.toNat n) (Def.enc { name := nm, param := Ty.mk ka va la, result := Ty.mk kb vb lb, body := Expr.mk bk bn bv (Ty.mk btk btv btl) bl })), (11, .row (Int.toNat n) (Def.enc { name := nm, param := Ty.mk ka va la, result := Ty.mk kb vb lb, body := Expr.mk bk bn bv (Ty.mk btk btv btl) bl })), (14, oC hf)], rS [(2, oC ht), (3, .bit true)]])) [.tidO 2 [none, none, some 3]] [] (ob1 (hp) (qF (n < 0) (qN Def.encs ds (qF ((ds.length : Int) ≤ n) (q (n = (↑(Int.toNat n) : Int)) (q ((Def.encs ds)[Int.toNat n]? = some (Def.enc { name := nm, param := Ty.mk ka va la, result := Ty.mk kb vb lb, body := Expr.mk bk bn bv (Ty.mk btk btv btl) bl })) (q (n = (↑(Int.toNat n) : Int)) (q ((Def.encs ds)[Int.toNat n]? = some (Def.enc { name := nm, param := Ty.mk ka va la, result := Ty.mk kb vb lb, body := Expr.mk bk bn bv (Ty.mk btk btv btl) bl })) (ob1 (hf) (ob1 (ht) (qT (E2 ≤ 20) ob0)))))))))))
   ·simp only [decide_eq_false h3]
    exact gK Tryz.func42 ([rG, rS [(1, oC hp)]] ++ (rGs 5 [rS [(2, .bit false), (8, .int (ds.length : Int)), (9, .bit false)], rS [(4, .row (Int.toNat n) (Def.enc { name := nm, param := Ty.mk ka va la, result := Ty.mk kb vb lb, body := Expr.mk bk bn bv (Ty.mk btk btv btl) bl })), (11, .row (Int.toNat n) (Def.enc { name := nm, param := Ty.mk ka va la, result := Ty.mk kb vb lb, body := Expr.mk bk bn bv (Ty.mk btk btv btl) bl })), (14, oC hf)], rS [(2, oC ht), (3, .bit false)]])) [.tidO 2 [none, none, some 3]] [] (ob1 (hp) (qF (n < 0) (qN Def.encs ds (qF ((ds.length : Int) ≤ n) (q (n = (↑(Int.toNat n) : Int)) (q ((Def.encs ds)[Int.toNat n]? = some (Def.enc { name := nm, param := Ty.mk ka va la, result := Ty.mk kb vb lb, body := Expr.mk bk bn bv (Ty.mk btk btv btl) bl })) (q (n = (↑(Int.toNat n) : Int)) (q ((Def.encs ds)[Int.toNat n]? = some (Def.enc { name := nm, param := Ty.mk ka va la, result := Ty.mk kb vb lb, body := Expr.mk bk bn bv (Ty.mk btk btv btl) bl })) (ob1 (hf) (ob1 (ht) (qF (E2 ≤ 20) ob0)))))))))))
  ·simp only [decide_eq_false h2, Bool.and_false, Bool.false_eq_true, if_false]
   exact gK Tryz.func42 ([rG, rS [(1, oC hp)]] ++ (rGs 5 [rS [(2, .bit false), (8, .int (ds.length : Int)), (9, .bit true)], rG])) [.tidO 2 [none, none, some 3]] [] (ob1 (hp) (qF (n < 0) (qN Def.encs ds (qT ((ds.length : Int) ≤ n) ob0))))
 ·simp only [decide_eq_false h1, Bool.false_and, Bool.false_eq_true, if_false]
  exact gK Tryz.func42 ([rG, rS [(1, oC hp)]] ++ (rGs 5 [rS [(2, .bit true)], rG])) [.tidO 2 [none, none, some 3]] [] (ob1 (hp) (qT (n < 0) ob0))
end Go.Ae
namespace Go.Ae
open Go.Proofs
theorem of_lam (es : List ByteArray) (ds : List Def) (mk mn mv mtk mtv : Int) (mtl : List Ty) (ml : List Expr) (sc : List Ty) (n v tk tv : Int) (tl : List Ty) (ak an av atk atv : Int) (atl : List Ty) (al : List Expr)
  (h : plainC (.mk 4 n v (.mk tk tv tl) [.mk ak an av (.mk atk atv atl) al]) = true) (hs : sc.length ≤ 1000) (htok : (Ty.mk tk tv tl).ok)
  (ha : OfOk ⟨es, ds, .mk mk mn mv (.mk mtk mtv mtl) ml⟩ (.mk ak an av (.mk atk atv atl) al) (.mk tk tv tl :: sc))
  (hok : (tRef ⟨es, ds, .mk mk mn mv (.mk mtk mtv mtl) ml⟩ (.mk ak an av (.mk atk atv atl) al) (.mk tk tv tl :: sc)).1.ok) :
  OfOk ⟨es, ds, .mk mk mn mv (.mk mtk mtv mtl) ml⟩ (.mk 4 n v (.mk tk tv tl) [.mk ak an av (.mk atk atv atl) al]) sc := by
 unfold OfOk at ha ⊢
 have hp := plain_ 4 n v tk tv tl [.mk ak an av (.mk atk atv atl) al]
 rw [tRef_lam _ _ _ _ _ _ h]
 rw [h] at hp
 have hi := refIsTy_ (.mk tk tv tl) htok
 have hu := inside_ (.mk tk tv tl) sc hs
 unfold isTyR
 generalize (decide (tnC (.mk tk tv tl) 20 ≤ 20) && shC (.mk tk tv tl)) = E1 at hi ⊢
 generalize tRef ⟨es, ds, .mk mk mn mv (.mk mtk mtv mtl) ml⟩ (.mk ak an av (.mk atk atv atl) al) (.mk tk tv tl :: sc) = T at ha hok ⊢
 obtain ⟨⟨rk, rv, rl⟩, rb⟩ := T
 have hf := fun_ (.mk tk tv tl) (.mk rk rv rl)
 have hj := tyNodes_ (.mk 1 0 [.mk tk tv tl, .mk rk rv rl]) 20 ⟨by unfold ir; omega, by unfold ir; omega, by simp, htok, hok, trivial⟩ (by omega) (by omega)
 dsimp only
 generalize tnC (.mk 1 0 [.mk tk tv tl, .mk rk rv rl]) 20 = E2 at hj ⊢
 clear htok hok
 cases rb with
 | false =>
  simp only [Bool.false_and]
  exact gK Tryz.func42 ([rG, rS [(1, oC hp)]] ++ (rGs 6 [rS [(4, oC hu), (7, .row 0 (xE ak an av atk atv atl al)), (9, oC ha)], rS [(3, oC hf)]])) [.tidO 2 [none, none, some 3]] [] (ob1 (hp) (ob1 (hu) (qI 0 (qC0 ((xE ak an av atk atv atl al)) [] (ob1 (ha) (ob1 (hf) ob0))))))
 | true =>
  cases E1 with
  | false =>
   simp only [Bool.and_false, Bool.false_and]
   exact gK Tryz.func42 ([rG, rS [(1, oC hp)]] ++ (rGs 6 [rS [(4, oC hu), (7, .row 0 (xE ak an av atk atv atl al)), (9, oC ha)], rS [(3, oC hf), (8, oC hi)]])) [.tidO 2 [none, none, some 3]] [] (ob1 (hp) (ob1 (hu) (qI 0 (qC0 ((xE ak an av atk atv atl al)) [] (ob1 (ha) (ob1 (hf) (ob1 (hi) ob0)))))))
  | true =>
   by_cases h3 : E2 ≤ 20
   ·simp only [decide_eq_true h3, Bool.and_true]
    exact gK Tryz.func42 ([rG, rS [(1, oC hp)]] ++ (rGs 6 [rS [(4, oC hu), (7, .row 0 (xE ak an av atk atv atl al)), (9, oC ha)], rS [(3, oC hf), (8, oC hi), (14, oC hf), (15, oC hj), (16, .bit true)]])) [.tidO 2 [none, none, some 3]] [] (ob1 (hp) (ob1 (hu) (qI 0 (qC0 ((xE ak an av atk atv atl al)) [] (ob1 (ha) (ob1 (hf) (ob1 (hi) (ob1 (hf) (ob1 (hj) (qT (E2 ≤ 20) ob0))))))))))
   ·simp only [decide_eq_false h3, Bool.and_false]
    exact gK Tryz.func42 ([rG, rS [(1, oC hp)]] ++ (rGs 6 [rS [(4, oC hu), (7, .row 0 (xE ak an av atk atv atl al)), (9, oC ha)], rS [(3, oC hf), (8, oC hi), (14, oC hf), (15, oC hj), (16, .bit false)]])) [.tidO 2 [none, none, some 3]] [] (ob1 (hp) (ob1 (hu) (qI 0 (qC0 ((xE ak an av atk atv atl al)) [] (ob1 (ha) (ob1 (hf) (ob1 (hi) (ob1 (hf) (ob1 (hj) (qF (E2 ≤ 20) ob0))))))))))
theorem of_event (es : List ByteArray) (ds : List Def) (mk mn mv mtk mtv : Int) (mtl : List Ty) (ml : List Expr) (sc : List Ty) (n v tk tv : Int) (tl : List Ty) (ak an av atk atv : Int) (atl : List Ty) (al : List Expr)
  (h : plainC (.mk 7 n v (.mk tk tv tl) [.mk ak an av (.mk atk atv atl) al]) = true) (hs : es.length ≤ 1000)
  (ha : OfOk ⟨es, ds, .mk mk mn mv (.mk mtk mtv mtl) ml⟩ (.mk ak an av (.mk atk atv atl) al) sc) :
  OfOk ⟨es, ds, .mk mk mn mv (.mk mtk mtv mtl) ml⟩ (.mk 7 n v (.mk tk tv tl) [.mk ak an av (.mk atk atv atl) al]) sc := by
 unfold OfOk at ha ⊢
 have hp := plain_ 7 n v tk tv tl [.mk ak an av (.mk atk atv atl) al]
 rw [tRef_event _ _ _ _ _ _ h]
 rw [h] at hp
 generalize tRef ⟨es, ds, .mk mk mn mv (.mk mtk mtv mtl) ml⟩ (.mk ak an av (.mk atk atv atl) al) sc = T at ha ⊢
 obtain ⟨⟨rk, rv, rl⟩, rb⟩ := T
 dsimp only
 cases rb with
 | false =>
  simp only [Bool.false_and]
  exact gK Tryz.func42 ([rG, rS [(1, oC hp)]] ++ (rGs 7 [rS [(4, .row 0 (xE ak an av atk atv atl al)), (6, oC ha)], rG])) [.tidO 2 [none, none, some 3]] [] (ob1 (hp) (qI 0 (qC0 ((xE ak an av atk atv atl al)) [] (ob1 (ha) ob0))))
 | true =>
  by_cases h1 : 0 ≤ n
  ·by_cases h2 : n < (es.length : Int)
   ·simp only [decide_eq_true h1, decide_eq_true h2, Bool.and_true]
    exact gK Tryz.func42 ([rG, rS [(1, oC hp)]] ++ (rGs 7 [rS [(4, .row 0 (xE ak an av atk atv atl al)), (6, oC ha)], rS [(5, .bit true), (12, .int (es.length : Int)), (13, .bit true)]])) [.tidO 2 [none, none, some 3]] [] (ob1 (hp) (qI 0 (qC0 ((xE ak an av atk atv atl al)) [] (ob1 (ha) (qT (0 ≤ n) (qN strs es (qT (n < (es.length : Int)) ob0)))))))
   ·simp only [decide_eq_false h2, Bool.and_false]
    exact gK Tryz.func42 ([rG, rS [(1, oC hp)]] ++ (rGs 7 [rS [(4, .row 0 (xE ak an av atk atv atl al)), (6, oC ha)], rS [(5, .bit true), (12, .int (es.length : Int)), (13, .bit false)]])) [.tidO 2 [none, none, some 3]] [] (ob1 (hp) (qI 0 (qC0 ((xE ak an av atk atv atl al)) [] (ob1 (ha) (qT (0 ≤ n) (qN strs es (qF (n < (es.length : Int)) ob0)))))))
  ·simp only [decide_eq_false h1, Bool.and_false, Bool.false_and]
   exact gK Tryz.func42 ([rG, rS [(1, oC hp)]] ++ (rGs 7 [rS [(4, .row 0 (xE ak an av atk atv atl al)), (6, oC ha)], rS [(5, .bit false)]])) [.tidO 2 [none, none, some 3]] [] (ob1 (hp) (qI 0 (qC0 ((xE ak an av atk atv atl al)) [] (ob1 (ha) (qF (0 ≤ n) ob0)))))
theorem of_let (es : List ByteArray) (ds : List Def) (mk mn mv mtk mtv : Int) (mtl : List Ty) (ml : List Expr) (sc : List Ty) (n v tk tv : Int) (tl : List Ty)
  (ak an av atk atv : Int) (atl : List Ty) (al : List Expr) (bk bn bv btk btv : Int) (btl : List Ty) (bl : List Expr) (hs : sc.length ≤ 1000)
  (h : plainC (.mk 5 n v (.mk tk tv tl) [.mk ak an av (.mk atk atv atl) al, .mk bk bn bv (.mk btk btv btl) bl]) = true)
  (ha : OfOk ⟨es, ds, .mk mk mn mv (.mk mtk mtv mtl) ml⟩ (.mk ak an av (.mk atk atv atl) al) sc)
  (hb : ∀ t, (tRef ⟨es, ds, .mk mk mn mv (.mk mtk mtv mtl) ml⟩ (.mk ak an av (.mk atk atv atl) al) sc) = (t, true) → OfOk ⟨es, ds, .mk mk mn mv (.mk mtk mtv mtl) ml⟩ (.mk bk bn bv (.mk btk btv btl) bl) (t :: sc)) :
  OfOk ⟨es, ds, .mk mk mn mv (.mk mtk mtv mtl) ml⟩ (.mk 5 n v (.mk tk tv tl) [.mk ak an av (.mk atk atv atl) al, .mk bk bn bv (.mk btk btv btl) bl]) sc := by
 unfold OfOk at ha hb ⊢
 have hp := plain_ 5 n v tk tv tl [.mk ak an av (.mk atk atv atl) al, .mk bk bn bv (.mk btk btv btl) bl]
 rw [tRef_let _ _ _ _ _ _ _ h]
 rw [h] at hp
 generalize tRef ⟨es, ds, .mk mk mn mv (.mk mtk mtv mtl) ml⟩ (.mk ak an av (.mk atk atv atl) al) sc = T at ha hb ⊢
 obtain ⟨⟨rk, rv, rl⟩, rb⟩ := T
 cases rb with
 | false =>
  clear hb
  simp only [Bool.false_eq_true, if_false]
  exact gK Tryz.func42 ([rG, rS [(1, oC hp)]] ++ (rGs 7 [rS [(4, .row 0 (xE ak an av atk atv atl al)), (6, oC ha)], rG, rG])) [.tidO 2 [none, none, some 3]] [] (ob1 (hp) (qI 0 (qC0 ((xE ak an av atk atv atl al)) [(xE bk bn bv btk btv btl bl)] (ob1 (ha) ob0))))
 | true =>
  replace hb := hb _ rfl
  have hu := inside_ (.mk rk rv rl) sc hs
  simp only [if_true]
  generalize tRef ⟨es, ds, .mk mk mn mv (.mk mtk mtv mtl) ml⟩ (.mk bk bn bv (.mk btk btv btl) bl) (.mk rk rv rl :: sc) = U at hb ⊢
  obtain ⟨⟨uk, uv, ul⟩, ub⟩ := U
  cases ub with
  | true => exact gK Tryz.func42 ([rG, rS [(1, oC hp)]] ++ (rGs 7 [rS [(4, .row 0 (xE ak an av atk atv atl al)), (6, oC ha)], rG, rG, rG, rS [(3, oC hu), (6, .row 1 (xE bk bn bv btk btv btl bl)), (8, oC hb)]])) [.tidO 2 [none, none, some 3]] [] (ob1 (hp) (qI 0 (qC0 ((xE ak an av atk atv atl al)) [(xE bk bn bv btk btv btl bl)] (ob1 (ha) (ob1 (hu) (qI 1 (qC1 ((xE ak an av atk atv atl al)) ((xE bk bn bv btk btv btl bl)) [] (ob1 (hb) ob0))))))))
  | false => exact gK Tryz.func42 ([rG, rS [(1, oC hp)]] ++ (rGs 7 [rS [(4, .row 0 (xE ak an av atk atv atl al)), (6, oC ha)], rG, rG, rG, rS [(3, oC hu), (6, .row 1 (xE bk bn bv btk btv btl bl)), (8, oC hb)]])) [.tidO 2 [none, none, some 3]] [] (ob1 (hp) (qI 0 (qC0 ((xE ak an av atk atv atl al)) [(xE bk bn bv btk btv btl bl)] (ob1 (ha) (ob1 (hu) (qI 1 (qC1 ((xE ak an av atk atv atl al)) ((xE bk bn bv btk btv btl bl)) [] (ob1 (hb) ob0))))))))
theorem of_app (es : List ByteArray) (ds : List Def) (mk mn mv mtk mtv : Int) (mtl : List Ty) (ml : List Expr) (sc : List Ty) (n v tk tv : Int) (tl : List Ty)
  (ak an av atk atv : Int) (atl : List Ty) (al : List Expr) (bk bn bv btk btv : Int) (btl : List Ty) (bl : List Expr)
  (h : plainC (.mk 3 n v (.mk tk tv tl) [.mk ak an av (.mk atk atv atl) al, .mk bk bn bv (.mk btk btv btl) bl]) = true)
  (ha : OfOk ⟨es, ds, .mk mk mn mv (.mk mtk mtv mtl) ml⟩ (.mk ak an av (.mk atk atv atl) al) sc)
  (hb : OfOk ⟨es, ds, .mk mk mn mv (.mk mtk mtv mtl) ml⟩ (.mk bk bn bv (.mk btk btv btl) bl) sc)
  (hg : (tRef ⟨es, ds, .mk mk mn mv (.mk mtk mtv mtl) ml⟩ (.mk ak an av (.mk atk atv atl) al) sc).2 = true → ∃ k v l, (tRef ⟨es, ds, .mk mk mn mv (.mk mtk mtv mtl) ml⟩ (.mk ak an av (.mk atk atv atl) al) sc).1 = .mk k v l ∧ (k = 1 → (∃ t u, l = [t, u] ∧ t.ok))) :
  OfOk ⟨es, ds, .mk mk mn mv (.mk mtk mtv mtl) ml⟩ (.mk 3 n v (.mk tk tv tl) [.mk ak an av (.mk atk atv atl) al, .mk bk bn bv (.mk btk btv btl) bl]) sc := by
 unfold OfOk at ha hb ⊢
 have hp := plain_ 3 n v tk tv tl [.mk ak an av (.mk atk atv atl) al, .mk bk bn bv (.mk btk btv btl) bl]
 rw [tRef_app _ _ _ _ _ _ _ h]
 rw [h] at hp
 generalize tRef ⟨es, ds, .mk mk mn mv (.mk mtk mtv mtl) ml⟩ (.mk ak an av (.mk atk atv atl) al) sc = T at ha hg ⊢
 generalize tRef ⟨es, ds, .mk mk mn mv (.mk mtk mtv mtl) ml⟩ (.mk bk bn bv (.mk btk btv btl) bl) sc = U at hb ⊢
 obtain ⟨⟨rk, rv, rl⟩, rb⟩ := T
 obtain ⟨⟨uk, uv, ul⟩, ub⟩ := U
 cases rb with
 | false =>
  clear hg hb
  simp only [Bool.false_eq_true, if_false]
  exact gK Tryz.func42 ([rG, rS [(1, oC hp)]] ++ (rGs 7 [rS [(4, .row 0 (xE ak an av atk atv atl al)), (6, oC ha)], rG, rG])) [.tidO 2 [none, none, some 3]] [] (ob1 (hp) (qI 0 (qC0 ((xE ak an av atk atv atl al)) [(xE bk bn bv btk btv btl bl)] (ob1 (ha) ob0))))
 | true =>
  simp only [if_true]
  cases ub with
  | false =>
   clear hg
   simp only [Bool.false_eq_true, if_false]
   exact gK Tryz.func42 ([rG, rS [(1, oC hp)]] ++ (rGs 7 [rS [(4, .row 0 (xE ak an av atk atv atl al)), (6, oC ha)], rG, rG, rG, rG, rS [(4, .row 1 (xE bk bn bv btk btv btl bl)), (6, oC hb)], rG, rG])) [.tidO 2 [none, none, some 3]] [] (ob1 (hp) (qI 0 (qC0 ((xE ak an av atk atv atl al)) [(xE bk bn bv btk btv btl bl)] (ob1 (ha) (qI 1 (qC1 ((xE ak an av atk atv atl al)) ((xE bk bn bv btk btv btl bl)) [] (ob1 (hb) ob0)))))))
  | true =>
   obtain ⟨k, v', l, he, hg⟩ := hg rfl
   simp only [Ty.mk.injEq] at he
   obtain ⟨rfl, rfl, rfl⟩ := he
   simp only [if_true]
   by_cases hk : rk = 1
   ·obtain ⟨⟨t1, t2, t3⟩, ⟨u1, u2, u3⟩, rfl, hok⟩ := hg hk
    subst hk
    have hq := eqTy_1 (.mk t1 t2 t3) (.mk uk uv ul) hok
    rw [appC_two]
    by_cases hx : Ty.mk t1 t2 t3 = Ty.mk uk uv ul
    ·rw [decide_eq_true hx] at hq
     rw [if_pos hx]
     clear hg hok
     exact gK Tryz.func42 ([rG, rS [(1, oC hp)]] ++ (rGs 7 [rS [(4, .row 0 (xE ak an av atk atv atl al)), (6, oC ha)], rG, rG, rG, rG, rS [(4, .row 1 (xE bk bn bv btk btv btl bl)), (6, oC hb)], rS [(10, .row 0 (xT t1 t2 t3)), (13, oC hq)], rS [(2, .row 1 (xT u1 u2 u3))]])) [.tidO 2 [none, none, some 3]] [] (ob1 (hp) (qI 0 (qC0 ((xE ak an av atk atv atl al)) [(xE bk bn bv btk btv btl bl)] (ob1 (ha) (qI 1 (qC1 ((xE ak an av atk atv atl al)) ((xE bk bn bv btk btv btl bl)) [] (ob1 (hb) (qI 0 (qC0 ((xT t1 t2 t3)) [(xT u1 u2 u3)] (ob1 (hq) (qI 1 (qC1 ((xT t1 t2 t3)) ((xT u1 u2 u3)) [] ob0))))))))))))
    ·rw [decide_eq_false hx] at hq
     rw [if_neg hx]
     clear hg hok
     exact gK Tryz.func42 ([rG, rS [(1, oC hp)]] ++ (rGs 7 [rS [(4, .row 0 (xE ak an av atk atv atl al)), (6, oC ha)], rG, rG, rG, rG, rS [(4, .row 1 (xE bk bn bv btk btv btl bl)), (6, oC hb)], rS [(10, .row 0 (xT t1 t2 t3)), (13, oC hq)], rG])) [.tidO 2 [none, none, some 3]] [] (ob1 (hp) (qI 0 (qC0 ((xE ak an av atk atv atl al)) [(xE bk bn bv btk btv btl bl)] (ob1 (ha) (qI 1 (qC1 ((xE ak an av atk atv atl al)) ((xE bk bn bv btk btv btl bl)) [] (ob1 (hb) (qI 0 (qC0 ((xT t1 t2 t3)) [(xT u1 u2 u3)] (ob1 (hq) ob0))))))))))
   ·clear hg
    rw [appC_ne hk]
    exact gK Tryz.func42 ([rG, rS [(1, oC hp)]] ++ (rGs 7 [rS [(4, .row 0 (xE ak an av atk atv atl al)), (6, oC ha)], rG, rG, rG, rG, rS [(4, .row 1 (xE bk bn bv btk btv btl bl)), (6, oC hb)], rS [(5, .bit true)], rG])) [.tidO 2 [none, none, some 3]] [] (ob1 (hp) (qI 0 (qC0 ((xE ak an av atk atv atl al)) [(xE bk bn bv btk btv btl bl)] (ob1 (ha) (qI 1 (qC1 ((xE ak an av atk atv atl al)) ((xE bk bn bv btk btv btl bl)) [] (ob1 (hb) (qV (rk != 1) ob0))))))))
end Go.Ae

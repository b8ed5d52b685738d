/- Part 6 of the proof: AeRD0, AeRK0, AeRF1, AeRF2, AeRF3, AeRF4, AeRF5, AeRF6, AeRF7, AeRF8, AeRF9. -/
import Derived.Test.YtcmlbbgbfgikaaaGreatT5
import Derived.Test.YtcmlbbgbfgikaaaGreatProg
set_option linter.unusedSimpArgs false
set_option linter.unusedVariables false
namespace Go.Ae
abbrev I (n : Int) : AV := .sc (.int .i64 n)
abbrev B (b : Bool) : AV := .sc (.bool b)
abbrev S (s : ByteArray) : AV := .sc (.string s)
inductive Ty where
 | mk (kind vals : Int) (args : List Ty)
noncomputable instance : DecidableEq Ty := fun _ _ => Classical.propDecidable _
mutual
def Ty.enc : Ty → List AV
 | .mk k v l => [I k, I v, .sl 3 (Ty.encs l) false]
def Ty.encs : List Ty → List (List AV)
 | [] => []
 | t :: ts => t.enc :: Ty.encs ts
end
@[simp] theorem Ty.encs_length : ∀ l : List Ty, (Ty.encs l).length = l.length
 | [] => rfl
 | _ :: l => by simp [Ty.encs, Ty.encs_length l]
theorem Ty.encs_get : ∀ (l : List Ty) (i : Nat), (Ty.encs l)[i]? = (l[i]?).map Ty.enc
 | [], i => by simp [Ty.encs]
 | t :: l, 0 => by simp [Ty.encs]
 | t :: l, i + 1 => by simp [Ty.encs, Ty.encs_get l i]
inductive Expr where
 | mk (kind n vals : Int) (ty : Ty) (args : List Expr)
noncomputable instance : DecidableEq Expr := fun _ _ => Classical.propDecidable _
mutual
def Expr.enc : Expr → List AV
 | .mk k n v (.mk tk tv tl) l => [I k, I n, I v, I tk, I tv, .sl 3 (Ty.encs tl) false, .sl 7 (Expr.encs l) false]
def Expr.encs : List Expr → List (List AV)
 | [] => []
 | e :: es => e.enc :: Expr.encs es
end
@[simp] theorem Expr.encs_length : ∀ l : List Expr, (Expr.encs l).length = l.length
 | [] => rfl
 | _ :: l => by simp [Expr.encs, Expr.encs_length l]
theorem Expr.encs_get : ∀ (l : List Expr) (i : Nat), (Expr.encs l)[i]? = (l[i]?).map Expr.enc
 | [], i => by simp [Expr.encs]
 | t :: l, 0 => by simp [Expr.encs]
 | t :: l, i + 1 => by simp [Expr.encs, Expr.encs_get l i]
def ir (n : Int) : Prop := -9223372036854775808 ≤ n ∧ n ≤ 9223372036854775807
mutual
def Ty.ok : Ty → Prop
 | .mk k v l => ir k ∧ ir v ∧ l.length ≤ 281474976710656 ∧ Ty.oks l
def Ty.oks : List Ty → Prop
 | [] => True
 | t :: ts => t.ok ∧ Ty.oks ts
end
mutual
def Expr.ok : Expr → Prop
 | .mk k n v t l => ir k ∧ ir n ∧ ir v ∧ t.ok ∧ l.length ≤ 281474976710656 ∧ Expr.oks l
def Expr.oks : List Expr → Prop
 | [] => True
 | t :: ts => t.ok ∧ Expr.oks ts
end
theorem Ty.oks_mem : ∀ {l : List Ty}, Ty.oks l → ∀ t ∈ l, t.ok
 | [], _, t, h => by simp at h
 | x :: l, hx, t, h => by
  simp only [Ty.oks] at hx
  rcases List.mem_cons.1 h with rfl | h
  ·exact hx.1
  ·exact Ty.oks_mem hx.2 t h
theorem Expr.oks_mem : ∀ {l : List Expr}, Expr.oks l → ∀ t ∈ l, t.ok
 | [], _, t, h => by simp at h
 | x :: l, hx, t, h => by
  simp only [Expr.oks] at hx
  rcases List.mem_cons.1 h with rfl | h
  ·exact hx.1
  ·exact Expr.oks_mem hx.2 t h
theorem drop_get {α : Type} {l : List α} {i : Nat} {x : α} {r : List α} (h : l.drop i = x :: r) : l[i]? = some x := by
 rw [← List.head?_drop, h]; rfl
theorem drop_next {α : Type} {l : List α} {i : Nat} {x : α} {r : List α} (h : l.drop i = x :: r) : l.drop (i + 1) = r := by
 rw [← List.tail_drop, h]; rfl
theorem drop_lt {α : Type} {l : List α} {i : Nat} {x : α} {r : List α} (h : l.drop i = x :: r) : i < l.length := by
 have := congrArg List.length h; simp at this; omega
theorem drop_end {α : Type} {l : List α} {i : Nat} (h : l.drop i = []) : l.length ≤ i := by
 have := congrArg List.length h; simp at this; omega
abbrev xE (a b c d e : Int) (t : List Ty) (l : List Expr) : List AV := [I a, I b, I c, I d, I e, .sl 3 (Ty.encs t) false, .sl 7 (Expr.encs l) false]
abbrev xT (a b : Int) (t : List Ty) : List AV := [I a, I b, .sl 3 (Ty.encs t) false]
end Go.Ae
namespace Go.Ae
def KT : Kinds := [
 (26, [none, none, some 3]), (24, [some 3]), (27, [some 7]), (22, [some 1]), (32, [some 1]), (23, [some 14]),
 (29, [none, none, none, none, none, some 3, some 7]),
 (54, [none, none, none, some 3, none, none, some 3, none, none, none, none, none, some 3, some 7]),
 (31, [some 1, some 14, none, none, none, none, none, some 3, some 7]),
 (39, [some 1, none, none, none]),
 (105, [some 10]), (107, [none, none, none, none, none, none, none, some 3, some 7, some 10]),
 (108, [some 19]), (69, [some 7]),
 (143, [none, none, none, none, none, none, some 3, some 7, some 10, none, none, none, none, none, none, none, some 3, some 7, some 10]),
 (110, [some 1, some 14, none, none, none, none, none, some 3, some 7, none, none, none, none, none, some 3, some 7, some 10, none, none, none, none, none, none, none, some 3, some 7, some 10, none, some 19])]
end Go.Ae
namespace Go.Ae
open Go.Proofs
abbrev SC := SoundCall Tryz.prog
section
variable {f : FuncId} {fn : Func} {args : List AV} {σ σ' σ2 : List AObj} {ob : List Prop} {r r2 : AV}
theorem gK (hf : Tryz.prog.funcs[f]? = some fn) (orc : List Or) (fin : List Wk) (ks : List (Option Nat)) (hob : AllP ob) (h : evFun Tryz.prog KT fn args σ orc fin ks = some (r, σ', ob) := by kernel_rfl) : SoundCall Tryz.prog f args σ r σ' := Fn.sound hf orc fin ks h hob
theorem gF (hf : Tryz.prog.funcs[f]? = some fn) (orc : List Or) (hob : AllP ob) (h : evFun Tryz.prog KT fn args σ orc [] [] = some (r, σ', ob) := by kernel_rfl) : SoundCall Tryz.prog f args σ r σ' := Fn.sound hf orc [] [] h hob
theorem gR (hf : Tryz.prog.funcs[f]? = some fn) (orc : List Or) (fin : List Wk) (ks : List (Option Nat)) (r : AV) (σ' : List AObj) (hob : AllP ob) (hr : r = r2 := by first | rfl | (simp [*]; done)) (hs : σ' = σ2 := by first | rfl | (simp [*]; done))
  (h : evFun Tryz.prog KT fn args σ orc fin ks = some (r, σ', ob) := by kernel_rfl) : SoundCall Tryz.prog f args σ r2 σ2 := SoundCall.to (Fn.sound hf orc fin ks h hob) hr hs
variable {N m : Nat} {c : Code} {s s1 s' : ASt} {e : Exit}
theorem lN (orc : List Or) (fin : List Wk) (hob : AllP ob) (k : Lp Tryz.prog N m c s1 e s') (h : evBody Tryz.prog KT N m c orc fin s = some (.normal, s1, ob) := by kernel_rfl) : Lp Tryz.prog N m c s e s' := Lp.next KT orc fin h hob k
theorem lL (orc : List Or) (fin : List Wk) (hob : AllP ob) (he : e ≠ .normal := by intro h; cases h) (h : evBody Tryz.prog KT N m c orc fin s = some (e, s', ob) := by kernel_rfl) : Lp Tryz.prog N m c s e s' := Lp.last KT orc fin h hob he
end
theorem eqTy_loop_0 (k v k2 v2 : Int) (us ws : List Ty) (hn : us.length ≤ 281474976710656) : ∀ (us' ws' : List Ty) (i : Nat), us.drop i = us' → ws.drop i = ws' → us'.length = ws'.length →
  (∀ x ∈ us', ∀ y, SC 62 [.agg x.enc, .agg y.enc] [] (B (decide (x = y))) []) →
  Lp Tryz.prog 46 0 (loopN Tryz.f62 0) ⟨lookT [(2, .lp 0 0), (3, .lp 1 0), (29, I (us.length : Int)), (30, I (i : Int))], [.cells [I k, I v, .sl 3 (Ty.encs us) false] [], .cells [I k2, I v2, .sl 3 (Ty.encs ws) false] []]⟩
   (if us' = ws' then .exit 0 else .ret) (if us' = ws' then ⟨lookT [], []⟩ else ⟨lookT [(4, B false)], []⟩)
 | [], ws', i, h1, h2, hl, _ => by
  cases ws' with
  | cons y ws' => simp at hl
  | nil =>
   have hi := drop_end h1
   rw [if_pos rfl, if_pos rfl]
   exact lL [rS [(0, .bit false)]] [.keep []] (qF ((i : Int) < (us.length : Int)) ob0)
 | .mk k1 v1 xs :: us', ws', i, h1, h2, hl, hs => by
  cases ws' with
  | nil => simp at hl
  | cons y ws' =>
   obtain ⟨k3, v3, ys⟩ := y
   have hi := drop_lt h1
   have hx : (Ty.encs us)[i]? = some (Ty.mk k1 v1 xs).enc := by rw [Ty.encs_get, drop_get h1]; rfl
   have hy : (Ty.encs ws)[i]? = some (Ty.mk k3 v3 ys).enc := by rw [Ty.encs_get, drop_get h2]; rfl
   have hc := hs (.mk k1 v1 xs) (by simp) (.mk k3 v3 ys)
   have ih := eqTy_loop_0 k v k2 v2 us ws hn us' ws' (i + 1) (drop_next h1) (drop_next h2) (by simpa using hl) (fun x hx => hs x (by simp [hx]))
   simp only [Int.natCast_add] at ih
   clear hs h1 h2
   by_cases he : Ty.mk k1 v1 xs = Ty.mk k3 v3 ys
   ·rw [decide_eq_true he] at hc
    simp only [he, List.cons.injEq, true_and]
    exact lN [rS [(0, .bit true)], rG, rS [(3, oW hx), (8, oW hy), (10, oC hc)], rS [(0, .int ((i : Int) + 1))]] [.keep [(2, []), (3, []), (29, []), (30, [])]] (qT ((i : Int) < (us.length : Int)) (qI i (ob1 hx (qI i (ob1 hy (ob1 (hc) (qw ((i : Int) + 1) ob0))))))) (ih)
   ·rw [decide_eq_false he] at hc
    simp only [List.cons.injEq, he, false_and, if_false]
    clear ih
    exact lL [rS [(0, .bit true)], rG, rS [(3, oW hx), (8, oW hy), (10, oC hc)], rG] [.keep [(4, [])]] (qT ((i : Int) < (us.length : Int)) (qI i (ob1 hx (qI i (ob1 hy (ob1 (hc) ob0))))))
theorem eqTy_0 : ∀ (a b : Ty), a.ok → SC 62 [.agg a.enc, .agg b.enc] [] (B (decide (a = b))) []
 | .mk k v us, .mk k2 v2 ws, hok => by
  simp only [Ty.ok] at hok
  obtain ⟨-, -, hn, hoks⟩ := hok
  have hr : ∀ x ∈ us, ∀ y, SC 62 [.agg x.enc, .agg y.enc] [] (B (decide (x = y))) [] := fun x hx y => eqTy_0 x y (Ty.oks_mem hoks x hx)
  by_cases h1 : k = k2
  ·by_cases h2 : v = v2
   ·by_cases h3 : us.length = ws.length
    ·have hl := eqTy_loop_0 k v k2 v2 us ws hn us ws 0 rfl rfl h3 hr
     by_cases h4 : us = ws
     ·simp only [if_pos h4] at hl
      exact gR Tryz.func62 [rG, rS [(4, .bit false), (10, .bit false), (15, .int (us.length : Int)), (18, .int (ws.length : Int)), (19, .bit false)], rS [(2, .int (us.length : Int))], oL [.keep [(2, []), (3, []), (29, []), (30, [])]] hl, rG] [] [] (B true) ([]) (qU (k != k2) (qU (v != v2) (qN Ty.encs us (qN Ty.encs ws (qU ((us.length : Int) != (ws.length : Int)) (qN Ty.encs us (ob1 (hl) ob0)))))))
     ·simp only [if_neg h4] at hl
      exact gR Tryz.func62 [rG, rS [(4, .bit false), (10, .bit false), (15, .int (us.length : Int)), (18, .int (ws.length : Int)), (19, .bit false)], rS [(2, .int (us.length : Int))], oL [.keep [(2, []), (3, []), (29, []), (30, [])]] hl] [] [] (B false) ([]) (qU (k != k2) (qU (v != v2) (qN Ty.encs us (qN Ty.encs ws (qU ((us.length : Int) != (ws.length : Int)) (qN Ty.encs us (ob1 (hl) ob0)))))))
    ·have h4 : ¬us = ws := fun h => h3 (by rw [h])
     exact gR Tryz.func62 [rG, rS [(4, .bit false), (10, .bit false), (15, .int (us.length : Int)), (18, .int (ws.length : Int)), (19, .bit true)], rG] [] [] (B false) ([]) (qU (k != k2) (qU (v != v2) (qN Ty.encs us (qN Ty.encs ws (qV ((us.length : Int) != (ws.length : Int)) ob0)))))
   ·exact gR Tryz.func62 [rG, rS [(4, .bit false), (10, .bit true)], rG] [] [] (B false) ([]) (qU (k != k2) (qV (v != v2) ob0))
  ·exact gR Tryz.func62 [rG, rS [(4, .bit true)], rG] [] [] (B false) ([]) (qV (k != k2) ob0)
theorem eqTy_loop_1 (k v k2 v2 : Int) (us ws : List Ty) (hn : us.length ≤ 281474976710656) : ∀ (us' ws' : List Ty) (i : Nat), us.drop i = us' → ws.drop i = ws' → us'.length = ws'.length →
  (∀ x ∈ us', ∀ y, SC 43 [.agg x.enc, .agg y.enc] [] (B (decide (x = y))) []) →
  Lp Tryz.prog 46 0 (loopN Tryz.f43 0) ⟨lookT [(2, .lp 0 0), (3, .lp 1 0), (29, I (us.length : Int)), (30, I (i : Int))], [.cells [I k, I v, .sl 3 (Ty.encs us) false] [], .cells [I k2, I v2, .sl 3 (Ty.encs ws) false] []]⟩
   (if us' = ws' then .exit 0 else .ret) (if us' = ws' then ⟨lookT [], []⟩ else ⟨lookT [(4, B false)], []⟩)
 | [], ws', i, h1, h2, hl, _ => by
  cases ws' with
  | cons y ws' => simp at hl
  | nil =>
   have hi := drop_end h1
   rw [if_pos rfl, if_pos rfl]
   exact lL [rS [(0, .bit false)]] [.keep []] (qF ((i : Int) < (us.length : Int)) ob0)
 | .mk k1 v1 xs :: us', ws', i, h1, h2, hl, hs => by
  cases ws' with
  | nil => simp at hl
  | cons y ws' =>
   obtain ⟨k3, v3, ys⟩ := y
   have hi := drop_lt h1
   have hx : (Ty.encs us)[i]? = some (Ty.mk k1 v1 xs).enc := by rw [Ty.encs_get, drop_get h1]; rfl
   have hy : (Ty.encs ws)[i]? = some (Ty.mk k3 v3 ys).enc := by rw [Ty.encs_get, drop_get h2]; rfl
   have hc := hs (.mk k1 v1 xs) (by simp) (.mk k3 v3 ys)
   have ih := eqTy_loop_1 k v k2 v2 us ws hn us' ws' (i + 1) (drop_next h1) (drop_next h2) (by simpa using hl) (fun x hx => hs x (by simp [hx]))
   simp only [Int.natCast_add] at ih
   clear hs h1 h2
   by_cases he : Ty.mk k1 v1 xs = Ty.mk k3 v3 ys
   ·rw [decide_eq_true he] at hc
    simp only [he, List.cons.injEq, true_and]
    exact lN [rS [(0, .bit true)], rG, rS [(3, oW hx), (8, oW hy), (10, oC hc)], rS [(0, .int ((i : Int) + 1))]] [.keep [(2, []), (3, []), (29, []), (30, [])]] (qT ((i : Int) < (us.length : Int)) (qI i (ob1 hx (qI i (ob1 hy (ob1 (hc) (qw ((i : Int) + 1) ob0))))))) (ih)
   ·rw [decide_eq_false he] at hc
    simp only [List.cons.injEq, he, false_and, if_false]
    clear ih
    exact lL [rS [(0, .bit true)], rG, rS [(3, oW hx), (8, oW hy), (10, oC hc)], rG] [.keep [(4, [])]] (qT ((i : Int) < (us.length : Int)) (qI i (ob1 hx (qI i (ob1 hy (ob1 (hc) ob0))))))
theorem eqTy_1 : ∀ (a b : Ty), a.ok → SC 43 [.agg a.enc, .agg b.enc] [] (B (decide (a = b))) []
 | .mk k v us, .mk k2 v2 ws, hok => by
  simp only [Ty.ok] at hok
  obtain ⟨-, -, hn, hoks⟩ := hok
  have hr : ∀ x ∈ us, ∀ y, SC 43 [.agg x.enc, .agg y.enc] [] (B (decide (x = y))) [] := fun x hx y => eqTy_1 x y (Ty.oks_mem hoks x hx)
  by_cases h1 : k = k2
  ·by_cases h2 : v = v2
   ·by_cases h3 : us.length = ws.length
    ·have hl := eqTy_loop_1 k v k2 v2 us ws hn us ws 0 rfl rfl h3 hr
     by_cases h4 : us = ws
     ·simp only [if_pos h4] at hl
      exact gR Tryz.func43 [rG, rS [(4, .bit false), (10, .bit false), (15, .int (us.length : Int)), (18, .int (ws.length : Int)), (19, .bit false)], rS [(2, .int (us.length : Int))], oL [.keep [(2, []), (3, []), (29, []), (30, [])]] hl, rG] [] [] (B true) ([]) (qU (k != k2) (qU (v != v2) (qN Ty.encs us (qN Ty.encs ws (qU ((us.length : Int) != (ws.length : Int)) (qN Ty.encs us (ob1 (hl) ob0)))))))
     ·simp only [if_neg h4] at hl
      exact gR Tryz.func43 [rG, rS [(4, .bit false), (10, .bit false), (15, .int (us.length : Int)), (18, .int (ws.length : Int)), (19, .bit false)], rS [(2, .int (us.length : Int))], oL [.keep [(2, []), (3, []), (29, []), (30, [])]] hl] [] [] (B false) ([]) (qU (k != k2) (qU (v != v2) (qN Ty.encs us (qN Ty.encs ws (qU ((us.length : Int) != (ws.length : Int)) (qN Ty.encs us (ob1 (hl) ob0)))))))
    ·have h4 : ¬us = ws := fun h => h3 (by rw [h])
     exact gR Tryz.func43 [rG, rS [(4, .bit false), (10, .bit false), (15, .int (us.length : Int)), (18, .int (ws.length : Int)), (19, .bit true)], rG] [] [] (B false) ([]) (qU (k != k2) (qU (v != v2) (qN Ty.encs us (qN Ty.encs ws (qV ((us.length : Int) != (ws.length : Int)) ob0)))))
   ·exact gR Tryz.func43 [rG, rS [(4, .bit false), (10, .bit true)], rG] [] [] (B false) ([]) (qU (k != k2) (qV (v != v2) ob0))
  ·exact gR Tryz.func43 [rG, rS [(4, .bit true)], rG] [] [] (B false) ([]) (qV (k != k2) ob0)
end Go.Ae
namespace Go.Ae
open Go.Proofs
mutual
def tyC : Ty → Int → Bool × Int
 | .mk k v l, n =>
  if n - 1 < 0 then (false, n - 1)
  else if k = 0 then (decide (1 ≤ v) && decide (v ≤ 4) && decide (l.length = 0), n - 1)
  else if k = 1 then (if v = 0 ∧ l.length = 2 then tyCs l (n - 1) else (false, n - 1))
  else (false, n - 1)
def tyCs : List Ty → Int → Bool × Int
 | [], n => (true, n)
 | t :: l, n => if (tyC t n).1 = true then tyCs l (tyC t n).2 else (false, (tyC t n).2)
end
mutual
theorem tyC_bound : ∀ (t : Ty) (n : Int), 0 ≤ n → -1 ≤ (tyC t n).2 ∧ (tyC t n).2 ≤ n ∧ ((tyC t n).1 = true → 0 ≤ (tyC t n).2)
 | .mk k v l, n, h => by
  simp only [tyC]
  split
  ·exact ⟨by simp; omega, by simp; omega, by simp⟩
  ·split
   ·exact ⟨by simp; omega, by simp; omega, fun _ => by simp; omega⟩
   ·split
    ·split
     ·have := tyCs_bound l (n - 1) (by omega)
      exact ⟨this.1, by omega, this.2.2⟩
     ·exact ⟨by simp; omega, by simp; omega, by simp⟩
    ·exact ⟨by simp; omega, by simp; omega, by simp⟩
theorem tyCs_bound : ∀ (l : List Ty) (n : Int), 0 ≤ n → -1 ≤ (tyCs l n).2 ∧ (tyCs l n).2 ≤ n ∧ ((tyCs l n).1 = true → 0 ≤ (tyCs l n).2)
 | [], n, h => by exact ⟨by simp [tyCs]; omega, by simp [tyCs], by simp [tyCs]; omega⟩
 | t :: l, n, h => by
  have h1 := tyC_bound t n h
  simp only [tyCs]
  split
  ·rename_i hc
   have h2 := tyCs_bound l (tyC t n).2 (h1.2.2 hc)
   exact ⟨h2.1, by omega, h2.2.2⟩
  ·exact ⟨h1.1, h1.2.1, by simp⟩
end
theorem tyC_two (k v n : Int) (a b : Ty) : tyC (.mk k v [a, b]) n = if n - 1 < 0 then (false, n - 1) else if k = 0 then (false, n - 1) else if k = 1 then
  (if v = 0 then (if (tyC a (n - 1)).1 = true then tyC b (tyC a (n - 1)).2 else (false, (tyC a (n - 1)).2)) else (false, n - 1)) else (false, n - 1) := by
 rw [tyC]
 simp only [List.length_cons, List.length_nil]
 split
 ·rfl
 ·split
  ·simp
  ·split
   ·by_cases hv : v = 0
    ·simp only [hv, tyCs]
     simp only [true_and, if_true]
     split
     ·rcases h : tyC b (tyC a (n - 1)).2 with ⟨x, y⟩
      cases x <;> rfl
     ·rfl
    ·simp [hv]
   ·rfl
theorem ty_ : ∀ (t : Ty) (n : Int), t.ok → 0 ≤ n → n ≤ 1000 → SC 93 [.agg [B false], .agg t.enc, .lp 0 0] [.cells [I n] []] (B (tyC t n).1) [.cells [I (tyC t n).2] []]
 | .mk k v [], n, hok, h1, h2 => by
  rcases dsp (n - 1 < 0) with ⟨hb1, hb1'⟩ | ⟨hb1, hb1'⟩
  ·skip
   exact gR Tryz.func93 [rG, rS [(3, .int (n - 1))], rS [(3, .bit true)], rG] [] [] (B false) ([.cells [I (n - 1)] []]) (qw (n - 1) (qT (n - 1 < 0) ob0)) (by (simp [tyC, *])) (by (simp [tyC, *]))
  ·skip
   rcases bsp (k) (0) with ⟨hb2, hb2'⟩ | ⟨hb2, hb2'⟩
   ·skip
    rcases dsp (1 ≤ v) with ⟨hb3, hb3'⟩ | ⟨hb3, hb3'⟩
    ·skip
     rcases dsp (v ≤ 4) with ⟨hb4, hb4'⟩ | ⟨hb4, hb4'⟩
     ·skip
      exact gR Tryz.func93 [rG, rS [(3, .int (n - 1))], rS [(3, .bit false)], rS [(2, .bit true)], rS [(2, .bit true), (6, .bit true)]] [] [] (B true) ([.cells [I (n - 1)] []]) (qw (n - 1) (qF (n - 1 < 0) (qV (k == 0) (qT (1 ≤ v) (qT (v ≤ 4) ob0))))) (by (simp [tyC, *])) (by (simp [tyC, *]))
     ·skip
      exact gR Tryz.func93 [rG, rS [(3, .int (n - 1))], rS [(3, .bit false)], rS [(2, .bit true)], rS [(2, .bit true), (6, .bit false)]] [] [] (B false) ([.cells [I (n - 1)] []]) (qw (n - 1) (qF (n - 1 < 0) (qV (k == 0) (qT (1 ≤ v) (qF (v ≤ 4) ob0))))) (by (simp [tyC, *])) (by (simp [tyC, *]))
    ·skip
     exact gR Tryz.func93 [rG, rS [(3, .int (n - 1))], rS [(3, .bit false)], rS [(2, .bit true)], rS [(2, .bit false)]] [] [] (B false) ([.cells [I (n - 1)] []]) (qw (n - 1) (qF (n - 1 < 0) (qV (k == 0) (qF (1 ≤ v) ob0)))) (by (simp [tyC, *])) (by (simp [tyC, *]))
   ·skip
    rcases bsp (k) (1) with ⟨hb3, hb3'⟩ | ⟨hb3, hb3'⟩
    ·skip
     rcases bsp (v) (0) with ⟨hb4, hb4'⟩ | ⟨hb4, hb4'⟩
     ·skip
      exact gR Tryz.func93 [rG, rS [(3, .int (n - 1))], rS [(3, .bit false)], rS [(2, .bit false)], rS [(2, .bit true)], rS [(2, .bit true)]] [] [] (B false) ([.cells [I (n - 1)] []]) (qw (n - 1) (qF (n - 1 < 0) (qU (k == 0) (qV (k == 1) (qV (v == 0) ob0))))) (by (simp [tyC, *])) (by (simp [tyC, *]))
     ·skip
      exact gR Tryz.func93 [rG, rS [(3, .int (n - 1))], rS [(3, .bit false)], rS [(2, .bit false)], rS [(2, .bit true)], rS [(2, .bit false)]] [] [] (B false) ([.cells [I (n - 1)] []]) (qw (n - 1) (qF (n - 1 < 0) (qU (k == 0) (qV (k == 1) (qU (v == 0) ob0))))) (by (simp [tyC, *])) (by (simp [tyC, *]))
    ·skip
     exact gR Tryz.func93 [rG, rS [(3, .int (n - 1))], rS [(3, .bit false)], rS [(2, .bit false)], rS [(2, .bit false)], rG] [] [] (B false) ([.cells [I (n - 1)] []]) (qw (n - 1) (qF (n - 1 < 0) (qU (k == 0) (qU (k == 1) ob0)))) (by (simp [tyC, *])) (by (simp [tyC, *]))
 | .mk k v [a], n, hok, h1, h2 => by
  rcases dsp (n - 1 < 0) with ⟨hb1, hb1'⟩ | ⟨hb1, hb1'⟩
  ·skip
   exact gR Tryz.func93 [rG, rS [(3, .int (n - 1))], rS [(3, .bit true)], rG] [] [] (B false) ([.cells [I (n - 1)] []]) (qw (n - 1) (qT (n - 1 < 0) ob0)) (by (simp [tyC, *])) (by (simp [tyC, *]))
  ·skip
   rcases bsp (k) (0) with ⟨hb2, hb2'⟩ | ⟨hb2, hb2'⟩
   ·skip
    rcases dsp (1 ≤ v) with ⟨hb3, hb3'⟩ | ⟨hb3, hb3'⟩
    ·skip
     rcases dsp (v ≤ 4) with ⟨hb4, hb4'⟩ | ⟨hb4, hb4'⟩
     ·skip
      exact gR Tryz.func93 [rG, rS [(3, .int (n - 1))], rS [(3, .bit false)], rS [(2, .bit true)], rS [(2, .bit true), (6, .bit true)]] [] [] (B false) ([.cells [I (n - 1)] []]) (qw (n - 1) (qF (n - 1 < 0) (qV (k == 0) (qT (1 ≤ v) (qT (v ≤ 4) ob0))))) (by (simp [tyC, *])) (by (simp [tyC, *]))
     ·skip
      exact gR Tryz.func93 [rG, rS [(3, .int (n - 1))], rS [(3, .bit false)], rS [(2, .bit true)], rS [(2, .bit true), (6, .bit false)]] [] [] (B false) ([.cells [I (n - 1)] []]) (qw (n - 1) (qF (n - 1 < 0) (qV (k == 0) (qT (1 ≤ v) (qF (v ≤ 4) ob0))))) (by (simp [tyC, *])) (by (simp [tyC, *]))
    ·skip
     exact gR Tryz.func93 [rG, rS [(3, .int (n - 1))], rS [(3, .bit false)], rS [(2, .bit true)], rS [(2, .bit false)]] [] [] (B false) ([.cells [I (n - 1)] []]) (qw (n - 1) (qF (n - 1 < 0) (qV (k == 0) (qF (1 ≤ v) ob0)))) (by (simp [tyC, *])) (by (simp [tyC, *]))
   ·skip
    rcases bsp (k) (1) with ⟨hb3, hb3'⟩ | ⟨hb3, hb3'⟩
    ·skip
     rcases bsp (v) (0) with ⟨hb4, hb4'⟩ | ⟨hb4, hb4'⟩
     ·skip
      exact gR Tryz.func93 [rG, rS [(3, .int (n - 1))], rS [(3, .bit false)], rS [(2, .bit false)], rS [(2, .bit true)], rS [(2, .bit true)]] [] [] (B false) ([.cells [I (n - 1)] []]) (qw (n - 1) (qF (n - 1 < 0) (qU (k == 0) (qV (k == 1) (qV (v == 0) ob0))))) (by (simp [tyC, *])) (by (simp [tyC, *]))
     ·skip
      exact gR Tryz.func93 [rG, rS [(3, .int (n - 1))], rS [(3, .bit false)], rS [(2, .bit false)], rS [(2, .bit true)], rS [(2, .bit false)]] [] [] (B false) ([.cells [I (n - 1)] []]) (qw (n - 1) (qF (n - 1 < 0) (qU (k == 0) (qV (k == 1) (qU (v == 0) ob0))))) (by (simp [tyC, *])) (by (simp [tyC, *]))
    ·skip
     exact gR Tryz.func93 [rG, rS [(3, .int (n - 1))], rS [(3, .bit false)], rS [(2, .bit false)], rS [(2, .bit false)], rG] [] [] (B false) ([.cells [I (n - 1)] []]) (qw (n - 1) (qF (n - 1 < 0) (qU (k == 0) (qU (k == 1) ob0)))) (by (simp [tyC, *])) (by (simp [tyC, *]))
 | .mk k v [.mk ka va la, .mk kb vb lb], n, hok, h1, h2 => by
  have hoa : (Ty.mk ka va la).ok := hok.2.2.2.1
  have hob : (Ty.mk kb vb lb).ok := hok.2.2.2.2.1
  by_cases h3 : n - 1 < 0
  ·exact gR Tryz.func93 [rG, rS [(3, .int (n - 1))], rS [(3, .bit true)], rG] [] [] (B false) ([.cells [I (n - 1)] []]) (qw (n - 1) (qT (n - 1 < 0) ob0)) (by (rw [tyC_two]; simp [*])) (by (rw [tyC_two]; simp [*]))
  ·have ba := tyC_bound (.mk ka va la) (n - 1) (by omega)
   have ha := ty_ (.mk ka va la) (n - 1) hoa (by omega) (by omega)
   by_cases h4 : (tyC (.mk ka va la) (n - 1)).1 = true
   ·have hb := ty_ (.mk kb vb lb) (tyC (.mk ka va la) (n - 1)).2 hob (ba.2.2 h4) (by omega)
    rw [h4] at ha
    clear hok hoa hob ba
    rcases bsp (k) (0) with ⟨hb1, hb1'⟩ | ⟨hb1, hb1'⟩
    ·skip
     rcases dsp (1 ≤ v) with ⟨hb2, hb2'⟩ | ⟨hb2, hb2'⟩
     ·skip
      rcases dsp (v ≤ 4) with ⟨hb3, hb3'⟩ | ⟨hb3, hb3'⟩
      ·skip
       exact gR Tryz.func93 [rG, rS [(3, .int (n - 1))], rS [(3, .bit false)], rS [(2, .bit true)], rS [(2, .bit true), (6, .bit true)]] [] [] (B false) ([.cells [I (n - 1)] []]) (qw (n - 1) (qF (n - 1 < 0) (qV (k == 0) (qT (1 ≤ v) (qT (v ≤ 4) ob0))))) (by (rw [tyC_two]; simp [*])) (by (rw [tyC_two]; simp [*]))
      ·skip
       exact gR Tryz.func93 [rG, rS [(3, .int (n - 1))], rS [(3, .bit false)], rS [(2, .bit true)], rS [(2, .bit true), (6, .bit false)]] [] [] (B false) ([.cells [I (n - 1)] []]) (qw (n - 1) (qF (n - 1 < 0) (qV (k == 0) (qT (1 ≤ v) (qF (v ≤ 4) ob0))))) (by (rw [tyC_two]; simp [*])) (by (rw [tyC_two]; simp [*]))
     ·skip
      exact gR Tryz.func93 [rG, rS [(3, .int (n - 1))], rS [(3, .bit false)], rS [(2, .bit true)], rS [(2, .bit false)]] [] [] (B false) ([.cells [I (n - 1)] []]) (qw (n - 1) (qF (n - 1 < 0) (qV (k == 0) (qF (1 ≤ v) ob0)))) (by (rw [tyC_two]; simp [*])) (by (rw [tyC_two]; simp [*]))
    ·skip
     rcases bsp (k) (1) with ⟨hb2, hb2'⟩ | ⟨hb2, hb2'⟩
     ·skip
      rcases bsp (v) (0) with ⟨hb3, hb3'⟩ | ⟨hb3, hb3'⟩
      ·skip
       rcases Bool.eq_false_or_eq_true (Prod.fst (tyC (Ty.mk kb vb lb) (Prod.snd (tyC (Ty.mk ka va la) (n - 1))))) with hb4 | hb4
       ·have hb4' := hb4
        try simp only [decide_eq_true_eq, decide_eq_false_iff_not, beq_iff_eq, bne_iff_ne, ne_eq, beq_eq_false_iff_ne, bne_eq_false_iff_eq, Bool.not_eq_true'] at hb4'
        exact gR Tryz.func93 [rG, rS [(3, .int (n - 1))], rS [(3, .bit false)], rS [(2, .bit false)], rS [(2, .bit true)], rS [(2, .bit true), (13, .row 0 (xT ka va la)), (16, oC ha), (22, .row 1 (xT kb vb lb)), (25, .call (B true) [.cells [I (Prod.snd (tyC (Ty.mk kb vb lb) (Prod.snd (tyC (Ty.mk ka va la) (n - 1)))))] []])]] [] [] (B true) ([.cells [I (Prod.snd (tyC (Ty.mk kb vb lb) (Prod.snd (tyC (Ty.mk ka va la) (n - 1)))))] []]) (qw (n - 1) (qF (n - 1 < 0) (qU (k == 0) (qV (k == 1) (qV (v == 0) (qI 0 (qC0 ((xT ka va la)) [(xT kb vb lb)] (ob1 (ha) (qI 1 (qC1 ((xT ka va la)) ((xT kb vb lb)) [] (ob1 (SoundCall.to (hb) (pf (B (Prod.fst (tyC (Ty.mk kb vb lb) (Prod.snd (tyC (Ty.mk ka va la) (n - 1))))) = B true)) rfl) ob0))))))))))) (by (rw [tyC_two]; simp [*])) (by (rw [tyC_two]; simp [*]))
       ·have hb4' := hb4
        try simp only [decide_eq_true_eq, decide_eq_false_iff_not, beq_iff_eq, bne_iff_ne, ne_eq, beq_eq_false_iff_ne, bne_eq_false_iff_eq, Bool.not_eq_true'] at hb4'
        exact gR Tryz.func93 [rG, rS [(3, .int (n - 1))], rS [(3, .bit false)], rS [(2, .bit false)], rS [(2, .bit true)], rS [(2, .bit true), (13, .row 0 (xT ka va la)), (16, oC ha), (22, .row 1 (xT kb vb lb)), (25, .call (B false) [.cells [I (Prod.snd (tyC (Ty.mk kb vb lb) (Prod.snd (tyC (Ty.mk ka va la) (n - 1)))))] []])]] [] [] (B false) ([.cells [I (Prod.snd (tyC (Ty.mk kb vb lb) (Prod.snd (tyC (Ty.mk ka va la) (n - 1)))))] []]) (qw (n - 1) (qF (n - 1 < 0) (qU (k == 0) (qV (k == 1) (qV (v == 0) (qI 0 (qC0 ((xT ka va la)) [(xT kb vb lb)] (ob1 (ha) (qI 1 (qC1 ((xT ka va la)) ((xT kb vb lb)) [] (ob1 (SoundCall.to (hb) (pf (B (Prod.fst (tyC (Ty.mk kb vb lb) (Prod.snd (tyC (Ty.mk ka va la) (n - 1))))) = B false)) rfl) ob0))))))))))) (by (rw [tyC_two]; simp [*])) (by (rw [tyC_two]; simp [*]))
      ·skip
       exact gR Tryz.func93 [rG, rS [(3, .int (n - 1))], rS [(3, .bit false)], rS [(2, .bit false)], rS [(2, .bit true)], rS [(2, .bit false)]] [] [] (B false) ([.cells [I (n - 1)] []]) (qw (n - 1) (qF (n - 1 < 0) (qU (k == 0) (qV (k == 1) (qU (v == 0) ob0))))) (by (rw [tyC_two]; simp [*])) (by (rw [tyC_two]; simp [*]))
     ·skip
      exact gR Tryz.func93 [rG, rS [(3, .int (n - 1))], rS [(3, .bit false)], rS [(2, .bit false)], rS [(2, .bit false)], rG] [] [] (B false) ([.cells [I (n - 1)] []]) (qw (n - 1) (qF (n - 1 < 0) (qU (k == 0) (qU (k == 1) ob0)))) (by (rw [tyC_two]; simp [*])) (by (rw [tyC_two]; simp [*]))
   ·rw [Bool.not_eq_true] at h4
    rw [h4] at ha
    clear hok hoa hob ba
    rcases bsp (k) (0) with ⟨hb1, hb1'⟩ | ⟨hb1, hb1'⟩
    ·skip
     rcases dsp (1 ≤ v) with ⟨hb2, hb2'⟩ | ⟨hb2, hb2'⟩
     ·skip
      rcases dsp (v ≤ 4) with ⟨hb3, hb3'⟩ | ⟨hb3, hb3'⟩
      ·skip
       exact gR Tryz.func93 [rG, rS [(3, .int (n - 1))], rS [(3, .bit false)], rS [(2, .bit true)], rS [(2, .bit true), (6, .bit true)]] [] [] (B false) ([.cells [I (n - 1)] []]) (qw (n - 1) (qF (n - 1 < 0) (qV (k == 0) (qT (1 ≤ v) (qT (v ≤ 4) ob0))))) (by (rw [tyC_two]; simp [*])) (by (rw [tyC_two]; simp [*]))
      ·skip
       exact gR Tryz.func93 [rG, rS [(3, .int (n - 1))], rS [(3, .bit false)], rS [(2, .bit true)], rS [(2, .bit true), (6, .bit false)]] [] [] (B false) ([.cells [I (n - 1)] []]) (qw (n - 1) (qF (n - 1 < 0) (qV (k == 0) (qT (1 ≤ v) (qF (v ≤ 4) ob0))))) (by (rw [tyC_two]; simp [*])) (by (rw [tyC_two]; simp [*]))
     ·skip
      exact gR Tryz.func93 [rG, rS [(3, .int (n - 1))], rS [(3, .bit false)], rS [(2, .bit true)], rS [(2, .bit false)]] [] [] (B false) ([.cells [I (n - 1)] []]) (qw (n - 1) (qF (n - 1 < 0) (qV (k == 0) (qF (1 ≤ v) ob0)))) (by (rw [tyC_two]; simp [*])) (by (rw [tyC_two]; simp [*]))
    ·skip
     rcases bsp (k) (1) with ⟨hb2, hb2'⟩ | ⟨hb2, hb2'⟩
     ·skip
      rcases bsp (v) (0) with ⟨hb3, hb3'⟩ | ⟨hb3, hb3'⟩
      ·skip
       exact gR Tryz.func93 [rG, rS [(3, .int (n - 1))], rS [(3, .bit false)], rS [(2, .bit false)], rS [(2, .bit true)], rS [(2, .bit true), (13, .row 0 (xT ka va la)), (16, oC ha)]] [] [] (B false) ([.cells [I (Prod.snd (tyC (Ty.mk ka va la) (n - 1)))] []]) (qw (n - 1) (qF (n - 1 < 0) (qU (k == 0) (qV (k == 1) (qV (v == 0) (qI 0 (qC0 ((xT ka va la)) [(xT kb vb lb)] (ob1 (ha) ob0)))))))) (by (rw [tyC_two]; simp [*])) (by (rw [tyC_two]; simp [*]))
      ·skip
       exact gR Tryz.func93 [rG, rS [(3, .int (n - 1))], rS [(3, .bit false)], rS [(2, .bit false)], rS [(2, .bit true)], rS [(2, .bit false)]] [] [] (B false) ([.cells [I (n - 1)] []]) (qw (n - 1) (qF (n - 1 < 0) (qU (k == 0) (qV (k == 1) (qU (v == 0) ob0))))) (by (rw [tyC_two]; simp [*])) (by (rw [tyC_two]; simp [*]))
     ·skip
      exact gR Tryz.func93 [rG, rS [(3, .int (n - 1))], rS [(3, .bit false)], rS [(2, .bit false)], rS [(2, .bit false)], rG] [] [] (B false) ([.cells [I (n - 1)] []]) (qw (n - 1) (qF (n - 1 < 0) (qU (k == 0) (qU (k == 1) ob0)))) (by (rw [tyC_two]; simp [*])) (by (rw [tyC_two]; simp [*]))
 | .mk k v (a :: b :: c :: l), n, hok, h1, h2 => by
  have hl : l.length ≤ 281474976710656 := by have := hok.2.2.1; simp at this; omega
  clear hok
  rcases dsp (n - 1 < 0) with ⟨hb1, hb1'⟩ | ⟨hb1, hb1'⟩
  ·skip
   exact gR Tryz.func93 [rG, rS [(3, .int (n - 1))], rS [(3, .bit true)], rG] [] [] (B false) ([.cells [I (n - 1)] []]) (qw (n - 1) (qT (n - 1 < 0) ob0)) (by (simp [tyC, *])) (by (simp [tyC, *]))
  ·skip
   rcases bsp (k) (0) with ⟨hb2, hb2'⟩ | ⟨hb2, hb2'⟩
   ·skip
    rcases dsp (1 ≤ v) with ⟨hb3, hb3'⟩ | ⟨hb3, hb3'⟩
    ·skip
     rcases dsp (v ≤ 4) with ⟨hb4, hb4'⟩ | ⟨hb4, hb4'⟩
     ·skip
      exact gR Tryz.func93 [rG, rS [(3, .int (n - 1))], rS [(3, .bit false)], rS [(2, .bit true)], rS [(2, .bit true), (6, .bit true), (11, .int ((l.length : Int) + 1 + 1 + 1))]] [] [] (B false) ([.cells [I (n - 1)] []]) (qw (n - 1) (qF (n - 1 < 0) (qV (k == 0) (qT (1 ≤ v) (qT (v ≤ 4) (q ((↑(List.length (Ty.enc a :: Ty.enc b :: Ty.enc c :: Ty.encs l)) : Int) = (l.length : Int) + 1 + 1 + 1) ob0)))))) (by (simp [tyC, *])) (by (simp [tyC, *]))
     ·skip
      exact gR Tryz.func93 [rG, rS [(3, .int (n - 1))], rS [(3, .bit false)], rS [(2, .bit true)], rS [(2, .bit true), (6, .bit false)]] [] [] (B false) ([.cells [I (n - 1)] []]) (qw (n - 1) (qF (n - 1 < 0) (qV (k == 0) (qT (1 ≤ v) (qF (v ≤ 4) ob0))))) (by (simp [tyC, *])) (by (simp [tyC, *]))
    ·skip
     exact gR Tryz.func93 [rG, rS [(3, .int (n - 1))], rS [(3, .bit false)], rS [(2, .bit true)], rS [(2, .bit false)]] [] [] (B false) ([.cells [I (n - 1)] []]) (qw (n - 1) (qF (n - 1 < 0) (qV (k == 0) (qF (1 ≤ v) ob0)))) (by (simp [tyC, *])) (by (simp [tyC, *]))
   ·skip
    rcases bsp (k) (1) with ⟨hb3, hb3'⟩ | ⟨hb3, hb3'⟩
    ·skip
     rcases bsp (v) (0) with ⟨hb4, hb4'⟩ | ⟨hb4, hb4'⟩
     ·skip
      exact gR Tryz.func93 [rG, rS [(3, .int (n - 1))], rS [(3, .bit false)], rS [(2, .bit false)], rS [(2, .bit true)], rS [(2, .bit true), (6, .int ((l.length : Int) + 1 + 1 + 1))]] [] [] (B false) ([.cells [I (n - 1)] []]) (qw (n - 1) (qF (n - 1 < 0) (qU (k == 0) (qV (k == 1) (qV (v == 0) (q ((↑(List.length (Ty.enc a :: Ty.enc b :: Ty.enc c :: Ty.encs l)) : Int) = (l.length : Int) + 1 + 1 + 1) ob0)))))) (by (simp [tyC, *])) (by (simp [tyC, *]))
     ·skip
      exact gR Tryz.func93 [rG, rS [(3, .int (n - 1))], rS [(3, .bit false)], rS [(2, .bit false)], rS [(2, .bit true)], rS [(2, .bit false)]] [] [] (B false) ([.cells [I (n - 1)] []]) (qw (n - 1) (qF (n - 1 < 0) (qU (k == 0) (qV (k == 1) (qU (v == 0) ob0))))) (by (simp [tyC, *])) (by (simp [tyC, *]))
    ·skip
     exact gR Tryz.func93 [rG, rS [(3, .int (n - 1))], rS [(3, .bit false)], rS [(2, .bit false)], rS [(2, .bit false)], rG] [] [] (B false) ([.cells [I (n - 1)] []]) (qw (n - 1) (qF (n - 1 < 0) (qU (k == 0) (qU (k == 1) ob0)))) (by (simp [tyC, *])) (by (simp [tyC, *]))
termination_by t => SizeOf.sizeOf t
end Go.Ae
namespace Go.Ae
open Go.Proofs
theorem isTy_ (t : Ty) (hok : t.ok) : SC 60 [.agg [B false], .agg t.enc] [] (B (tyC t 20).1) [] := by
 have h := ty_ t 20 hok (by omega) (by omega)
 obtain ⟨k, v, l⟩ := t
 clear hok
 by_cases hb : (tyC (.mk k v l) 20).1 = true
 ·rw [hb] at h ⊢
  exact gF Tryz.func60 [rG, rG, rS [(2, oC h)]] (ob1 (h) ob0)
 ·rw [Bool.not_eq_true] at hb
  rw [hb] at h ⊢
  exact gF Tryz.func60 [rG, rG, rS [(2, oC h)]] (ob1 (h) ob0)
theorem fin_0 (k : Int) : SC 34 [I k] [] (.agg [I 0, I k, .sl 3 [] false]) [] := by
 exact gK Tryz.func34 [rG, rG] [.tidO 0 [none, none, some 3]] [none, none, some 3] ob0
theorem fin_1 (k : Int) : SC 76 [I k] [] (.agg [I 0, I k, .sl 3 [] false]) [] := by
 exact gK Tryz.func76 [rG, rG] [.tidO 0 [none, none, some 3]] [none, none, some 3] ob0
end Go.Ae
namespace Go.Ae
open Go.Proofs
mutual
def szC : Expr → Int → Int → Bool × Int
 | .mk _ _ _ _ l, d, n => if n - 1 < 0 then (false, n - 1) else if d = 0 then (false, n - 1) else szCs l (d - 1) (n - 1)
def szCs : List Expr → Int → Int → Bool × Int
 | [], _, n => (true, n)
 | e :: l, d, n => if (szC e d n).1 = true then szCs l d (szC e d n).2 else (false, (szC e d n).2)
end
mutual
theorem szC_bound : ∀ (e : Expr) (d n : Int), 0 ≤ n → -1 ≤ (szC e d n).2 ∧ (szC e d n).2 ≤ n ∧ ((szC e d n).1 = true → 0 ≤ (szC e d n).2)
 | .mk _ _ _ _ l, d, n, h => by
  simp only [szC]
  split
  ·exact ⟨by simp; omega, by simp; omega, by simp⟩
  ·split
   ·exact ⟨by simp; omega, by simp; omega, by simp⟩
   ·have := szCs_bound l (d - 1) (n - 1) (by omega)
    exact ⟨this.1, by omega, this.2.2⟩
theorem szCs_bound : ∀ (l : List Expr) (d n : Int), 0 ≤ n → -1 ≤ (szCs l d n).2 ∧ (szCs l d n).2 ≤ n ∧ ((szCs l d n).1 = true → 0 ≤ (szCs l d n).2)
 | [], d, n, h => by exact ⟨by simp [szCs]; omega, by simp [szCs], by simp [szCs]; omega⟩
 | t :: l, d, n, h => by
  have h1 := szC_bound t d n h
  simp only [szCs]
  split
  ·rename_i hc
   have h2 := szCs_bound l d (szC t d n).2 (h1.2.2 hc)
   exact ⟨h2.1, by omega, h2.2.2⟩
  ·exact ⟨h1.1, h1.2.1, by simp⟩
end
theorem szCs_cons (e : Expr) (l : List Expr) (d n : Int) : szCs (e :: l) d n = if (szC e d n).1 = true then szCs l d (szC e d n).2 else (false, (szC e d n).2) := by rw [szCs]
theorem size_loop (us : List Expr) (d : Int) (hn : us.length ≤ 281474976710656) (h1 : 1 ≤ d) (h2 : d ≤ 1000) : ∀ (us' : List Expr) (i : Nat) (n : Int), us.drop i = us' → 0 ≤ n → n ≤ 100000 →
  (∀ x ∈ us', ∀ n, 0 ≤ n → n ≤ 100000 → SC 58 [.agg x.enc, I (d - 1), .lp 0 0] [.cells [I n] []] (B (szC x (d - 1) n).1) [.cells [I (szC x (d - 1) n).2] []]) →
  Lp Tryz.prog 36 1 (loopN Tryz.f58 0) ⟨lookT [(1, I d), (2, .lp 0 0), (23, .sl 7 (Expr.encs us) false), (24, I (us.length : Int)), (25, I (i : Int))], [.cells [I n] []]⟩
   (if (szCs us' (d - 1) n).1 = true then .exit 0 else .ret) (if (szCs us' (d - 1) n).1 = true then ⟨lookT [], [.cells [I (szCs us' (d - 1) n).2] []]⟩ else ⟨lookT [(6, B false)], [.cells [I (szCs us' (d - 1) n).2] []]⟩)
 | [], i, n, hd, hn0, hn1, _ => by
  have hi := drop_end hd
  simp only [szCs, if_true]
  exact lL [rS [(0, .bit false)]] [.keep []] (qF ((i : Int) < (us.length : Int)) ob0)
 | .mk k1 m1 v1 (.mk tk tv tl) xs :: us', i, n, hd, hn0, hn1, hs => by
  have hi := drop_lt hd
  have hx : (Expr.encs us)[i]? = some (Expr.mk k1 m1 v1 (.mk tk tv tl) xs).enc := by rw [Expr.encs_get, drop_get hd]; rfl
  have hc := hs (.mk k1 m1 v1 (.mk tk tv tl) xs) (by simp) n hn0 hn1
  have hb := szC_bound (.mk k1 m1 v1 (.mk tk tv tl) xs) (d - 1) n hn0
  have hd' := drop_next hd
  rw [szCs_cons]
  by_cases he : (szC (.mk k1 m1 v1 (.mk tk tv tl) xs) (d - 1) n).1 = true
  ·have ih := size_loop us d hn h1 h2 us' (i + 1) _ hd' (hb.2.2 he) (by omega) (fun x hx => hs x (by simp [hx]))
   rw [if_pos he]
   rw [he] at hc
   simp only [Int.natCast_add] at ih
   clear hs hb hd hd'
   exact lN [rS [(0, .bit true)], rS [(0, oW hx)], rS [(2, .int (d - 1)), (4, oC hc)], rS [(0, .int ((i : Int) + 1))]] [.keep [(1, []), (2, []), (23, []), (24, []), (25, [])]] (qT ((i : Int) < (us.length : Int)) (qI i (ob1 hx (qw (d - 1) (ob1 (hc) (qw ((i : Int) + 1) ob0)))))) (ih)
  ·rw [if_neg he]
   rw [Bool.not_eq_true] at he
   rw [he] at hc
   simp only [Bool.false_eq_true, if_false]
   clear hs hb hd hd'
   exact lL [rS [(0, .bit true)], rS [(0, oW hx)], rS [(2, .int (d - 1)), (4, oC hc)], rG] [.keep [(6, [])]] (qT ((i : Int) < (us.length : Int)) (qI i (ob1 hx (qw (d - 1) (ob1 (hc) ob0)))))
theorem size_ : ∀ (e : Expr) (d n : Int), e.ok → 0 ≤ d → d ≤ 1000 → 0 ≤ n → n ≤ 100000 → SC 58 [.agg e.enc, I d, .lp 0 0] [.cells [I n] []] (B (szC e d n).1) [.cells [I (szC e d n).2] []]
 | .mk k m v (.mk tk tv tl) l, d, n, hok, h1, h2, h3, h4 => by
  have hl : l.length ≤ 281474976710656 := hok.2.2.2.2.1
  have hr : ∀ x ∈ l, ∀ d n, 0 ≤ d → d ≤ 1000 → 0 ≤ n → n ≤ 100000 → SC 58 [.agg x.enc, I d, .lp 0 0] [.cells [I n] []] (B (szC x d n).1) [.cells [I (szC x d n).2] []] := fun x hx d n => size_ x d n (Expr.oks_mem hok.2.2.2.2.2 x hx)
  clear hok
  rw [szC]
  by_cases h5 : n - 1 < 0
  ·rw [if_pos h5]
   exact gR Tryz.func58 [rG, rS [(3, .int (n - 1))], rS [(3, .bit true)], rG] [] [] (B false) ([.cells [I (n - 1)] []]) (qw (n - 1) (qT (n - 1 < 0) ob0))
  ·rw [if_neg h5]
   by_cases h6 : d = 0
   ·rw [if_pos h6]
    exact gR Tryz.func58 [rG, rS [(3, .int (n - 1))], rS [(3, .bit false), (6, .bit true)], rG] [] [] (B false) ([.cells [I (n - 1)] []]) (qw (n - 1) (qF (n - 1 < 0) (qV (d == 0) ob0)))
   ·rw [if_neg h6]
    have lp := size_loop l d hl (by omega) h2 l 0 (n - 1) rfl (by omega) (by omega) (fun x hx n h => hr x hx (d - 1) n (by omega) (by omega) h)
    clear hr
    by_cases he : (szCs l (d - 1) (n - 1)).1 = true
    ·simp only [if_pos he] at lp
     exact gR Tryz.func58 [rG, rS [(3, .int (n - 1))], rS [(3, .bit false), (6, .bit false)], rS [(2, .int (l.length : Int))], oL [.keep [(1, []), (2, []), (23, []), (24, []), (25, [])]] lp, rG] [] [] (B true) ([.cells [I (Prod.snd (szCs l (d - 1) (n - 1)))] []]) (qw (n - 1) (qF (n - 1 < 0) (qU (d == 0) (qN Expr.encs l (ob1 (lp) ob0)))))
    ·simp only [if_neg he] at lp
     exact gR Tryz.func58 [rG, rS [(3, .int (n - 1))], rS [(3, .bit false), (6, .bit false)], rS [(2, .int (l.length : Int))], oL [.keep [(1, []), (2, []), (23, []), (24, []), (25, [])]] lp] [] [] (B false) ([.cells [I (Prod.snd (szCs l (d - 1) (n - 1)))] []]) (qw (n - 1) (qF (n - 1 < 0) (qU (d == 0) (qN Expr.encs l (ob1 (lp) ob0)))))
end Go.Ae
namespace Go.Ae
open Go.Proofs
abbrev U8 (n : Int) : AV := .sc (.int .u8 n)
def letC (n : Int) : Bool := (decide (97 ≤ n) && decide (n ≤ 122)) || (decide (48 ≤ n) && decide (n ≤ 57)) || decide (n = 95)
theorem letter_ (n : Int) : SC 92 [U8 n] [] (B (letC n)) [] := by
 rcases dsp (97 ≤ n) with ⟨hb1, hb1'⟩ | ⟨hb1, hb1'⟩
 ·skip
  rcases dsp (n ≤ 122) with ⟨hb2, hb2'⟩ | ⟨hb2, hb2'⟩
  ·skip
   exact gR Tryz.func92 [rG, rS [(1, .bit true), (4, .bit true)]] [] [] (B true) ([]) (qT (97 ≤ n) (qT (n ≤ 122) ob0)) (by (congr 1; simp [letC]; omega)) (by first | rfl | (simp [*]; done))
  ·skip
   exact gR Tryz.func92 [rG, rS [(1, .bit true), (4, .bit false), (8, .bit true), (11, .bit false), (16, .bit false)]] [] [] (B false) ([]) (qT (97 ≤ n) (qF (n ≤ 122) (qT (48 ≤ n) (qF (n ≤ 57) (qU (n == 95) ob0))))) (by (congr 1; simp [letC]; omega)) (by first | rfl | (simp [*]; done))
 ·skip
  rcases dsp (48 ≤ n) with ⟨hb2, hb2'⟩ | ⟨hb2, hb2'⟩
  ·skip
   rcases dsp (n ≤ 57) with ⟨hb3, hb3'⟩ | ⟨hb3, hb3'⟩
   ·skip
    exact gR Tryz.func92 [rG, rS [(1, .bit false), (8, .bit true), (11, .bit true)]] [] [] (B true) ([]) (qF (97 ≤ n) (qT (48 ≤ n) (qT (n ≤ 57) ob0))) (by (congr 1; simp [letC]; omega)) (by first | rfl | (simp [*]; done))
   ·skip
    rcases bsp (n) (95) with ⟨hb4, hb4'⟩ | ⟨hb4, hb4'⟩
    ·skip
     exact gR Tryz.func92 [rG, rS [(1, .bit false), (8, .bit true), (11, .bit false), (16, .bit true)]] [] [] (B true) ([]) (qF (97 ≤ n) (qT (48 ≤ n) (qF (n ≤ 57) (qV (n == 95) ob0)))) (by (congr 1; simp [letC]; omega)) (by first | rfl | (simp [*]; done))
    ·skip
     exact gR Tryz.func92 [rG, rS [(1, .bit false), (8, .bit true), (11, .bit false), (16, .bit false)]] [] [] (B false) ([]) (qF (97 ≤ n) (qT (48 ≤ n) (qF (n ≤ 57) (qU (n == 95) ob0)))) (by (congr 1; simp [letC]; omega)) (by first | rfl | (simp [*]; done))
  ·skip
   exact gR Tryz.func92 [rG, rS [(1, .bit false), (8, .bit false), (16, .bit false)]] [] [] (B false) ([]) (qF (97 ≤ n) (qF (48 ≤ n) (qU (n == 95) ob0))) (by (congr 1; simp [letC]; omega)) (by first | rfl | (simp [*]; done))
def letL : List UInt8 → Bool
 | [] => true
 | c :: l => letC (c.toNat : Int) && letL l
def nameC (l : List UInt8) : Bool := match l with
 | [] => false
 | c :: r => decide ((c :: r).length ≤ 24) && (decide (97 ≤ (c.toNat : Int)) && decide ((c.toNat : Int) ≤ 122)) && letL (c :: r)
theorem bytes_get (s : ByteArray) (k : Nat) : s[k]? = s.data.toList[k]? := by
 simp only [getElem?_def, ByteArray.size, Array.length_toList]
 rfl
theorem bytes_len (s : ByteArray) : s.size = s.data.toList.length := rfl
theorem isName_loop (s : ByteArray) (hn : s.size ≤ 24) : ∀ (l : List UInt8) (i : Nat), s.data.toList.drop i = l →
  Lp Tryz.prog 33 0 (loopN Tryz.f59 0) ⟨lookT [(0, S s), (3, I (i : Int))], []⟩
   (bif letL l then .exit 0 else .ret) (bif letL l then ⟨lookT [], []⟩ else ⟨lookT [(2, B false)], []⟩)
 | [], i, hd => by
  have hi : s.size ≤ i := drop_end hd
  simp only [letL, cond_true]
  exact lL [rS [(3, .bit false)]] [.keep []] (qF ((i : Int) < (↑(ByteArray.size s) : Int)) ob0)
 | c :: l, i, hd => by
  have hi : i < s.size := drop_lt hd
  have hx : s[i]? = some c := by rw [bytes_get]; exact drop_get hd
  have hc := letter_ (c.toNat : Int)
  have ih := isName_loop s hn l (i + 1) (drop_next hd)
  simp only [letL]
  simp only [Int.natCast_add] at ih
  clear hd
  cases he : letC (c.toNat : Int) with
  | true =>
   rw [he] at hc
   simp only [Bool.true_and]
   exact lN [rS [(3, .bit true)], rS [(2, .byte i c), (3, oC hc)], rS [(1, .int ((i : Int) + 1))]] [.keep [(0, []), (3, [])]] (qT ((i : Int) < (↑(ByteArray.size s) : Int)) (qI i (ob1 hx (ob1 (hc) (qw ((i : Int) + 1) ob0))))) (ih)
  | false =>
   rw [he] at hc
   simp only [Bool.false_and, cond_false]
   exact lL [rS [(3, .bit true)], rS [(2, .byte i c), (3, oC hc)], rG] [.keep [(2, [])]] (qT ((i : Int) < (↑(ByteArray.size s) : Int)) (qI i (ob1 hx (ob1 (hc) ob0))))
theorem isName_ (s : ByteArray) (hs : s.size ≤ 281474976710656) : SC 59 [S s] [] (B (nameC s.data.toList)) [] := by
 cases hl : s.data.toList with
 | nil =>
  have h0 : s.size = 0 := by rw [bytes_len, hl]; rfl
  exact gF Tryz.func59 [rG, rS [(2, .bit true)], rG] (qV ((↑(ByteArray.size s) : Int) == 0) ob0)
 | cons c l =>
  have h0 : s.size = l.length + 1 := by rw [bytes_len, hl]; rfl
  have hx : s[0]? = some c := by rw [bytes_get, hl]; rfl
  by_cases h1 : s.size ≤ 24
  ·have lp := isName_loop s h1 (c :: l) 0 hl
   have h2 : (c :: l).length ≤ 24 := by simp; omega
   cases he : letL (c :: l) with
   | true =>
    simp only [he, cond_true] at lp
    rcases bsp ((↑(ByteArray.size s) : Int)) (0) with ⟨hb1, hb1'⟩ | ⟨hb1, hb1'⟩
    ·skip
     exfalso; first | contradiction | omega | (simp_all; done)
    ·skip
     rcases dsp ((↑(UInt8.toNat c) : Int) < 97) with ⟨hb2, hb2'⟩ | ⟨hb2, hb2'⟩
     ·skip
      exact gR Tryz.func59 [rG, rS [(2, .bit false), (6, .bit false), (10, .byte 0 c), (11, .bit true)], rG] [] [] (B false) ([]) (qU ((↑(ByteArray.size s) : Int) == 0) (qF (24 < (↑(ByteArray.size s) : Int)) (qI 0 (ob1 hx (qT ((↑(UInt8.toNat c) : Int) < 97) ob0))))) (by (congr 1; simp only [nameC, he, decide_eq_true h2, Bool.and_true, Bool.true_and]; simp; omega)) (by first | rfl | (simp [*]; done))
     ·skip
      rcases dsp (122 < (↑(UInt8.toNat c) : Int)) with ⟨hb3, hb3'⟩ | ⟨hb3, hb3'⟩
      ·skip
       exact gR Tryz.func59 [rG, rS [(2, .bit false), (6, .bit false), (10, .byte 0 c), (11, .bit false), (15, .byte 0 c), (16, .bit true)], rG] [] [] (B false) ([]) (qU ((↑(ByteArray.size s) : Int) == 0) (qF (24 < (↑(ByteArray.size s) : Int)) (qI 0 (ob1 hx (qF ((↑(UInt8.toNat c) : Int) < 97) (qI 0 (ob1 hx (qT (122 < (↑(UInt8.toNat c) : Int)) ob0)))))))) (by (congr 1; simp only [nameC, he, decide_eq_true h2, Bool.and_true, Bool.true_and]; simp; omega)) (by first | rfl | (simp [*]; done))
      ·skip
       exact gR Tryz.func59 [rG, rS [(2, .bit false), (6, .bit false), (10, .byte 0 c), (11, .bit false), (15, .byte 0 c), (16, .bit false)], rG, oL [.keep [(0, []), (3, [])]] lp, rG] [] [] (B true) ([]) (qU ((↑(ByteArray.size s) : Int) == 0) (qF (24 < (↑(ByteArray.size s) : Int)) (qI 0 (ob1 hx (qF ((↑(UInt8.toNat c) : Int) < 97) (qI 0 (ob1 hx (qF (122 < (↑(UInt8.toNat c) : Int)) (ob1 (lp) ob0))))))))) (by (congr 1; simp only [nameC, he, decide_eq_true h2, Bool.and_true, Bool.true_and]; simp; omega)) (by first | rfl | (simp [*]; done))
   | false =>
    simp only [he, cond_false] at lp
    rcases bsp ((↑(ByteArray.size s) : Int)) (0) with ⟨hb1, hb1'⟩ | ⟨hb1, hb1'⟩
    ·skip
     exfalso; first | contradiction | omega | (simp_all; done)
    ·skip
     rcases dsp ((↑(UInt8.toNat c) : Int) < 97) with ⟨hb2, hb2'⟩ | ⟨hb2, hb2'⟩
     ·skip
      exact gR Tryz.func59 [rG, rS [(2, .bit false), (6, .bit false), (10, .byte 0 c), (11, .bit true)], rG] [] [] (B false) ([]) (qU ((↑(ByteArray.size s) : Int) == 0) (qF (24 < (↑(ByteArray.size s) : Int)) (qI 0 (ob1 hx (qT ((↑(UInt8.toNat c) : Int) < 97) ob0))))) (by (simp only [nameC, he, Bool.and_false])) (by first | rfl | (simp [*]; done))
     ·skip
      rcases dsp (122 < (↑(UInt8.toNat c) : Int)) with ⟨hb3, hb3'⟩ | ⟨hb3, hb3'⟩
      ·skip
       exact gR Tryz.func59 [rG, rS [(2, .bit false), (6, .bit false), (10, .byte 0 c), (11, .bit false), (15, .byte 0 c), (16, .bit true)], rG] [] [] (B false) ([]) (qU ((↑(ByteArray.size s) : Int) == 0) (qF (24 < (↑(ByteArray.size s) : Int)) (qI 0 (ob1 hx (qF ((↑(UInt8.toNat c) : Int) < 97) (qI 0 (ob1 hx (qT (122 < (↑(UInt8.toNat c) : Int)) ob0)))))))) (by (simp only [nameC, he, Bool.and_false])) (by first | rfl | (simp [*]; done))
      ·skip
       exact gR Tryz.func59 [rG, rS [(2, .bit false), (6, .bit false), (10, .byte 0 c), (11, .bit false), (15, .byte 0 c), (16, .bit false)], rG, oL [.keep [(0, []), (3, [])]] lp] [] [] (B false) ([]) (qU ((↑(ByteArray.size s) : Int) == 0) (qF (24 < (↑(ByteArray.size s) : Int)) (qI 0 (ob1 hx (qF ((↑(UInt8.toNat c) : Int) < 97) (qI 0 (ob1 hx (qF (122 < (↑(UInt8.toNat c) : Int)) (ob1 (lp) ob0))))))))) (by (simp only [nameC, he, Bool.and_false])) (by first | rfl | (simp [*]; done))
  ·have h2 : ¬ (c :: l).length ≤ 24 := by simp; omega
   rcases bsp ((↑(ByteArray.size s) : Int)) (0) with ⟨hb1, hb1'⟩ | ⟨hb1, hb1'⟩
   ·skip
    exfalso; first | contradiction | omega | (simp_all; done)
   ·skip
    exact gR Tryz.func59 [rG, rS [(2, .bit false), (6, .bit true)], rG] [] [] (B false) ([]) (qU ((↑(ByteArray.size s) : Int) == 0) (qT (24 < (↑(ByteArray.size s) : Int)) ob0)) (by (simp only [nameC, decide_eq_false h2, Bool.false_and])) (by first | rfl | (simp [*]; done))
end Go.Ae
namespace Go.Ae
open Go.Proofs
theorem refName_loop (s : ByteArray) (hn : s.size ≤ 24) : ∀ (l : List UInt8) (i : Nat), s.data.toList.drop i = l →
  Lp Tryz.prog 56 0 (loopN Tryz.f70 0) ⟨lookT [(0, S s), (3, I (i : Int))], []⟩
   (bif letL l then .exit 0 else .ret) (bif letL l then ⟨lookT [], []⟩ else ⟨lookT [(2, B false)], []⟩)
 | [], i, hd => by
  have hi : s.size ≤ i := drop_end hd
  simp only [letL, cond_true]
  exact lL [rS [(3, .bit false)]] [.keep []] (qF ((i : Int) < (↑(ByteArray.size s) : Int)) ob0)
 | c :: l, i, hd => by
  have hi : i < s.size := drop_lt hd
  have hx : s[i]? = some c := by rw [bytes_get]; exact drop_get hd
  have ih := refName_loop s hn l (i + 1) (drop_next hd)
  simp only [letL]
  simp only [Int.natCast_add] at ih
  clear hd
  cases he : letC (c.toNat : Int) with
  | true =>
   simp only [letC, Bool.or_eq_true, Bool.and_eq_true, decide_eq_true_eq] at he
   simp only [Bool.true_and]
   rcases dsp ((↑(UInt8.toNat c) : Int) < 97) with ⟨hb1, hb1'⟩ | ⟨hb1, hb1'⟩
   ·skip
    rcases dsp (57 < (↑(UInt8.toNat c) : Int)) with ⟨hb2, hb2'⟩ | ⟨hb2, hb2'⟩
    ·skip
     exact lN [rS [(3, .bit true)], rS [(2, .byte i c), (3, .bit true), (13, .byte i c), (14, .bit false), (18, .byte i c), (19, .bit true), (25, .byte i c), (26, .bit false)], rS [(1, .int ((i : Int) + 1))]] [.keep [(0, []), (3, [])]] (qT ((i : Int) < (↑(ByteArray.size s) : Int)) (qI i (ob1 hx (qT ((↑(UInt8.toNat c) : Int) < 97) (qI i (ob1 hx (qF ((↑(UInt8.toNat c) : Int) < 48) (qI i (ob1 hx (qT (57 < (↑(UInt8.toNat c) : Int)) (qI i (ob1 hx (qU ((↑(UInt8.toNat c) : Int) != 95) (qw ((i : Int) + 1) ob0)))))))))))))) (ih)
    ·skip
     exact lN [rS [(3, .bit true)], rS [(2, .byte i c), (3, .bit true), (13, .byte i c), (14, .bit false), (18, .byte i c), (19, .bit false)], rS [(1, .int ((i : Int) + 1))]] [.keep [(0, []), (3, [])]] (qT ((i : Int) < (↑(ByteArray.size s) : Int)) (qI i (ob1 hx (qT ((↑(UInt8.toNat c) : Int) < 97) (qI i (ob1 hx (qF ((↑(UInt8.toNat c) : Int) < 48) (qI i (ob1 hx (qF (57 < (↑(UInt8.toNat c) : Int)) (qw ((i : Int) + 1) ob0))))))))))) (ih)
   ·skip
    exact lN [rS [(3, .bit true)], rS [(2, .byte i c), (3, .bit false), (7, .byte i c), (8, .bit false)], rS [(1, .int ((i : Int) + 1))]] [.keep [(0, []), (3, [])]] (qT ((i : Int) < (↑(ByteArray.size s) : Int)) (qI i (ob1 hx (qF ((↑(UInt8.toNat c) : Int) < 97) (qI i (ob1 hx (qF (122 < (↑(UInt8.toNat c) : Int)) (qw ((i : Int) + 1) ob0)))))))) (ih)
  | false =>
   simp only [letC, Bool.or_eq_false_iff, Bool.and_eq_false_iff, decide_eq_false_iff_not] at he
   simp only [Bool.false_and, cond_false]
   rcases dsp ((↑(UInt8.toNat c) : Int) < 97) with ⟨hb1, hb1'⟩ | ⟨hb1, hb1'⟩
   ·skip
    rcases dsp ((↑(UInt8.toNat c) : Int) < 48) with ⟨hb2, hb2'⟩ | ⟨hb2, hb2'⟩
    ·skip
     exact lL [rS [(3, .bit true)], rS [(2, .byte i c), (3, .bit true), (13, .byte i c), (14, .bit true), (25, .byte i c), (26, .bit true)], rG] [.keep [(2, [])]] (qT ((i : Int) < (↑(ByteArray.size s) : Int)) (qI i (ob1 hx (qT ((↑(UInt8.toNat c) : Int) < 97) (qI i (ob1 hx (qT ((↑(UInt8.toNat c) : Int) < 48) (qI i (ob1 hx (qV ((↑(UInt8.toNat c) : Int) != 95) ob0))))))))))
    ·skip
     exact lL [rS [(3, .bit true)], rS [(2, .byte i c), (3, .bit true), (13, .byte i c), (14, .bit false), (18, .byte i c), (19, .bit true), (25, .byte i c), (26, .bit true)], rG] [.keep [(2, [])]] (qT ((i : Int) < (↑(ByteArray.size s) : Int)) (qI i (ob1 hx (qT ((↑(UInt8.toNat c) : Int) < 97) (qI i (ob1 hx (qF ((↑(UInt8.toNat c) : Int) < 48) (qI i (ob1 hx (qT (57 < (↑(UInt8.toNat c) : Int)) (qI i (ob1 hx (qV ((↑(UInt8.toNat c) : Int) != 95) ob0)))))))))))))
   ·skip
    exact lL [rS [(3, .bit true)], rS [(2, .byte i c), (3, .bit false), (7, .byte i c), (8, .bit true), (13, .byte i c), (14, .bit false), (18, .byte i c), (19, .bit true), (25, .byte i c), (26, .bit true)], rG] [.keep [(2, [])]] (qT ((i : Int) < (↑(ByteArray.size s) : Int)) (qI i (ob1 hx (qF ((↑(UInt8.toNat c) : Int) < 97) (qI i (ob1 hx (qT (122 < (↑(UInt8.toNat c) : Int)) (qI i (ob1 hx (qF ((↑(UInt8.toNat c) : Int) < 48) (qI i (ob1 hx (qT (57 < (↑(UInt8.toNat c) : Int)) (qI i (ob1 hx (qV ((↑(UInt8.toNat c) : Int) != 95) ob0))))))))))))))))
theorem refName_ (s : ByteArray) (hs : s.size ≤ 281474976710656) : SC 70 [S s] [] (B (nameC s.data.toList)) [] := by
 cases hl : s.data.toList with
 | nil =>
  have h0 : s.size = 0 := by rw [bytes_len, hl]; rfl
  exact gF Tryz.func70 [rG, rS [(2, .bit true)], rG] (qT ((↑(ByteArray.size s) : Int) < 1) ob0)
 | cons c l =>
  have h0 : s.size = l.length + 1 := by rw [bytes_len, hl]; rfl
  have hx : s[0]? = some c := by rw [bytes_get, hl]; rfl
  by_cases h1 : s.size ≤ 24
  ·have lp := refName_loop s h1 (c :: l) 0 hl
   have h2 : (c :: l).length ≤ 24 := by simp; omega
   cases he : letL (c :: l) with
   | true =>
    simp only [he, cond_true] at lp
    rcases dsp ((↑(UInt8.toNat c) : Int) < 97) with ⟨hb1, hb1'⟩ | ⟨hb1, hb1'⟩
    ·skip
     exact gR Tryz.func70 [rG, rS [(2, .bit false), (6, .bit false), (10, .byte 0 c), (11, .bit true)], rG] [] [] (B false) ([]) (qF ((↑(ByteArray.size s) : Int) < 1) (qF (24 < (↑(ByteArray.size s) : Int)) (qI 0 (ob1 hx (qT ((↑(UInt8.toNat c) : Int) < 97) ob0))))) (by (congr 1; simp only [nameC, he, decide_eq_true h2, Bool.and_true, Bool.true_and]; simp; omega)) (by first | rfl | (simp [*]; done))
    ·skip
     rcases dsp (122 < (↑(UInt8.toNat c) : Int)) with ⟨hb2, hb2'⟩ | ⟨hb2, hb2'⟩
     ·skip
      exact gR Tryz.func70 [rG, rS [(2, .bit false), (6, .bit false), (10, .byte 0 c), (11, .bit false), (15, .byte 0 c), (16, .bit true)], rG] [] [] (B false) ([]) (qF ((↑(ByteArray.size s) : Int) < 1) (qF (24 < (↑(ByteArray.size s) : Int)) (qI 0 (ob1 hx (qF ((↑(UInt8.toNat c) : Int) < 97) (qI 0 (ob1 hx (qT (122 < (↑(UInt8.toNat c) : Int)) ob0)))))))) (by (congr 1; simp only [nameC, he, decide_eq_true h2, Bool.and_true, Bool.true_and]; simp; omega)) (by first | rfl | (simp [*]; done))
     ·skip
      exact gR Tryz.func70 [rG, rS [(2, .bit false), (6, .bit false), (10, .byte 0 c), (11, .bit false), (15, .byte 0 c), (16, .bit false)], rG, oL [.keep [(0, []), (3, [])]] lp, rG] [] [] (B true) ([]) (qF ((↑(ByteArray.size s) : Int) < 1) (qF (24 < (↑(ByteArray.size s) : Int)) (qI 0 (ob1 hx (qF ((↑(UInt8.toNat c) : Int) < 97) (qI 0 (ob1 hx (qF (122 < (↑(UInt8.toNat c) : Int)) (ob1 (lp) ob0))))))))) (by (congr 1; simp only [nameC, he, decide_eq_true h2, Bool.and_true, Bool.true_and]; simp; omega)) (by first | rfl | (simp [*]; done))
   | false =>
    simp only [he, cond_false] at lp
    rcases dsp ((↑(UInt8.toNat c) : Int) < 97) with ⟨hb1, hb1'⟩ | ⟨hb1, hb1'⟩
    ·skip
     exact gR Tryz.func70 [rG, rS [(2, .bit false), (6, .bit false), (10, .byte 0 c), (11, .bit true)], rG] [] [] (B false) ([]) (qF ((↑(ByteArray.size s) : Int) < 1) (qF (24 < (↑(ByteArray.size s) : Int)) (qI 0 (ob1 hx (qT ((↑(UInt8.toNat c) : Int) < 97) ob0))))) (by (simp only [nameC, he, Bool.and_false])) (by first | rfl | (simp [*]; done))
    ·skip
     rcases dsp (122 < (↑(UInt8.toNat c) : Int)) with ⟨hb2, hb2'⟩ | ⟨hb2, hb2'⟩
     ·skip
      exact gR Tryz.func70 [rG, rS [(2, .bit false), (6, .bit false), (10, .byte 0 c), (11, .bit false), (15, .byte 0 c), (16, .bit true)], rG] [] [] (B false) ([]) (qF ((↑(ByteArray.size s) : Int) < 1) (qF (24 < (↑(ByteArray.size s) : Int)) (qI 0 (ob1 hx (qF ((↑(UInt8.toNat c) : Int) < 97) (qI 0 (ob1 hx (qT (122 < (↑(UInt8.toNat c) : Int)) ob0)))))))) (by (simp only [nameC, he, Bool.and_false])) (by first | rfl | (simp [*]; done))
     ·skip
      exact gR Tryz.func70 [rG, rS [(2, .bit false), (6, .bit false), (10, .byte 0 c), (11, .bit false), (15, .byte 0 c), (16, .bit false)], rG, oL [.keep [(0, []), (3, [])]] lp] [] [] (B false) ([]) (qF ((↑(ByteArray.size s) : Int) < 1) (qF (24 < (↑(ByteArray.size s) : Int)) (qI 0 (ob1 hx (qF ((↑(UInt8.toNat c) : Int) < 97) (qI 0 (ob1 hx (qF (122 < (↑(UInt8.toNat c) : Int)) (ob1 (lp) ob0))))))))) (by (simp only [nameC, he, Bool.and_false])) (by first | rfl | (simp [*]; done))
  ·have h2 : ¬ (c :: l).length ≤ 24 := by simp; omega
   exact gR Tryz.func70 [rG, rS [(2, .bit false), (6, .bit true)], rG] [] [] (B false) ([]) (qF ((↑(ByteArray.size s) : Int) < 1) (qT (24 < (↑(ByteArray.size s) : Int)) ob0)) (by (simp only [nameC, decide_eq_false h2, Bool.false_and])) (by first | rfl | (simp [*]; done))
end Go.Ae
namespace Go.Ae
open Go.Proofs
mutual
def tnC : Ty → Int → Int
 | .mk _ _ l, most => tnL l most 1
def tnL : List Ty → Int → Int → Int
 | [], _, n => n
 | t :: l, most, n => if n ≤ most then tnL l most (n + tnC t (most - n)) else n
end
mutual
theorem tnC_bound : ∀ (t : Ty) (m : Int), 1 ≤ tnC t m ∧ (tnC t m = 1 ∨ tnC t m ≤ m + 1)
 | .mk _ _ l, m => by
  have h := tnL_bound l m 1 (by omega)
  rw [tnC]
  omega
theorem tnL_bound : ∀ (l : List Ty) (m n : Int), 1 ≤ n → n ≤ tnL l m n ∧ (tnL l m n = n ∨ tnL l m n ≤ m + 1)
 | [], m, n, h => by simp [tnL]
 | t :: l, m, n, h => by
  rw [tnL]
  split
  ·have h1 := tnC_bound t (m - n)
   have h2 := tnL_bound l m (n + tnC t (m - n)) (by omega)
   omega
  ·omega
end
theorem tyNodes_loop (k v : Int) (us : List Ty) (m : Int) (hn : us.length ≤ 281474976710656) (hm : m ≤ 100000) (hm0 : -100000 ≤ m) : ∀ (us' : List Ty) (i : Nat) (n : Int), us.drop i = us' → 1 ≤ n → n ≤ 200000 →
  (∀ x ∈ us', ∀ m, -100000 ≤ m → m ≤ 100000 → SC 73 [.agg x.enc, I m] [] (I (tnC x m)) []) →
  Lp Tryz.prog 31 0 (loopN Tryz.f73 0) ⟨lookT [(1, I m), (2, .lp 0 0), (5, I n), (6, I (i : Int))], [.cells [I k, I v, .sl 3 (Ty.encs us) false] []]⟩
   (.exit 0) ⟨lookT [(5, I (tnL us' m n))], []⟩
 | [], i, n, hd, h1, h2, _ => by
  have hi := drop_end hd
  simp only [tnL]
  exact lL [rS [(3, .int (us.length : Int)), (4, .bit false)]] [.keep [(5, [])]] (qN Ty.encs us (qF ((i : Int) < (us.length : Int)) ob0))
 | .mk k1 v1 xs :: us', i, n, hd, h1, h2, hs => by
  have hi := drop_lt hd
  have hx : (Ty.encs us)[i]? = some (Ty.mk k1 v1 xs).enc := by rw [Ty.encs_get, drop_get hd]; rfl
  rw [show tnL (.mk k1 v1 xs :: us') m n = if n ≤ m then tnL us' m (n + tnC (.mk k1 v1 xs) (m - n)) else n by rw [tnL]]
  by_cases hc : n ≤ m
  ·have hb := tnC_bound (.mk k1 v1 xs) (m - n)
   have hr := hs (.mk k1 v1 xs) (by simp) (m - n) (by omega) (by omega)
   have ih := tyNodes_loop k v us m hn hm hm0 us' (i + 1) (n + tnC (.mk k1 v1 xs) (m - n)) (drop_next hd) (by omega) (by omega) (fun x hx => hs x (by simp [hx]))
   simp only [Int.natCast_add] at ih
   rw [if_pos hc]
   clear hs hd
   exact lN [rS [(3, .int (us.length : Int)), (4, .bit true), (8, .bit true)], rS [(4, oW hx), (8, .int (m - n)), (9, oC hr), (10, .int (n + tnC (Ty.mk k1 v1 xs) (m - n)))], rS [(1, .int ((i : Int) + 1))]] [.keep [(1, []), (2, []), (5, []), (6, [])]] (qN Ty.encs us (qT ((i : Int) < (us.length : Int)) (qT (n ≤ m) (qI i (ob1 hx (qw (m - n) (ob1 (hr) (qw (n + tnC (Ty.mk k1 v1 xs) (m - n)) (qw ((i : Int) + 1) ob0))))))))) (ih)
  ·rw [if_neg hc]
   clear hs hd
   exact lL [rS [(3, .int (us.length : Int)), (4, .bit true), (8, .bit false)]] [.keep [(5, [])]] (qN Ty.encs us (qT ((i : Int) < (us.length : Int)) (qF (n ≤ m) ob0)))
theorem tyNodes_ : ∀ (t : Ty) (m : Int), t.ok → -100000 ≤ m → m ≤ 100000 → SC 73 [.agg t.enc, I m] [] (I (tnC t m)) []
 | .mk k v l, m, hok, h1, h2 => by
  have hl : l.length ≤ 281474976710656 := hok.2.2.1
  have hr : ∀ x ∈ l, ∀ m, -100000 ≤ m → m ≤ 100000 → SC 73 [.agg x.enc, I m] [] (I (tnC x m)) [] := fun x hx m => tyNodes_ x m (Ty.oks_mem hok.2.2.2 x hx)
  have lp := tyNodes_loop k v l m hl h2 h1 l 0 1 rfl (by omega) (by omega) hr
  clear hok hr
  rw [tnC]
  exact gF Tryz.func73 [rG, rG, rG, oL [.keep [(1, []), (2, []), (5, []), (6, [])]] lp, rG] (ob1 (lp) ob0)
mutual
def shC : Ty → Bool
 | .mk k v l => if k = 0 then decide (1 ≤ v) && decide (v ≤ 4) && decide (l.length = 0) else decide (k = 1) && decide (v = 0) && decide (l.length = 2) && shL l
def shL : List Ty → Bool
 | [] => true
 | t :: l => shC t && shL l
end
theorem shC_two (k v : Int) (a b : Ty) : shC (.mk k v [a, b]) = if k = 0 then false else decide (k = 1) && decide (v = 0) && (shC a && shC b) := by
 rw [shC]; simp [shL]
theorem shaped_ : ∀ (t : Ty), t.ok → SC 74 [.agg t.enc] [] (B (shC t)) []
 | .mk k v [], hok => by
  clear hok
  rcases bsp (k) (0) with ⟨hb1, hb1'⟩ | ⟨hb1, hb1'⟩
  ·skip
   rcases dsp (1 ≤ v) with ⟨hb2, hb2'⟩ | ⟨hb2, hb2'⟩
   ·skip
    rcases dsp (v ≤ 4) with ⟨hb3, hb3'⟩ | ⟨hb3, hb3'⟩
    ·skip
     exact gR Tryz.func74 [rG, rS [(2, .bit true)], rS [(2, .bit true), (6, .bit true)]] [] [] (B true) ([]) (qV (k == 0) (qT (1 ≤ v) (qT (v ≤ 4) ob0))) (by (simp [shC, *])) (by first | rfl | (simp [*]; done))
    ·skip
     exact gR Tryz.func74 [rG, rS [(2, .bit true)], rS [(2, .bit true), (6, .bit false)]] [] [] (B false) ([]) (qV (k == 0) (qT (1 ≤ v) (qF (v ≤ 4) ob0))) (by (simp [shC, *])) (by first | rfl | (simp [*]; done))
   ·skip
    exact gR Tryz.func74 [rG, rS [(2, .bit true)], rS [(2, .bit false)]] [] [] (B false) ([]) (qV (k == 0) (qF (1 ≤ v) ob0)) (by (simp [shC, *])) (by first | rfl | (simp [*]; done))
  ·skip
   rcases bsp (k) (1) with ⟨hb2, hb2'⟩ | ⟨hb2, hb2'⟩
   ·skip
    rcases bsp (v) (0) with ⟨hb3, hb3'⟩ | ⟨hb3, hb3'⟩
    ·skip
     exact gR Tryz.func74 [rG, rS [(2, .bit false)], rS [(2, .bit true), (6, .bit true)]] [] [] (B false) ([]) (qU (k == 0) (qV (k == 1) (qV (v == 0) ob0))) (by (simp [shC, *])) (by first | rfl | (simp [*]; done))
    ·skip
     exact gR Tryz.func74 [rG, rS [(2, .bit false)], rS [(2, .bit true), (6, .bit false)]] [] [] (B false) ([]) (qU (k == 0) (qV (k == 1) (qU (v == 0) ob0))) (by (simp [shC, *])) (by first | rfl | (simp [*]; done))
   ·skip
    exact gR Tryz.func74 [rG, rS [(2, .bit false)], rS [(2, .bit false)]] [] [] (B false) ([]) (qU (k == 0) (qU (k == 1) ob0)) (by (simp [shC, *])) (by first | rfl | (simp [*]; done))
 | .mk k v [a], hok => by
  clear hok
  rcases bsp (k) (0) with ⟨hb1, hb1'⟩ | ⟨hb1, hb1'⟩
  ·skip
   rcases dsp (1 ≤ v) with ⟨hb2, hb2'⟩ | ⟨hb2, hb2'⟩
   ·skip
    rcases dsp (v ≤ 4) with ⟨hb3, hb3'⟩ | ⟨hb3, hb3'⟩
    ·skip
     exact gR Tryz.func74 [rG, rS [(2, .bit true)], rS [(2, .bit true), (6, .bit true)]] [] [] (B false) ([]) (qV (k == 0) (qT (1 ≤ v) (qT (v ≤ 4) ob0))) (by (simp [shC, *])) (by first | rfl | (simp [*]; done))
    ·skip
     exact gR Tryz.func74 [rG, rS [(2, .bit true)], rS [(2, .bit true), (6, .bit false)]] [] [] (B false) ([]) (qV (k == 0) (qT (1 ≤ v) (qF (v ≤ 4) ob0))) (by (simp [shC, *])) (by first | rfl | (simp [*]; done))
   ·skip
    exact gR Tryz.func74 [rG, rS [(2, .bit true)], rS [(2, .bit false)]] [] [] (B false) ([]) (qV (k == 0) (qF (1 ≤ v) ob0)) (by (simp [shC, *])) (by first | rfl | (simp [*]; done))
  ·skip
   rcases bsp (k) (1) with ⟨hb2, hb2'⟩ | ⟨hb2, hb2'⟩
   ·skip
    rcases bsp (v) (0) with ⟨hb3, hb3'⟩ | ⟨hb3, hb3'⟩
    ·skip
     exact gR Tryz.func74 [rG, rS [(2, .bit false)], rS [(2, .bit true), (6, .bit true)]] [] [] (B false) ([]) (qU (k == 0) (qV (k == 1) (qV (v == 0) ob0))) (by (simp [shC, *])) (by first | rfl | (simp [*]; done))
    ·skip
     exact gR Tryz.func74 [rG, rS [(2, .bit false)], rS [(2, .bit true), (6, .bit false)]] [] [] (B false) ([]) (qU (k == 0) (qV (k == 1) (qU (v == 0) ob0))) (by (simp [shC, *])) (by first | rfl | (simp [*]; done))
   ·skip
    exact gR Tryz.func74 [rG, rS [(2, .bit false)], rS [(2, .bit false)]] [] [] (B false) ([]) (qU (k == 0) (qU (k == 1) ob0)) (by (simp [shC, *])) (by first | rfl | (simp [*]; done))
 | .mk k v [.mk ka va la, .mk kb vb lb], hok => by
  have ha := shaped_ (.mk ka va la) hok.2.2.2.1
  have hb := shaped_ (.mk kb vb lb) hok.2.2.2.2.1
  clear hok
  rcases bsp (k) (0) with ⟨hb1, hb1'⟩ | ⟨hb1, hb1'⟩
  ·skip
   rcases dsp (1 ≤ v) with ⟨hb2, hb2'⟩ | ⟨hb2, hb2'⟩
   ·skip
    rcases dsp (v ≤ 4) with ⟨hb3, hb3'⟩ | ⟨hb3, hb3'⟩
    ·skip
     exact gR Tryz.func74 [rG, rS [(2, .bit true)], rS [(2, .bit true), (6, .bit true)]] [] [] (B false) ([]) (qV (k == 0) (qT (1 ≤ v) (qT (v ≤ 4) ob0))) (by (rw [shC_two]; simp [*])) (by first | rfl | (simp [*]; done))
    ·skip
     exact gR Tryz.func74 [rG, rS [(2, .bit true)], rS [(2, .bit true), (6, .bit false)]] [] [] (B false) ([]) (qV (k == 0) (qT (1 ≤ v) (qF (v ≤ 4) ob0))) (by (rw [shC_two]; simp [*])) (by first | rfl | (simp [*]; done))
   ·skip
    exact gR Tryz.func74 [rG, rS [(2, .bit true)], rS [(2, .bit false)]] [] [] (B false) ([]) (qV (k == 0) (qF (1 ≤ v) ob0)) (by (rw [shC_two]; simp [*])) (by first | rfl | (simp [*]; done))
  ·skip
   rcases bsp (k) (1) with ⟨hb2, hb2'⟩ | ⟨hb2, hb2'⟩
   ·skip
    rcases bsp (v) (0) with ⟨hb3, hb3'⟩ | ⟨hb3, hb3'⟩
    ·skip
     rcases Bool.eq_false_or_eq_true (shC (Ty.mk ka va la)) with hb4 | hb4
     ·have hb4' := hb4
      try simp only [decide_eq_true_eq, decide_eq_false_iff_not, beq_iff_eq, bne_iff_ne, ne_eq, beq_eq_false_iff_ne, bne_eq_false_iff_eq, Bool.not_eq_true'] at hb4'
      rcases Bool.eq_false_or_eq_true (shC (Ty.mk kb vb lb)) with hb5 | hb5
      ·have hb5' := hb5
       try simp only [decide_eq_true_eq, decide_eq_false_iff_not, beq_iff_eq, bne_iff_ne, ne_eq, beq_eq_false_iff_ne, bne_eq_false_iff_eq, Bool.not_eq_true'] at hb5'
       exact gR Tryz.func74 [rG, rS [(2, .bit false)], rS [(2, .bit true), (6, .bit true), (17, .row 0 (xT ka va la)), (19, .call (B true) []), (24, .row 1 (xT kb vb lb)), (26, .call (B true) [])]] [] [] (B true) ([]) (qU (k == 0) (qV (k == 1) (qV (v == 0) (qI 0 (qC0 ((xT ka va la)) [(xT kb vb lb)] (ob1 (SoundCall.to (ha) (pf (B (shC (Ty.mk ka va la)) = B true)) rfl) (qI 1 (qC1 ((xT ka va la)) ((xT kb vb lb)) [] (ob1 (SoundCall.to (hb) (pf (B (shC (Ty.mk kb vb lb)) = B true)) rfl) ob0))))))))) (by (rw [shC_two]; simp [*])) (by first | rfl | (simp [*]; done))
      ·have hb5' := hb5
       try simp only [decide_eq_true_eq, decide_eq_false_iff_not, beq_iff_eq, bne_iff_ne, ne_eq, beq_eq_false_iff_ne, bne_eq_false_iff_eq, Bool.not_eq_true'] at hb5'
       exact gR Tryz.func74 [rG, rS [(2, .bit false)], rS [(2, .bit true), (6, .bit true), (17, .row 0 (xT ka va la)), (19, .call (B true) []), (24, .row 1 (xT kb vb lb)), (26, .call (B false) [])]] [] [] (B false) ([]) (qU (k == 0) (qV (k == 1) (qV (v == 0) (qI 0 (qC0 ((xT ka va la)) [(xT kb vb lb)] (ob1 (SoundCall.to (ha) (pf (B (shC (Ty.mk ka va la)) = B true)) rfl) (qI 1 (qC1 ((xT ka va la)) ((xT kb vb lb)) [] (ob1 (SoundCall.to (hb) (pf (B (shC (Ty.mk kb vb lb)) = B false)) rfl) ob0))))))))) (by (rw [shC_two]; simp [*])) (by first | rfl | (simp [*]; done))
     ·have hb4' := hb4
      try simp only [decide_eq_true_eq, decide_eq_false_iff_not, beq_iff_eq, bne_iff_ne, ne_eq, beq_eq_false_iff_ne, bne_eq_false_iff_eq, Bool.not_eq_true'] at hb4'
      exact gR Tryz.func74 [rG, rS [(2, .bit false)], rS [(2, .bit true), (6, .bit true), (17, .row 0 (xT ka va la)), (19, .call (B false) [])]] [] [] (B false) ([]) (qU (k == 0) (qV (k == 1) (qV (v == 0) (qI 0 (qC0 ((xT ka va la)) [(xT kb vb lb)] (ob1 (SoundCall.to (ha) (pf (B (shC (Ty.mk ka va la)) = B false)) rfl) ob0)))))) (by (rw [shC_two]; simp [*])) (by first | rfl | (simp [*]; done))
    ·skip
     exact gR Tryz.func74 [rG, rS [(2, .bit false)], rS [(2, .bit true), (6, .bit false)]] [] [] (B false) ([]) (qU (k == 0) (qV (k == 1) (qU (v == 0) ob0))) (by (rw [shC_two]; simp [*])) (by first | rfl | (simp [*]; done))
   ·skip
    exact gR Tryz.func74 [rG, rS [(2, .bit false)], rS [(2, .bit false)]] [] [] (B false) ([]) (qU (k == 0) (qU (k == 1) ob0)) (by (rw [shC_two]; simp [*])) (by first | rfl | (simp [*]; done))
 | .mk k v (a :: b :: c :: l), hok => by
  have hl : l.length ≤ 281474976710656 := by have := hok.2.2.1; simp at this; omega
  clear hok
  rcases bsp (k) (0) with ⟨hb1, hb1'⟩ | ⟨hb1, hb1'⟩
  ·skip
   rcases dsp (1 ≤ v) with ⟨hb2, hb2'⟩ | ⟨hb2, hb2'⟩
   ·skip
    rcases dsp (v ≤ 4) with ⟨hb3, hb3'⟩ | ⟨hb3, hb3'⟩
    ·skip
     exact gR Tryz.func74 [rG, rS [(2, .bit true)], rS [(2, .bit true), (6, .bit true), (11, .int ((l.length : Int) + 1 + 1 + 1))]] [] [] (B false) ([]) (qV (k == 0) (qT (1 ≤ v) (qT (v ≤ 4) (q ((↑(List.length (Ty.enc a :: Ty.enc b :: Ty.enc c :: Ty.encs l)) : Int) = (l.length : Int) + 1 + 1 + 1) ob0)))) (by (simp [shC, *])) (by first | rfl | (simp [*]; done))
    ·skip
     exact gR Tryz.func74 [rG, rS [(2, .bit true)], rS [(2, .bit true), (6, .bit false)]] [] [] (B false) ([]) (qV (k == 0) (qT (1 ≤ v) (qF (v ≤ 4) ob0))) (by (simp [shC, *])) (by first | rfl | (simp [*]; done))
   ·skip
    exact gR Tryz.func74 [rG, rS [(2, .bit true)], rS [(2, .bit false)]] [] [] (B false) ([]) (qV (k == 0) (qF (1 ≤ v) ob0)) (by (simp [shC, *])) (by first | rfl | (simp [*]; done))
  ·skip
   rcases bsp (k) (1) with ⟨hb2, hb2'⟩ | ⟨hb2, hb2'⟩
   ·skip
    rcases bsp (v) (0) with ⟨hb3, hb3'⟩ | ⟨hb3, hb3'⟩
    ·skip
     exact gR Tryz.func74 [rG, rS [(2, .bit false)], rS [(2, .bit true), (6, .bit true), (11, .int ((l.length : Int) + 1 + 1 + 1))]] [] [] (B false) ([]) (qU (k == 0) (qV (k == 1) (qV (v == 0) (q ((↑(List.length (Ty.enc a :: Ty.enc b :: Ty.enc c :: Ty.encs l)) : Int) = (l.length : Int) + 1 + 1 + 1) ob0)))) (by (simp [shC, *])) (by first | rfl | (simp [*]; done))
    ·skip
     exact gR Tryz.func74 [rG, rS [(2, .bit false)], rS [(2, .bit true), (6, .bit false)]] [] [] (B false) ([]) (qU (k == 0) (qV (k == 1) (qU (v == 0) ob0))) (by (simp [shC, *])) (by first | rfl | (simp [*]; done))
   ·skip
    exact gR Tryz.func74 [rG, rS [(2, .bit false)], rS [(2, .bit false)]] [] [] (B false) ([]) (qU (k == 0) (qU (k == 1) ob0)) (by (simp [shC, *])) (by first | rfl | (simp [*]; done))
termination_by t => SizeOf.sizeOf t
theorem refIsTy_ (t : Ty) (hok : t.ok) : SC 41 [.agg t.enc] [] (B (decide (tnC t 20 ≤ 20) && shC t)) [] := by
 have h1 := tyNodes_ t 20 hok (by omega) (by omega)
 have h2 := shaped_ t hok
 obtain ⟨k, v, l⟩ := t
 clear hok
 rcases dsp (tnC (Ty.mk k v l) 20 ≤ 20) with ⟨hb1, hb1'⟩ | ⟨hb1, hb1'⟩
 ·skip
  rcases Bool.eq_false_or_eq_true (shC (Ty.mk k v l)) with hb2 | hb2
  ·have hb2' := hb2
   try simp only [decide_eq_true_eq, decide_eq_false_iff_not, beq_iff_eq, bne_iff_ne, ne_eq, beq_eq_false_iff_ne, bne_eq_false_iff_eq, Bool.not_eq_true'] at hb2'
   exact gR Tryz.func41 [rG, rS [(1, oC h1), (2, .bit true), (5, .call (B true) [])]] [] [] (B true) ([]) (ob1 (h1) (qT (tnC (Ty.mk k v l) 20 ≤ 20) (ob1 (SoundCall.to (h2) (pf (B (shC (Ty.mk k v l)) = B true)) rfl) ob0)))
  ·have hb2' := hb2
   try simp only [decide_eq_true_eq, decide_eq_false_iff_not, beq_iff_eq, bne_iff_ne, ne_eq, beq_eq_false_iff_ne, bne_eq_false_iff_eq, Bool.not_eq_true'] at hb2'
   exact gR Tryz.func41 [rG, rS [(1, oC h1), (2, .bit true), (5, .call (B false) [])]] [] [] (B false) ([]) (ob1 (h1) (qT (tnC (Ty.mk k v l) 20 ≤ 20) (ob1 (SoundCall.to (h2) (pf (B (shC (Ty.mk k v l)) = B false)) rfl) ob0)))
 ·skip
  exact gR Tryz.func41 [rG, rS [(1, oC h1), (2, .bit false)]] [] [] (B false) ([]) (ob1 (h1) (qF (tnC (Ty.mk k v l) 20 ≤ 20) ob0))
end Go.Ae
namespace Go.Ae
open Go.Proofs
mutual
def ndC : Expr → Int → Int
 | .mk _ _ _ _ l, most => ndL l most 1
def ndL : List Expr → Int → Int → Int
 | [], _, n => n
 | t :: l, most, n => if n ≤ most then ndL l most (n + ndC t (most - n)) else n
end
mutual
theorem ndC_bound : ∀ (t : Expr) (m : Int), 1 ≤ ndC t m ∧ (ndC t m = 1 ∨ ndC t m ≤ m + 1)
 | .mk _ _ _ _ l, m => by
  have h := ndL_bound l m 1 (by omega)
  rw [ndC]
  omega
theorem ndL_bound : ∀ (l : List Expr) (m n : Int), 1 ≤ n → n ≤ ndL l m n ∧ (ndL l m n = n ∨ ndL l m n ≤ m + 1)
 | [], m, n, h => by simp [ndL]
 | t :: l, m, n, h => by
  rw [ndL]
  split
  ·have h1 := ndC_bound t (m - n)
   have h2 := ndL_bound l m (n + ndC t (m - n)) (by omega)
   omega
  ·omega
end
theorem nodes_loop (k v w tk tv : Int) (tl : List Ty) (us : List Expr) (m : Int) (hn : us.length ≤ 281474976710656) (hm : m ≤ 100000) (hm0 : -100000 ≤ m) : ∀ (us' : List Expr) (i : Nat) (n : Int), us.drop i = us' → 1 ≤ n → n ≤ 200000 →
  (∀ x ∈ us', ∀ m, -100000 ≤ m → m ≤ 100000 → SC 71 [.agg x.enc, I m] [] (I (ndC x m)) []) →
  Lp Tryz.prog 31 0 (loopN Tryz.f71 0) ⟨lookT [(1, I m), (2, .lp 0 0), (5, I n), (6, I (i : Int))], [.cells [I k, I v, I w, I tk, I tv, .sl 3 (Ty.encs tl) false, .sl 7 (Expr.encs us) false] []]⟩
   (.exit 0) ⟨lookT [(5, I (ndL us' m n))], []⟩
 | [], i, n, hd, h1, h2, _ => by
  have hi := drop_end hd
  simp only [ndL]
  exact lL [rS [(3, .int (us.length : Int)), (4, .bit false)]] [.keep [(5, [])]] (qN Expr.encs us (qF ((i : Int) < (us.length : Int)) ob0))
 | .mk k1 m1 v1 (.mk tk1 tv1 tl1) xs :: us', i, n, hd, h1, h2, hs => by
  have hi := drop_lt hd
  have hx : (Expr.encs us)[i]? = some (Expr.mk k1 m1 v1 (.mk tk1 tv1 tl1) xs).enc := by rw [Expr.encs_get, drop_get hd]; rfl
  rw [show ndL (.mk k1 m1 v1 (.mk tk1 tv1 tl1) xs :: us') m n = if n ≤ m then ndL us' m (n + ndC (.mk k1 m1 v1 (.mk tk1 tv1 tl1) xs) (m - n)) else n by rw [ndL]]
  by_cases hc : n ≤ m
  ·have hb := ndC_bound (.mk k1 m1 v1 (.mk tk1 tv1 tl1) xs) (m - n)
   have hr := hs (.mk k1 m1 v1 (.mk tk1 tv1 tl1) xs) (by simp) (m - n) (by omega) (by omega)
   have ih := nodes_loop k v w tk tv tl us m hn hm hm0 us' (i + 1) (n + ndC (.mk k1 m1 v1 (.mk tk1 tv1 tl1) xs) (m - n)) (drop_next hd) (by omega) (by omega) (fun x hx => hs x (by simp [hx]))
   simp only [Int.natCast_add] at ih
   rw [if_pos hc]
   clear hs hd
   exact lN [rS [(3, .int (us.length : Int)), (4, .bit true), (8, .bit true)], rS [(4, oW hx), (8, .int (m - n)), (9, oC hr), (10, .int (n + ndC (Expr.mk k1 m1 v1 (Ty.mk tk1 tv1 tl1) xs) (m - n)))], rS [(1, .int ((i : Int) + 1))]] [.keep [(1, []), (2, []), (5, []), (6, [])]] (qN Expr.encs us (qT ((i : Int) < (us.length : Int)) (qT (n ≤ m) (qI i (ob1 hx (qw (m - n) (ob1 (hr) (qw (n + ndC (Expr.mk k1 m1 v1 (Ty.mk tk1 tv1 tl1) xs) (m - n)) (qw ((i : Int) + 1) ob0))))))))) (ih)
  ·rw [if_neg hc]
   clear hs hd
   exact lL [rS [(3, .int (us.length : Int)), (4, .bit true), (8, .bit false)]] [.keep [(5, [])]] (qN Expr.encs us (qT ((i : Int) < (us.length : Int)) (qF (n ≤ m) ob0)))
theorem nodes_ : ∀ (t : Expr) (m : Int), t.ok → -100000 ≤ m → m ≤ 100000 → SC 71 [.agg t.enc, I m] [] (I (ndC t m)) []
 | .mk k v w (.mk tk tv tl) l, m, hok, h1, h2 => by
  have hl : l.length ≤ 281474976710656 := hok.2.2.2.2.1
  have hr : ∀ x ∈ l, ∀ m, -100000 ≤ m → m ≤ 100000 → SC 71 [.agg x.enc, I m] [] (I (ndC x m)) [] := fun x hx m => nodes_ x m (Expr.oks_mem hok.2.2.2.2.2 x hx)
  have lp := nodes_loop k v w tk tv tl l m hl h2 h1 l 0 1 rfl (by omega) (by omega) hr
  clear hok hr
  rw [ndC]
  exact gF Tryz.func71 [rG, rG, rG, oL [.keep [(1, []), (2, []), (5, []), (6, [])]] lp, rG] (ob1 (lp) ob0)
mutual
def dpC : Expr → Int
 | .mk _ _ _ _ l => dpL l 0 + 1
def dpL : List Expr → Int → Int
 | [], n => n
 | t :: l, n => dpL l (if n < dpC t then dpC t else n)
end
mutual
theorem dpC_pos : ∀ (t : Expr), 1 ≤ dpC t
 | .mk _ _ _ _ l => by have := dpL_ge l 0; rw [dpC]; omega
theorem dpL_ge : ∀ (l : List Expr) (n : Int), n ≤ dpL l n
 | [], n => by simp [dpL]
 | t :: l, n => by have := dpL_ge l (if n < dpC t then dpC t else n); rw [dpL]; split at this <;> split <;> omega
end
theorem depth_loop (us : List Expr) (hn : us.length ≤ 281474976710656) : ∀ (us' : List Expr) (i : Nat) (n : Int), us.drop i = us' → 0 ≤ n → dpL us' n ≤ 100000 →
  (∀ x ∈ us', dpC x ≤ 100000 → SC 72 [.agg x.enc] [] (I (dpC x)) []) →
  Lp Tryz.prog 20 0 (loopN Tryz.f72 0) ⟨lookT [(3, I n), (7, .sl 7 (Expr.encs us) false), (8, I (us.length : Int)), (9, I (i : Int))], []⟩
   (.exit 0) ⟨lookT [(3, I (dpL us' n))], []⟩
 | [], i, n, hd, h1, h2, _ => by
  have hi := drop_end hd
  simp only [dpL]
  exact lL [rS [(0, .bit false)]] [.keep [(3, [])]] (qF ((i : Int) < (us.length : Int)) ob0)
 | .mk k1 m1 v1 (.mk tk1 tv1 tl1) xs :: us', i, n, hd, h1, h2, hs => by
  have hi := drop_lt hd
  have hx : (Expr.encs us)[i]? = some (Expr.mk k1 m1 v1 (.mk tk1 tv1 tl1) xs).enc := by rw [Expr.encs_get, drop_get hd]; rfl
  rw [dpL] at h2
  have hg := dpL_ge us' (if n < dpC (.mk k1 m1 v1 (.mk tk1 tv1 tl1) xs) then dpC (.mk k1 m1 v1 (.mk tk1 tv1 tl1) xs) else n)
  have hp := dpC_pos (.mk k1 m1 v1 (.mk tk1 tv1 tl1) xs)
  have hr := hs (.mk k1 m1 v1 (.mk tk1 tv1 tl1) xs) (by simp) (by split at hg <;> split at h2 <;> omega)
  have ih := depth_loop us hn us' (i + 1) (if n < dpC (.mk k1 m1 v1 (.mk tk1 tv1 tl1) xs) then dpC (.mk k1 m1 v1 (.mk tk1 tv1 tl1) xs) else n) (drop_next hd) (by split <;> omega) h2 (fun x hx => hs x (by simp [hx]))
  rw [show dpL (.mk k1 m1 v1 (.mk tk1 tv1 tl1) xs :: us') n = dpL us' (if n < dpC (.mk k1 m1 v1 (.mk tk1 tv1 tl1) xs) then dpC (.mk k1 m1 v1 (.mk tk1 tv1 tl1) xs) else n) by rw [dpL]]
  simp only [Int.natCast_add] at ih
  clear hs hd
  exact lN [rS [(0, .bit true)], rS [(0, oW hx)], rS [(2, oC hr), (3, .int (if n < dpC (Expr.mk k1 m1 v1 (Ty.mk tk1 tv1 tl1) xs) then dpC (Expr.mk k1 m1 v1 (Ty.mk tk1 tv1 tl1) xs) else n))], rS [(0, .int ((i : Int) + 1))]] [.keep [(3, []), (7, []), (8, []), (9, [])]] (qT ((i : Int) < (us.length : Int)) (qI i (ob1 hx (ob1 (hr) (q ((if dpC (Expr.mk k1 m1 v1 (Ty.mk tk1 tv1 tl1) xs) > n then dpC (Expr.mk k1 m1 v1 (Ty.mk tk1 tv1 tl1) xs) else n) = if n < dpC (Expr.mk k1 m1 v1 (Ty.mk tk1 tv1 tl1) xs) then dpC (Expr.mk k1 m1 v1 (Ty.mk tk1 tv1 tl1) xs) else n) (qw ((i : Int) + 1) ob0)))))) (ih)
theorem depth_ : ∀ (t : Expr), t.ok → dpC t ≤ 100000 → SC 72 [.agg t.enc] [] (I (dpC t)) []
 | .mk k v w (.mk tk tv tl) l, hok, h1 => by
  have hl : l.length ≤ 281474976710656 := hok.2.2.2.2.1
  have hr : ∀ x ∈ l, dpC x ≤ 100000 → SC 72 [.agg x.enc] [] (I (dpC x)) [] := fun x hx => depth_ x (Expr.oks_mem hok.2.2.2.2.2 x hx)
  rw [dpC] at h1
  have hp := dpL_ge l 0
  have lp := depth_loop l hl l 0 0 rfl (by omega) (by omega) hr
  clear hok hr
  rw [dpC]
  exact gF Tryz.func72 [rG, rG, rS [(2, .int (l.length : Int))], oL [.keep [(3, []), (7, []), (8, []), (9, [])]] lp, rS [(1, .int (dpL l 0 + 1))]] (qN Expr.encs l (ob1 (lp) (qw (dpL l 0 + 1) ob0)))
end Go.Ae
namespace Go.Ae
open Go.Proofs
def onlyC : Expr → Bool → Bool → Bool → Int → Bool
 | .mk _ n v (.mk tk tv tl) l, bn, bv, bt, g => (bn || decide (n = 0)) && (bv || decide (v = 0)) && (bt || (decide (tk = 0) && decide (tv = 0) && decide ((tl.length : Int) = 0))) && (decide (g < 0) || decide ((l.length : Int) = g))
theorem only_ (k n v tk tv : Int) (tl : List Ty) (l : List Expr) (bn bv bt : Bool) (g : Int) : SC 94 [.agg (Expr.mk k n v (.mk tk tv tl) l).enc, B bn, B bv, B bt, I g] [] (B (onlyC (.mk k n v (.mk tk tv tl) l) bn bv bt g)) [] := by
 cases bn <;> cases bv <;> cases bt
 ·rcases bsp (n) (0) with ⟨hb1, hb1'⟩ | ⟨hb1, hb1'⟩
  ·skip
   rcases bsp (v) (0) with ⟨hb2, hb2'⟩ | ⟨hb2, hb2'⟩
   ·skip
    rcases bsp (tk) (0) with ⟨hb3, hb3'⟩ | ⟨hb3, hb3'⟩
    ·skip
     rcases bsp (tv) (0) with ⟨hb4, hb4'⟩ | ⟨hb4, hb4'⟩
     ·skip
      rcases bsp ((↑(List.length tl) : Int)) (0) with ⟨hb5, hb5'⟩ | ⟨hb5, hb5'⟩
      ·skip
       rcases dsp (g < 0) with ⟨hb6, hb6'⟩ | ⟨hb6, hb6'⟩
       ·skip
        exact gR Tryz.func94 [rG, rS [(4, .bit true), (11, .bit true), (20, .bit true), (25, .bit true), (31, .int (tl.length : Int)), (32, .bit true), (38, .bit true)]] [] [] (B true) ([]) (qV (n == 0) (qV (v == 0) (qV (tk == 0) (qV (tv == 0) (qN Ty.encs tl (qV ((tl.length : Int) == 0) (qT (g < 0) ob0))))))) (by (simp_all [onlyC])) (by first | rfl | (simp [*]; done))
       ·skip
        rcases bsp ((↑(List.length l) : Int)) (g) with ⟨hb7, hb7'⟩ | ⟨hb7, hb7'⟩
        ·skip
         exact gR Tryz.func94 [rG, rS [(4, .bit true), (11, .bit true), (20, .bit true), (25, .bit true), (31, .int (tl.length : Int)), (32, .bit true), (38, .bit false), (42, .int (l.length : Int)), (44, .bit true)]] [] [] (B true) ([]) (qV (n == 0) (qV (v == 0) (qV (tk == 0) (qV (tv == 0) (qN Ty.encs tl (qV ((tl.length : Int) == 0) (qF (g < 0) (qN Expr.encs l (qV ((l.length : Int) == g) ob0))))))))) (by (simp_all [onlyC])) (by first | rfl | (simp [*]; done))
        ·skip
         exact gR Tryz.func94 [rG, rS [(4, .bit true), (11, .bit true), (20, .bit true), (25, .bit true), (31, .int (tl.length : Int)), (32, .bit true), (38, .bit false), (42, .int (l.length : Int)), (44, .bit false)]] [] [] (B false) ([]) (qV (n == 0) (qV (v == 0) (qV (tk == 0) (qV (tv == 0) (qN Ty.encs tl (qV ((tl.length : Int) == 0) (qF (g < 0) (qN Expr.encs l (qU ((l.length : Int) == g) ob0))))))))) (by (simp_all [onlyC])) (by first | rfl | (simp [*]; done))
      ·skip
       exact gR Tryz.func94 [rG, rS [(4, .bit true), (11, .bit true), (20, .bit true), (25, .bit true), (31, .int (tl.length : Int)), (32, .bit false)]] [] [] (B false) ([]) (qV (n == 0) (qV (v == 0) (qV (tk == 0) (qV (tv == 0) (qN Ty.encs tl (qU ((tl.length : Int) == 0) ob0)))))) (by (simp_all [onlyC])) (by first | rfl | (simp [*]; done))
     ·skip
      exact gR Tryz.func94 [rG, rS [(4, .bit true), (11, .bit true), (20, .bit true), (25, .bit false)]] [] [] (B false) ([]) (qV (n == 0) (qV (v == 0) (qV (tk == 0) (qU (tv == 0) ob0)))) (by (simp_all [onlyC])) (by first | rfl | (simp [*]; done))
    ·skip
     exact gR Tryz.func94 [rG, rS [(4, .bit true), (11, .bit true), (20, .bit false)]] [] [] (B false) ([]) (qV (n == 0) (qV (v == 0) (qU (tk == 0) ob0))) (by (simp_all [onlyC])) (by first | rfl | (simp [*]; done))
   ·skip
    exact gR Tryz.func94 [rG, rS [(4, .bit true), (11, .bit false)]] [] [] (B false) ([]) (qV (n == 0) (qU (v == 0) ob0)) (by (simp_all [onlyC])) (by first | rfl | (simp [*]; done))
  ·skip
   exact gR Tryz.func94 [rG, rS [(4, .bit false)]] [] [] (B false) ([]) (qU (n == 0) ob0) (by (simp_all [onlyC])) (by first | rfl | (simp [*]; done))
 ·rcases bsp (n) (0) with ⟨hb1, hb1'⟩ | ⟨hb1, hb1'⟩
  ·skip
   rcases bsp (v) (0) with ⟨hb2, hb2'⟩ | ⟨hb2, hb2'⟩
   ·skip
    rcases dsp (g < 0) with ⟨hb3, hb3'⟩ | ⟨hb3, hb3'⟩
    ·skip
     exact gR Tryz.func94 [rG, rS [(4, .bit true), (11, .bit true), (38, .bit true)]] [] [] (B true) ([]) (qV (n == 0) (qV (v == 0) (qT (g < 0) ob0))) (by (simp_all [onlyC])) (by first | rfl | (simp [*]; done))
    ·skip
     rcases bsp ((↑(List.length l) : Int)) (g) with ⟨hb4, hb4'⟩ | ⟨hb4, hb4'⟩
     ·skip
      exact gR Tryz.func94 [rG, rS [(4, .bit true), (11, .bit true), (38, .bit false), (42, .int (l.length : Int)), (44, .bit true)]] [] [] (B true) ([]) (qV (n == 0) (qV (v == 0) (qF (g < 0) (qN Expr.encs l (qV ((l.length : Int) == g) ob0))))) (by (simp_all [onlyC])) (by first | rfl | (simp [*]; done))
     ·skip
      exact gR Tryz.func94 [rG, rS [(4, .bit true), (11, .bit true), (38, .bit false), (42, .int (l.length : Int)), (44, .bit false)]] [] [] (B false) ([]) (qV (n == 0) (qV (v == 0) (qF (g < 0) (qN Expr.encs l (qU ((l.length : Int) == g) ob0))))) (by (simp_all [onlyC])) (by first | rfl | (simp [*]; done))
   ·skip
    exact gR Tryz.func94 [rG, rS [(4, .bit true), (11, .bit false)]] [] [] (B false) ([]) (qV (n == 0) (qU (v == 0) ob0)) (by (simp_all [onlyC])) (by first | rfl | (simp [*]; done))
  ·skip
   exact gR Tryz.func94 [rG, rS [(4, .bit false)]] [] [] (B false) ([]) (qU (n == 0) ob0) (by (simp_all [onlyC])) (by first | rfl | (simp [*]; done))
 ·rcases bsp (n) (0) with ⟨hb1, hb1'⟩ | ⟨hb1, hb1'⟩
  ·skip
   rcases bsp (tk) (0) with ⟨hb2, hb2'⟩ | ⟨hb2, hb2'⟩
   ·skip
    rcases bsp (tv) (0) with ⟨hb3, hb3'⟩ | ⟨hb3, hb3'⟩
    ·skip
     rcases bsp ((↑(List.length tl) : Int)) (0) with ⟨hb4, hb4'⟩ | ⟨hb4, hb4'⟩
     ·skip
      rcases dsp (g < 0) with ⟨hb5, hb5'⟩ | ⟨hb5, hb5'⟩
      ·skip
       exact gR Tryz.func94 [rG, rS [(4, .bit true), (20, .bit true), (25, .bit true), (31, .int (tl.length : Int)), (32, .bit true), (38, .bit true)]] [] [] (B true) ([]) (qV (n == 0) (qV (tk == 0) (qV (tv == 0) (qN Ty.encs tl (qV ((tl.length : Int) == 0) (qT (g < 0) ob0)))))) (by (simp_all [onlyC])) (by first | rfl | (simp [*]; done))
      ·skip
       rcases bsp ((↑(List.length l) : Int)) (g) with ⟨hb6, hb6'⟩ | ⟨hb6, hb6'⟩
       ·skip
        exact gR Tryz.func94 [rG, rS [(4, .bit true), (20, .bit true), (25, .bit true), (31, .int (tl.length : Int)), (32, .bit true), (38, .bit false), (42, .int (l.length : Int)), (44, .bit true)]] [] [] (B true) ([]) (qV (n == 0) (qV (tk == 0) (qV (tv == 0) (qN Ty.encs tl (qV ((tl.length : Int) == 0) (qF (g < 0) (qN Expr.encs l (qV ((l.length : Int) == g) ob0)))))))) (by (simp_all [onlyC])) (by first | rfl | (simp [*]; done))
       ·skip
        exact gR Tryz.func94 [rG, rS [(4, .bit true), (20, .bit true), (25, .bit true), (31, .int (tl.length : Int)), (32, .bit true), (38, .bit false), (42, .int (l.length : Int)), (44, .bit false)]] [] [] (B false) ([]) (qV (n == 0) (qV (tk == 0) (qV (tv == 0) (qN Ty.encs tl (qV ((tl.length : Int) == 0) (qF (g < 0) (qN Expr.encs l (qU ((l.length : Int) == g) ob0)))))))) (by (simp_all [onlyC])) (by first | rfl | (simp [*]; done))
     ·skip
      exact gR Tryz.func94 [rG, rS [(4, .bit true), (20, .bit true), (25, .bit true), (31, .int (tl.length : Int)), (32, .bit false)]] [] [] (B false) ([]) (qV (n == 0) (qV (tk == 0) (qV (tv == 0) (qN Ty.encs tl (qU ((tl.length : Int) == 0) ob0))))) (by (simp_all [onlyC])) (by first | rfl | (simp [*]; done))
    ·skip
     exact gR Tryz.func94 [rG, rS [(4, .bit true), (20, .bit true), (25, .bit false)]] [] [] (B false) ([]) (qV (n == 0) (qV (tk == 0) (qU (tv == 0) ob0))) (by (simp_all [onlyC])) (by first | rfl | (simp [*]; done))
   ·skip
    exact gR Tryz.func94 [rG, rS [(4, .bit true), (20, .bit false)]] [] [] (B false) ([]) (qV (n == 0) (qU (tk == 0) ob0)) (by (simp_all [onlyC])) (by first | rfl | (simp [*]; done))
  ·skip
   exact gR Tryz.func94 [rG, rS [(4, .bit false)]] [] [] (B false) ([]) (qU (n == 0) ob0) (by (simp_all [onlyC])) (by first | rfl | (simp [*]; done))
 ·rcases bsp (n) (0) with ⟨hb1, hb1'⟩ | ⟨hb1, hb1'⟩
  ·skip
   rcases dsp (g < 0) with ⟨hb2, hb2'⟩ | ⟨hb2, hb2'⟩
   ·skip
    exact gR Tryz.func94 [rG, rS [(4, .bit true), (38, .bit true)]] [] [] (B true) ([]) (qV (n == 0) (qT (g < 0) ob0)) (by (simp_all [onlyC])) (by first | rfl | (simp [*]; done))
   ·skip
    rcases bsp ((↑(List.length l) : Int)) (g) with ⟨hb3, hb3'⟩ | ⟨hb3, hb3'⟩
    ·skip
     exact gR Tryz.func94 [rG, rS [(4, .bit true), (38, .bit false), (42, .int (l.length : Int)), (44, .bit true)]] [] [] (B true) ([]) (qV (n == 0) (qF (g < 0) (qN Expr.encs l (qV ((l.length : Int) == g) ob0)))) (by (simp_all [onlyC])) (by first | rfl | (simp [*]; done))
    ·skip
     exact gR Tryz.func94 [rG, rS [(4, .bit true), (38, .bit false), (42, .int (l.length : Int)), (44, .bit false)]] [] [] (B false) ([]) (qV (n == 0) (qF (g < 0) (qN Expr.encs l (qU ((l.length : Int) == g) ob0)))) (by (simp_all [onlyC])) (by first | rfl | (simp [*]; done))
  ·skip
   exact gR Tryz.func94 [rG, rS [(4, .bit false)]] [] [] (B false) ([]) (qU (n == 0) ob0) (by (simp_all [onlyC])) (by first | rfl | (simp [*]; done))
 ·rcases bsp (v) (0) with ⟨hb1, hb1'⟩ | ⟨hb1, hb1'⟩
  ·skip
   rcases bsp (tk) (0) with ⟨hb2, hb2'⟩ | ⟨hb2, hb2'⟩
   ·skip
    rcases bsp (tv) (0) with ⟨hb3, hb3'⟩ | ⟨hb3, hb3'⟩
    ·skip
     rcases bsp ((↑(List.length tl) : Int)) (0) with ⟨hb4, hb4'⟩ | ⟨hb4, hb4'⟩
     ·skip
      rcases dsp (g < 0) with ⟨hb5, hb5'⟩ | ⟨hb5, hb5'⟩
      ·skip
       exact gR Tryz.func94 [rG, rS [(11, .bit true), (20, .bit true), (25, .bit true), (31, .int (tl.length : Int)), (32, .bit true), (38, .bit true)]] [] [] (B true) ([]) (qV (v == 0) (qV (tk == 0) (qV (tv == 0) (qN Ty.encs tl (qV ((tl.length : Int) == 0) (qT (g < 0) ob0)))))) (by (simp_all [onlyC])) (by first | rfl | (simp [*]; done))
      ·skip
       rcases bsp ((↑(List.length l) : Int)) (g) with ⟨hb6, hb6'⟩ | ⟨hb6, hb6'⟩
       ·skip
        exact gR Tryz.func94 [rG, rS [(11, .bit true), (20, .bit true), (25, .bit true), (31, .int (tl.length : Int)), (32, .bit true), (38, .bit false), (42, .int (l.length : Int)), (44, .bit true)]] [] [] (B true) ([]) (qV (v == 0) (qV (tk == 0) (qV (tv == 0) (qN Ty.encs tl (qV ((tl.length : Int) == 0) (qF (g < 0) (qN Expr.encs l (qV ((l.length : Int) == g) ob0)))))))) (by (simp_all [onlyC])) (by first | rfl | (simp [*]; done))
       ·skip
        exact gR Tryz.func94 [rG, rS [(11, .bit true), (20, .bit true), (25, .bit true), (31, .int (tl.length : Int)), (32, .bit true), (38, .bit false), (42, .int (l.length : Int)), (44, .bit false)]] [] [] (B false) ([]) (qV (v == 0) (qV (tk == 0) (qV (tv == 0) (qN Ty.encs tl (qV ((tl.length : Int) == 0) (qF (g < 0) (qN Expr.encs l (qU ((l.length : Int) == g) ob0)))))))) (by (simp_all [onlyC])) (by first | rfl | (simp [*]; done))
     ·skip
      exact gR Tryz.func94 [rG, rS [(11, .bit true), (20, .bit true), (25, .bit true), (31, .int (tl.length : Int)), (32, .bit false)]] [] [] (B false) ([]) (qV (v == 0) (qV (tk == 0) (qV (tv == 0) (qN Ty.encs tl (qU ((tl.length : Int) == 0) ob0))))) (by (simp_all [onlyC])) (by first | rfl | (simp [*]; done))
    ·skip
     exact gR Tryz.func94 [rG, rS [(11, .bit true), (20, .bit true), (25, .bit false)]] [] [] (B false) ([]) (qV (v == 0) (qV (tk == 0) (qU (tv == 0) ob0))) (by (simp_all [onlyC])) (by first | rfl | (simp [*]; done))
   ·skip
    exact gR Tryz.func94 [rG, rS [(11, .bit true), (20, .bit false)]] [] [] (B false) ([]) (qV (v == 0) (qU (tk == 0) ob0)) (by (simp_all [onlyC])) (by first | rfl | (simp [*]; done))
  ·skip
   exact gR Tryz.func94 [rG, rS [(11, .bit false)]] [] [] (B false) ([]) (qU (v == 0) ob0) (by (simp_all [onlyC])) (by first | rfl | (simp [*]; done))
 ·rcases bsp (v) (0) with ⟨hb1, hb1'⟩ | ⟨hb1, hb1'⟩
  ·skip
   rcases dsp (g < 0) with ⟨hb2, hb2'⟩ | ⟨hb2, hb2'⟩
   ·skip
    exact gR Tryz.func94 [rG, rS [(11, .bit true), (38, .bit true)]] [] [] (B true) ([]) (qV (v == 0) (qT (g < 0) ob0)) (by (simp_all [onlyC])) (by first | rfl | (simp [*]; done))
   ·skip
    rcases bsp ((↑(List.length l) : Int)) (g) with ⟨hb3, hb3'⟩ | ⟨hb3, hb3'⟩
    ·skip
     exact gR Tryz.func94 [rG, rS [(11, .bit true), (38, .bit false), (42, .int (l.length : Int)), (44, .bit true)]] [] [] (B true) ([]) (qV (v == 0) (qF (g < 0) (qN Expr.encs l (qV ((l.length : Int) == g) ob0)))) (by (simp_all [onlyC])) (by first | rfl | (simp [*]; done))
    ·skip
     exact gR Tryz.func94 [rG, rS [(11, .bit true), (38, .bit false), (42, .int (l.length : Int)), (44, .bit false)]] [] [] (B false) ([]) (qV (v == 0) (qF (g < 0) (qN Expr.encs l (qU ((l.length : Int) == g) ob0)))) (by (simp_all [onlyC])) (by first | rfl | (simp [*]; done))
  ·skip
   exact gR Tryz.func94 [rG, rS [(11, .bit false)]] [] [] (B false) ([]) (qU (v == 0) ob0) (by (simp_all [onlyC])) (by first | rfl | (simp [*]; done))
 ·rcases bsp (tk) (0) with ⟨hb1, hb1'⟩ | ⟨hb1, hb1'⟩
  ·skip
   rcases bsp (tv) (0) with ⟨hb2, hb2'⟩ | ⟨hb2, hb2'⟩
   ·skip
    rcases bsp ((↑(List.length tl) : Int)) (0) with ⟨hb3, hb3'⟩ | ⟨hb3, hb3'⟩
    ·skip
     rcases dsp (g < 0) with ⟨hb4, hb4'⟩ | ⟨hb4, hb4'⟩
     ·skip
      exact gR Tryz.func94 [rG, rS [(20, .bit true), (25, .bit true), (31, .int (tl.length : Int)), (32, .bit true), (38, .bit true)]] [] [] (B true) ([]) (qV (tk == 0) (qV (tv == 0) (qN Ty.encs tl (qV ((tl.length : Int) == 0) (qT (g < 0) ob0))))) (by (simp_all [onlyC])) (by first | rfl | (simp [*]; done))
     ·skip
      rcases bsp ((↑(List.length l) : Int)) (g) with ⟨hb5, hb5'⟩ | ⟨hb5, hb5'⟩
      ·skip
       exact gR Tryz.func94 [rG, rS [(20, .bit true), (25, .bit true), (31, .int (tl.length : Int)), (32, .bit true), (38, .bit false), (42, .int (l.length : Int)), (44, .bit true)]] [] [] (B true) ([]) (qV (tk == 0) (qV (tv == 0) (qN Ty.encs tl (qV ((tl.length : Int) == 0) (qF (g < 0) (qN Expr.encs l (qV ((l.length : Int) == g) ob0))))))) (by (simp_all [onlyC])) (by first | rfl | (simp [*]; done))
      ·skip
       exact gR Tryz.func94 [rG, rS [(20, .bit true), (25, .bit true), (31, .int (tl.length : Int)), (32, .bit true), (38, .bit false), (42, .int (l.length : Int)), (44, .bit false)]] [] [] (B false) ([]) (qV (tk == 0) (qV (tv == 0) (qN Ty.encs tl (qV ((tl.length : Int) == 0) (qF (g < 0) (qN Expr.encs l (qU ((l.length : Int) == g) ob0))))))) (by (simp_all [onlyC])) (by first | rfl | (simp [*]; done))
    ·skip
     exact gR Tryz.func94 [rG, rS [(20, .bit true), (25, .bit true), (31, .int (tl.length : Int)), (32, .bit false)]] [] [] (B false) ([]) (qV (tk == 0) (qV (tv == 0) (qN Ty.encs tl (qU ((tl.length : Int) == 0) ob0)))) (by (simp_all [onlyC])) (by first | rfl | (simp [*]; done))
   ·skip
    exact gR Tryz.func94 [rG, rS [(20, .bit true), (25, .bit false)]] [] [] (B false) ([]) (qV (tk == 0) (qU (tv == 0) ob0)) (by (simp_all [onlyC])) (by first | rfl | (simp [*]; done))
  ·skip
   exact gR Tryz.func94 [rG, rS [(20, .bit false)]] [] [] (B false) ([]) (qU (tk == 0) ob0) (by (simp_all [onlyC])) (by first | rfl | (simp [*]; done))
 ·rcases dsp (g < 0) with ⟨hb1, hb1'⟩ | ⟨hb1, hb1'⟩
  ·skip
   exact gR Tryz.func94 [rG, rS [(38, .bit true)]] [] [] (B true) ([]) (qT (g < 0) ob0) (by (simp_all [onlyC])) (by first | rfl | (simp [*]; done))
  ·skip
   rcases bsp ((↑(List.length l) : Int)) (g) with ⟨hb2, hb2'⟩ | ⟨hb2, hb2'⟩
   ·skip
    exact gR Tryz.func94 [rG, rS [(38, .bit false), (42, .int (l.length : Int)), (44, .bit true)]] [] [] (B true) ([]) (qF (g < 0) (qN Expr.encs l (qV ((l.length : Int) == g) ob0))) (by (simp_all [onlyC])) (by first | rfl | (simp [*]; done))
   ·skip
    exact gR Tryz.func94 [rG, rS [(38, .bit false), (42, .int (l.length : Int)), (44, .bit false)]] [] [] (B false) ([]) (qF (g < 0) (qN Expr.encs l (qU ((l.length : Int) == g) ob0))) (by (simp_all [onlyC])) (by first | rfl | (simp [*]; done))
def emptyC : Ty → Bool
 | .mk k v l => decide (k = 0) && decide (v = 0) && decide ((l.length : Int) = 0)
theorem empty_ (k v : Int) (l : List Ty) : SC 97 [.agg (Ty.mk k v l).enc] [] (B (emptyC (.mk k v l))) [] := by
 rcases bsp (k) (0) with ⟨hb1, hb1'⟩ | ⟨hb1, hb1'⟩
 ·skip
  rcases bsp (v) (0) with ⟨hb2, hb2'⟩ | ⟨hb2, hb2'⟩
  ·skip
   rcases bsp ((↑(List.length l) : Int)) (0) with ⟨hb3, hb3'⟩ | ⟨hb3, hb3'⟩
   ·skip
    exact gR Tryz.func97 [rG, rS [(2, .bit true), (6, .bit true), (11, .int (l.length : Int)), (12, .bit true)]] [] [] (B true) ([]) (qV (k == 0) (qV (v == 0) (qN Ty.encs l (qV ((l.length : Int) == 0) ob0)))) (by (simp_all [emptyC])) (by first | rfl | (simp [*]; done))
   ·skip
    exact gR Tryz.func97 [rG, rS [(2, .bit true), (6, .bit true), (11, .int (l.length : Int)), (12, .bit false)]] [] [] (B false) ([]) (qV (k == 0) (qV (v == 0) (qN Ty.encs l (qU ((l.length : Int) == 0) ob0)))) (by (simp_all [emptyC])) (by first | rfl | (simp [*]; done))
  ·skip
   exact gR Tryz.func97 [rG, rS [(2, .bit true), (6, .bit false)]] [] [] (B false) ([]) (qV (k == 0) (qU (v == 0) ob0)) (by (simp_all [emptyC])) (by first | rfl | (simp [*]; done))
 ·skip
  exact gR Tryz.func97 [rG, rS [(2, .bit false)]] [] [] (B false) ([]) (qU (k == 0) ob0) (by (simp_all [emptyC])) (by first | rfl | (simp [*]; done))
theorem fun_ (a b : Ty) : SC 77 [.agg a.enc, .agg b.enc] [] (.agg (Ty.mk 1 0 [a, b]).enc) [] := by
 obtain ⟨ka, va, la⟩ := a
 obtain ⟨kb, vb, lb⟩ := b
 exact gK Tryz.func77 [rG, rG] [.tidO 2 [none, none, some 3]] [none, none, some 3] ob0
theorem inside_ (a : Ty) (us : List Ty) (h : us.length ≤ 1000) : SC 78 [.agg a.enc, .sl 3 (Ty.encs us) false] [] (.sl 3 (Ty.encs (a :: us)) false) [] := by
 obtain ⟨ka, va, la⟩ := a
 exact gK Tryz.func78 [rG, rG] [] [some 3] (q (Fits (1 + List.length (Ty.encs us)) 1 40) ob0)
theorem encs_append : ∀ (l r : List Ty), Ty.encs (l ++ r) = Ty.encs l ++ Ty.encs r
 | [], r => rfl
 | t :: l, r => by simp [Ty.encs, encs_append l r]
theorem under_ (a : Ty) (us : List Ty) (h : us.length ≤ 1000) : SC 102 [.sl 3 (Ty.encs us) false, .agg a.enc] [] (.sl 3 (Ty.encs (us ++ [a])) false) [] := by
 obtain ⟨ka, va, la⟩ := a
 exact gR Tryz.func102 [rG, rS [(1, .int (us.length : Int)), (2, .int ((us.length : Int) + 1)), (3, .nat 0)]] [.frz 1] [some 3] (.sl 3 ([] ++ Ty.encs us ++ [(xT ka va la)]) false) ([]) (qN Ty.encs us (qw ((us.length : Int) + 1) (qI 0 (q ((0 : Int) ≤ (us.length : Int) + 1) (q (((us.length : Int) + 1) * (40 : Int) ≤ 281474976710656) (q (Fits (0 + List.length (Ty.encs us)) 0 40) (q (Fits (List.length ([] ++ Ty.encs us) + 1) (List.length ([] ++ Ty.encs us)) 40) ob0))))))) (by (rw [encs_append]; rfl)) (by first | rfl | (simp [*]; done))
end Go.Ae

/- The data: types, expressions, programs, and how they lie in memory. .. (AeED0, AeEK0, AeEF1, AeEF2, AeEF3, AeEF4, AeEF5, AeEF7, AeEF8) -/
import Derived.Test.YtmnnmjbjcdjglaaT4
import Derived.Test.YtmnnmjbjcdjglaaProg
set_option linter.unusedSimpArgs false
set_option linter.unusedVariables false
/- The data: types, expressions, programs, and how they lie in memory. -/
namespace Go.Ae

abbrev I (n : Int) : AV := .sc (.int .i64 n)
abbrev B (b : Bool) : AV := .sc (.bool b)
abbrev S (s : ByteArray) : AV := .sc (.string s)

inductive Ty where
  | mk (kind vals : Int) (args : List Ty)

noncomputable instance : DecidableEq Ty := fun _ _ => Classical.propDecidable _

mutual
def Ty.enc : Ty → List AV
  | .mk k v l => [I k, I v, .sl 3 (Ty.encs l) false]
def Ty.encs : List Ty → List (List AV)
  | [] => []
  | t :: ts => t.enc :: Ty.encs ts
end

@[simp] theorem Ty.encs_length : ∀ l : List Ty, (Ty.encs l).length = l.length
  | [] => rfl
  | _ :: l => by simp [Ty.encs, Ty.encs_length l]

theorem Ty.encs_get : ∀ (l : List Ty) (i : Nat), (Ty.encs l)[i]? = (l[i]?).map Ty.enc
  | [], i => by simp [Ty.encs]
  | t :: l, 0 => by simp [Ty.encs]
  | t :: l, i + 1 => by simp [Ty.encs, Ty.encs_get l i]

inductive Expr where
  | mk (kind n vals : Int) (ty : Ty) (args : List Expr)

noncomputable instance : DecidableEq Expr := fun _ _ => Classical.propDecidable _

mutual
def Expr.enc : Expr → List AV
  | .mk k n v (.mk tk tv tl) l => [I k, I n, I v, I tk, I tv, .sl 3 (Ty.encs tl) false, .sl 7 (Expr.encs l) false]
def Expr.encs : List Expr → List (List AV)
  | [] => []
  | e :: es => e.enc :: Expr.encs es
end

@[simp] theorem Expr.encs_length : ∀ l : List Expr, (Expr.encs l).length = l.length
  | [] => rfl
  | _ :: l => by simp [Expr.encs, Expr.encs_length l]

theorem Expr.encs_get : ∀ (l : List Expr) (i : Nat), (Expr.encs l)[i]? = (l[i]?).map Expr.enc
  | [], i => by simp [Expr.encs]
  | t :: l, 0 => by simp [Expr.encs]
  | t :: l, i + 1 => by simp [Expr.encs, Expr.encs_get l i]

/-- A number of Go's. -/
def ir (n : Int) : Prop := -9223372036854775808 ≤ n ∧ n ≤ 9223372036854775807

mutual
def Ty.ok : Ty → Prop
  | .mk k v l => ir k ∧ ir v ∧ l.length ≤ 281474976710656 ∧ Ty.oks l
def Ty.oks : List Ty → Prop
  | [] => True
  | t :: ts => t.ok ∧ Ty.oks ts
end

mutual
def Expr.ok : Expr → Prop
  | .mk k n v t l => ir k ∧ ir n ∧ ir v ∧ t.ok ∧ l.length ≤ 281474976710656 ∧ Expr.oks l
def Expr.oks : List Expr → Prop
  | [] => True
  | t :: ts => t.ok ∧ Expr.oks ts
end

theorem Ty.oks_mem : ∀ {l : List Ty}, Ty.oks l → ∀ t ∈ l, t.ok
  | [], _, t, h => by simp at h
  | x :: l, hx, t, h => by
    simp only [Ty.oks] at hx
    rcases List.mem_cons.1 h with rfl | h
    · exact hx.1
    · exact Ty.oks_mem hx.2 t h
theorem Expr.oks_mem : ∀ {l : List Expr}, Expr.oks l → ∀ t ∈ l, t.ok
  | [], _, t, h => by simp at h
  | x :: l, hx, t, h => by
    simp only [Expr.oks] at hx
    rcases List.mem_cons.1 h with rfl | h
    · exact hx.1
    · exact Expr.oks_mem hx.2 t h

theorem drop_get {α : Type} {l : List α} {i : Nat} {x : α} {r : List α} (h : l.drop i = x :: r) : l[i]? = some x := by
  rw [← List.head?_drop, h]; rfl
theorem drop_next {α : Type} {l : List α} {i : Nat} {x : α} {r : List α} (h : l.drop i = x :: r) : l.drop (i + 1) = r := by
  rw [← List.tail_drop, h]; rfl
theorem drop_lt {α : Type} {l : List α} {i : Nat} {x : α} {r : List α} (h : l.drop i = x :: r) : i < l.length := by
  have := congrArg List.length h; simp at this; omega
theorem drop_end {α : Type} {l : List α} {i : Nat} (h : l.drop i = []) : l.length ≤ i := by
  have := congrArg List.length h; simp at this; omega

end Go.Ae

/- Which cells of a type are slices, and how many cells their elements have. -/
namespace Go.Ae

def KT : Kinds := [
  (26, [none, none, some 3]), (24, [some 3]), (27, [some 7]), (22, [some 1]), (32, [some 1]), (23, [some 14]),
  (29, [none, none, none, none, none, some 3, some 7]),
  (69, [none, none, none, some 3, none, none, some 3, none, none, none, none, none, some 3, some 7]),
  (31, [some 1, some 14, none, none, none, none, none, some 3, some 7]),
  (36, [some 1, none, none, none]), (46, [some 4]), (47, [some 1]),
  (89, [some 10]), (91, [none, none, none, none, none, none, none, some 3, some 7, some 10]),
  (92, [some 19]), (108, [some 7])]

end Go.Ae

/- Equality of types. -/
namespace Go.Ae
open Go.Proofs

theorem eqTy_loop_0 (k v k2 v2 : Int) (us ws : List Ty) (hn : us.length ≤ 281474976710656) : ∀ (us' ws' : List Ty) (i : Nat), us.drop i = us' → ws.drop i = ws' → us'.length = ws'.length →
    (∀ x ∈ us', ∀ y, SoundCall Try.prog 73 [.agg x.enc, .agg y.enc] [] (B (decide (x = y))) []) →
    Lp Try.prog 46 0 (loopN Try.f73 0) ⟨lookT [(2, .lp 0 0), (3, .lp 1 0), (29, I (us.length : Int)), (30, I (i : Int))], [.cells [I k, I v, .sl 3 (Ty.encs us) false] [], .cells [I k2, I v2, .sl 3 (Ty.encs ws) false] []]⟩
      (if us' = ws' then .exit 0 else .ret) (if us' = ws' then ⟨lookT [], []⟩ else ⟨lookT [(4, B false)], []⟩)
  | [], ws', i, h1, h2, hl, _ => by
    cases ws' with
    | cons y ws' => simp at hl
    | nil =>
      have hi := drop_end h1
      rw [if_pos rfl, if_pos rfl]
      exact Lp.last KT [.reg [] [(0, .bit false)]] [.keep []] (by kernel_rfl) (q (decide ((↑i : Int) < (↑(List.length us) : Int)) = false) ob0) (by intro h; cases h)
  | .mk k1 v1 xs :: us', ws', i, h1, h2, hl, hs => by
    cases ws' with
    | nil => simp at hl
    | cons y ws' =>
      obtain ⟨k3, v3, ys⟩ := y
      have hi := drop_lt h1
      have hx : (Ty.encs us)[i]? = some (Ty.mk k1 v1 xs).enc := by rw [Ty.encs_get, drop_get h1]; rfl
      have hy : (Ty.encs ws)[i]? = some (Ty.mk k3 v3 ys).enc := by rw [Ty.encs_get, drop_get h2]; rfl
      have hc := hs (.mk k1 v1 xs) (by simp) (.mk k3 v3 ys)
      have ih := eqTy_loop_0 k v k2 v2 us ws hn us' ws' (i + 1) (drop_next h1) (drop_next h2) (by simpa using hl) (fun x hx => hs x (by simp [hx]))
      simp only [Int.natCast_add] at ih
      clear hs h1 h2
      by_cases he : Ty.mk k1 v1 xs = Ty.mk k3 v3 ys
      · rw [decide_eq_true he] at hc
        simp only [he, List.cons.injEq, true_and]
        exact Lp.next KT [.reg [] [(0, .bit true)], .reg [] [], .reg [] [(3, .row i (Ty.enc (Ty.mk k1 v1 xs))), (8, .row i (Ty.enc (Ty.mk k3 v3 ys))), (10, .call (B true) [])], .reg [] [(0, .int ((↑i : Int) + 1))]] [.keep [(2, []), (3, []), (29, []), (30, [])]] (by kernel_rfl) (q (decide ((↑i : Int) < (↑(List.length us) : Int)) = true) (q ((↑i : Int) = (↑i : Int)) (q ((Ty.encs us)[i]? = some (Ty.enc (Ty.mk k1 v1 xs))) (q ((↑i : Int) = (↑i : Int)) (q ((Ty.encs ws)[i]? = some (Ty.enc (Ty.mk k3 v3 ys))) (ob1 (hc) (qw ((↑i : Int) + 1) ob0))))))) (ih)
      · rw [decide_eq_false he] at hc
        simp only [List.cons.injEq, he, false_and, if_false]
        clear ih
        exact Lp.last KT [.reg [] [(0, .bit true)], .reg [] [], .reg [] [(3, .row i (Ty.enc (Ty.mk k1 v1 xs))), (8, .row i (Ty.enc (Ty.mk k3 v3 ys))), (10, .call (B false) [])], .reg [] []] [.keep [(4, [])]] (by kernel_rfl) (q (decide ((↑i : Int) < (↑(List.length us) : Int)) = true) (q ((↑i : Int) = (↑i : Int)) (q ((Ty.encs us)[i]? = some (Ty.enc (Ty.mk k1 v1 xs))) (q ((↑i : Int) = (↑i : Int)) (q ((Ty.encs ws)[i]? = some (Ty.enc (Ty.mk k3 v3 ys))) (ob1 (hc) ob0)))))) (by intro h; cases h)

theorem eqTy_0 : ∀ (a b : Ty), a.ok → SoundCall Try.prog 73 [.agg a.enc, .agg b.enc] [] (B (decide (a = b))) []
  | .mk k v us, .mk k2 v2 ws, hok => by
    simp only [Ty.ok] at hok
    obtain ⟨-, -, hn, hoks⟩ := hok
    have hr : ∀ x ∈ us, ∀ y, SoundCall Try.prog 73 [.agg x.enc, .agg y.enc] [] (B (decide (x = y))) [] := fun x hx y => eqTy_0 x y (Ty.oks_mem hoks x hx)
    by_cases h1 : k = k2
    · by_cases h2 : v = v2
      · by_cases h3 : us.length = ws.length
        · have hl := eqTy_loop_0 k v k2 v2 us ws hn us ws 0 rfl rfl h3 hr
          by_cases h4 : us = ws
          · simp only [if_pos h4] at hl
            exact Fn.go KT Try.func73 [.reg [] [], .reg [] [(4, .bit false), (10, .bit false), (15, .int (↑(List.length us) : Int)), (18, .int (↑(List.length ws) : Int)), (19, .bit false)], .reg [] [(2, .int (↑(List.length us) : Int))], .loop [.keep [(2, []), (3, []), (29, []), (30, [])]] (Exit.exit 0) { tm := lookT [], st := [] }, .reg [] []] [] [] (B true) ([]) (by kernel_rfl) (q ((k != k2) = false) (q ((v != v2) = false) (q ((↑(List.length (Ty.encs us)) : Int) = (↑(List.length us) : Int)) (q ((↑(List.length (Ty.encs ws)) : Int) = (↑(List.length ws) : Int)) (q (((↑(List.length us) : Int) != (↑(List.length ws) : Int)) = false) (q ((↑(List.length (Ty.encs us)) : Int) = (↑(List.length us) : Int)) (ob1 (hl) ob0)))))))
          · simp only [if_neg h4] at hl
            exact Fn.go KT Try.func73 [.reg [] [], .reg [] [(4, .bit false), (10, .bit false), (15, .int (↑(List.length us) : Int)), (18, .int (↑(List.length ws) : Int)), (19, .bit false)], .reg [] [(2, .int (↑(List.length us) : Int))], .loop [.keep [(2, []), (3, []), (29, []), (30, [])]] Exit.ret { tm := lookT [(4, B false)], st := [] }] [] [] (B false) ([]) (by kernel_rfl) (q ((k != k2) = false) (q ((v != v2) = false) (q ((↑(List.length (Ty.encs us)) : Int) = (↑(List.length us) : Int)) (q ((↑(List.length (Ty.encs ws)) : Int) = (↑(List.length ws) : Int)) (q (((↑(List.length us) : Int) != (↑(List.length ws) : Int)) = false) (q ((↑(List.length (Ty.encs us)) : Int) = (↑(List.length us) : Int)) (ob1 (hl) ob0)))))))
        · have h4 : ¬us = ws := fun h => h3 (by rw [h])
          exact Fn.go KT Try.func73 [.reg [] [], .reg [] [(4, .bit false), (10, .bit false), (15, .int (↑(List.length us) : Int)), (18, .int (↑(List.length ws) : Int)), (19, .bit true)], .reg [] []] [] [] (B false) ([]) (by kernel_rfl) (q ((k != k2) = false) (q ((v != v2) = false) (q ((↑(List.length (Ty.encs us)) : Int) = (↑(List.length us) : Int)) (q ((↑(List.length (Ty.encs ws)) : Int) = (↑(List.length ws) : Int)) (q (((↑(List.length us) : Int) != (↑(List.length ws) : Int)) = true) ob0)))))
      · exact Fn.go KT Try.func73 [.reg [] [], .reg [] [(4, .bit false), (10, .bit true)], .reg [] []] [] [] (B false) ([]) (by kernel_rfl) (q ((k != k2) = false) (q ((v != v2) = true) ob0))
    · exact Fn.go KT Try.func73 [.reg [] [], .reg [] [(4, .bit true)], .reg [] []] [] [] (B false) ([]) (by kernel_rfl) (q ((k != k2) = true) ob0)
theorem eqTy_loop_1 (k v k2 v2 : Int) (us ws : List Ty) (hn : us.length ≤ 281474976710656) : ∀ (us' ws' : List Ty) (i : Nat), us.drop i = us' → ws.drop i = ws' → us'.length = ws'.length →
    (∀ x ∈ us', ∀ y, SoundCall Try.prog 31 [.agg x.enc, .agg y.enc] [] (B (decide (x = y))) []) →
    Lp Try.prog 46 0 (loopN Try.f31 0) ⟨lookT [(2, .lp 0 0), (3, .lp 1 0), (29, I (us.length : Int)), (30, I (i : Int))], [.cells [I k, I v, .sl 3 (Ty.encs us) false] [], .cells [I k2, I v2, .sl 3 (Ty.encs ws) false] []]⟩
      (if us' = ws' then .exit 0 else .ret) (if us' = ws' then ⟨lookT [], []⟩ else ⟨lookT [(4, B false)], []⟩)
  | [], ws', i, h1, h2, hl, _ => by
    cases ws' with
    | cons y ws' => simp at hl
    | nil =>
      have hi := drop_end h1
      rw [if_pos rfl, if_pos rfl]
      exact Lp.last KT [.reg [] [(0, .bit false)]] [.keep []] (by kernel_rfl) (q (decide ((↑i : Int) < (↑(List.length us) : Int)) = false) ob0) (by intro h; cases h)
  | .mk k1 v1 xs :: us', ws', i, h1, h2, hl, hs => by
    cases ws' with
    | nil => simp at hl
    | cons y ws' =>
      obtain ⟨k3, v3, ys⟩ := y
      have hi := drop_lt h1
      have hx : (Ty.encs us)[i]? = some (Ty.mk k1 v1 xs).enc := by rw [Ty.encs_get, drop_get h1]; rfl
      have hy : (Ty.encs ws)[i]? = some (Ty.mk k3 v3 ys).enc := by rw [Ty.encs_get, drop_get h2]; rfl
      have hc := hs (.mk k1 v1 xs) (by simp) (.mk k3 v3 ys)
      have ih := eqTy_loop_1 k v k2 v2 us ws hn us' ws' (i + 1) (drop_next h1) (drop_next h2) (by simpa using hl) (fun x hx => hs x (by simp [hx]))
      simp only [Int.natCast_add] at ih
      clear hs h1 h2
      by_cases he : Ty.mk k1 v1 xs = Ty.mk k3 v3 ys
      · rw [decide_eq_true he] at hc
        simp only [he, List.cons.injEq, true_and]
        exact Lp.next KT [.reg [] [(0, .bit true)], .reg [] [], .reg [] [(3, .row i (Ty.enc (Ty.mk k1 v1 xs))), (8, .row i (Ty.enc (Ty.mk k3 v3 ys))), (10, .call (B true) [])], .reg [] [(0, .int ((↑i : Int) + 1))]] [.keep [(2, []), (3, []), (29, []), (30, [])]] (by kernel_rfl) (q (decide ((↑i : Int) < (↑(List.length us) : Int)) = true) (q ((↑i : Int) = (↑i : Int)) (q ((Ty.encs us)[i]? = some (Ty.enc (Ty.mk k1 v1 xs))) (q ((↑i : Int) = (↑i : Int)) (q ((Ty.encs ws)[i]? = some (Ty.enc (Ty.mk k3 v3 ys))) (ob1 (hc) (qw ((↑i : Int) + 1) ob0))))))) (ih)
      · rw [decide_eq_false he] at hc
        simp only [List.cons.injEq, he, false_and, if_false]
        clear ih
        exact Lp.last KT [.reg [] [(0, .bit true)], .reg [] [], .reg [] [(3, .row i (Ty.enc (Ty.mk k1 v1 xs))), (8, .row i (Ty.enc (Ty.mk k3 v3 ys))), (10, .call (B false) [])], .reg [] []] [.keep [(4, [])]] (by kernel_rfl) (q (decide ((↑i : Int) < (↑(List.length us) : Int)) = true) (q ((↑i : Int) = (↑i : Int)) (q ((Ty.encs us)[i]? = some (Ty.enc (Ty.mk k1 v1 xs))) (q ((↑i : Int) = (↑i : Int)) (q ((Ty.encs ws)[i]? = some (Ty.enc (Ty.mk k3 v3 ys))) (ob1 (hc) ob0)))))) (by intro h; cases h)

theorem eqTy_1 : ∀ (a b : Ty), a.ok → SoundCall Try.prog 31 [.agg a.enc, .agg b.enc] [] (B (decide (a = b))) []
  | .mk k v us, .mk k2 v2 ws, hok => by
    simp only [Ty.ok] at hok
    obtain ⟨-, -, hn, hoks⟩ := hok
    have hr : ∀ x ∈ us, ∀ y, SoundCall Try.prog 31 [.agg x.enc, .agg y.enc] [] (B (decide (x = y))) [] := fun x hx y => eqTy_1 x y (Ty.oks_mem hoks x hx)
    by_cases h1 : k = k2
    · by_cases h2 : v = v2
      · by_cases h3 : us.length = ws.length
        · have hl := eqTy_loop_1 k v k2 v2 us ws hn us ws 0 rfl rfl h3 hr
          by_cases h4 : us = ws
          · simp only [if_pos h4] at hl
            exact Fn.go KT Try.func31 [.reg [] [], .reg [] [(4, .bit false), (10, .bit false), (15, .int (↑(List.length us) : Int)), (18, .int (↑(List.length ws) : Int)), (19, .bit false)], .reg [] [(2, .int (↑(List.length us) : Int))], .loop [.keep [(2, []), (3, []), (29, []), (30, [])]] (Exit.exit 0) { tm := lookT [], st := [] }, .reg [] []] [] [] (B true) ([]) (by kernel_rfl) (q ((k != k2) = false) (q ((v != v2) = false) (q ((↑(List.length (Ty.encs us)) : Int) = (↑(List.length us) : Int)) (q ((↑(List.length (Ty.encs ws)) : Int) = (↑(List.length ws) : Int)) (q (((↑(List.length us) : Int) != (↑(List.length ws) : Int)) = false) (q ((↑(List.length (Ty.encs us)) : Int) = (↑(List.length us) : Int)) (ob1 (hl) ob0)))))))
          · simp only [if_neg h4] at hl
            exact Fn.go KT Try.func31 [.reg [] [], .reg [] [(4, .bit false), (10, .bit false), (15, .int (↑(List.length us) : Int)), (18, .int (↑(List.length ws) : Int)), (19, .bit false)], .reg [] [(2, .int (↑(List.length us) : Int))], .loop [.keep [(2, []), (3, []), (29, []), (30, [])]] Exit.ret { tm := lookT [(4, B false)], st := [] }] [] [] (B false) ([]) (by kernel_rfl) (q ((k != k2) = false) (q ((v != v2) = false) (q ((↑(List.length (Ty.encs us)) : Int) = (↑(List.length us) : Int)) (q ((↑(List.length (Ty.encs ws)) : Int) = (↑(List.length ws) : Int)) (q (((↑(List.length us) : Int) != (↑(List.length ws) : Int)) = false) (q ((↑(List.length (Ty.encs us)) : Int) = (↑(List.length us) : Int)) (ob1 (hl) ob0)))))))
        · have h4 : ¬us = ws := fun h => h3 (by rw [h])
          exact Fn.go KT Try.func31 [.reg [] [], .reg [] [(4, .bit false), (10, .bit false), (15, .int (↑(List.length us) : Int)), (18, .int (↑(List.length ws) : Int)), (19, .bit true)], .reg [] []] [] [] (B false) ([]) (by kernel_rfl) (q ((k != k2) = false) (q ((v != v2) = false) (q ((↑(List.length (Ty.encs us)) : Int) = (↑(List.length us) : Int)) (q ((↑(List.length (Ty.encs ws)) : Int) = (↑(List.length ws) : Int)) (q (((↑(List.length us) : Int) != (↑(List.length ws) : Int)) = true) ob0)))))
      · exact Fn.go KT Try.func31 [.reg [] [], .reg [] [(4, .bit false), (10, .bit true)], .reg [] []] [] [] (B false) ([]) (by kernel_rfl) (q ((k != k2) = false) (q ((v != v2) = true) ob0))
    · exact Fn.go KT Try.func31 [.reg [] [], .reg [] [(4, .bit true)], .reg [] []] [] [] (B false) ([]) (by kernel_rfl) (q ((k != k2) = true) ob0)

end Go.Ae

/- source: types. -/
namespace Go.Ae
open Go.Proofs

mutual
def tyC : Ty → Int → Bool × Int
  | .mk k v l, n =>
    if n - 1 < 0 then (false, n - 1)
    else if k = 0 then (decide (1 ≤ v) && decide (v ≤ 4) && decide (l.length = 0), n - 1)
    else if k = 1 then (if v = 0 ∧ l.length = 2 then tyCs l (n - 1) else (false, n - 1))
    else (false, n - 1)
def tyCs : List Ty → Int → Bool × Int
  | [], n => (true, n)
  | t :: l, n => if (tyC t n).1 = true then tyCs l (tyC t n).2 else (false, (tyC t n).2)
end

mutual
theorem tyC_bound : ∀ (t : Ty) (n : Int), 0 ≤ n → -1 ≤ (tyC t n).2 ∧ (tyC t n).2 ≤ n ∧ ((tyC t n).1 = true → 0 ≤ (tyC t n).2)
  | .mk k v l, n, h => by
    simp only [tyC]
    split
    · exact ⟨by simp; omega, by simp; omega, by simp⟩
    · split
      · exact ⟨by simp; omega, by simp; omega, fun _ => by simp; omega⟩
      · split
        · split
          · have := tyCs_bound l (n - 1) (by omega)
            exact ⟨this.1, by omega, this.2.2⟩
          · exact ⟨by simp; omega, by simp; omega, by simp⟩
        · exact ⟨by simp; omega, by simp; omega, by simp⟩
theorem tyCs_bound : ∀ (l : List Ty) (n : Int), 0 ≤ n → -1 ≤ (tyCs l n).2 ∧ (tyCs l n).2 ≤ n ∧ ((tyCs l n).1 = true → 0 ≤ (tyCs l n).2)
  | [], n, h => by exact ⟨by simp [tyCs]; omega, by simp [tyCs], by simp [tyCs]; omega⟩
  | t :: l, n, h => by
    have h1 := tyC_bound t n h
    simp only [tyCs]
    split
    · rename_i hc
      have h2 := tyCs_bound l (tyC t n).2 (h1.2.2 hc)
      exact ⟨h2.1, by omega, h2.2.2⟩
    · exact ⟨h1.1, h1.2.1, by simp⟩
end

theorem tyC_two (k v n : Int) (a b : Ty) : tyC (.mk k v [a, b]) n = if n - 1 < 0 then (false, n - 1) else if k = 0 then (false, n - 1) else if k = 1 then
    (if v = 0 then (if (tyC a (n - 1)).1 = true then tyC b (tyC a (n - 1)).2 else (false, (tyC a (n - 1)).2)) else (false, n - 1)) else (false, n - 1) := by
  rw [tyC]
  simp only [List.length_cons, List.length_nil]
  split
  · rfl
  · split
    · simp
    · split
      · by_cases hv : v = 0
        · simp only [hv, tyCs]
          simp only [true_and, if_true]
          split
          · rcases h : tyC b (tyC a (n - 1)).2 with ⟨x, y⟩
            cases x <;> rfl
          · rfl
        · simp [hv]
      · rfl

theorem ty_ : ∀ (t : Ty) (n : Int), t.ok → 0 ≤ n → n ≤ 1000 → SoundCall Try.prog 84 [.agg [B false], .agg t.enc, .lp 0 0] [.cells [I n] []] (B (tyC t n).1) [.cells [I (tyC t n).2] []]
  | .mk k v [], n, hok, h1, h2 => by
    rcases dsp (n - 1 < 0) with ⟨hb1, hb1'⟩ | ⟨hb1, hb1'⟩
    · skip
      exact Fn.go KT Try.func84 [.reg [] [], .reg [] [(3, .int (n - 1))], .reg [] [(3, .bit true)], .reg [] []] [] [] (B false) ([.cells [I (n - 1)] []]) (by kernel_rfl) (qw (n - 1) (q (decide (n - 1 < 0) = true) ob0)) (by (simp [tyC, *])) (by (simp [tyC, *]))
    · skip
      rcases bsp (k) (0) with ⟨hb2, hb2'⟩ | ⟨hb2, hb2'⟩
      · skip
        rcases dsp (1 ≤ v) with ⟨hb3, hb3'⟩ | ⟨hb3, hb3'⟩
        · skip
          rcases dsp (v ≤ 4) with ⟨hb4, hb4'⟩ | ⟨hb4, hb4'⟩
          · skip
            exact Fn.go KT Try.func84 [.reg [] [], .reg [] [(3, .int (n - 1))], .reg [] [(3, .bit false)], .reg [] [(2, .bit true)], .reg [] [(2, .bit true), (6, .bit true)]] [] [] (B true) ([.cells [I (n - 1)] []]) (by kernel_rfl) (qw (n - 1) (q (decide (n - 1 < 0) = false) (q ((k == 0) = true) (q (decide (1 ≤ v) = true) (q (decide (v ≤ 4) = true) ob0))))) (by (simp [tyC, *])) (by (simp [tyC, *]))
          · skip
            exact Fn.go KT Try.func84 [.reg [] [], .reg [] [(3, .int (n - 1))], .reg [] [(3, .bit false)], .reg [] [(2, .bit true)], .reg [] [(2, .bit true), (6, .bit false)]] [] [] (B false) ([.cells [I (n - 1)] []]) (by kernel_rfl) (qw (n - 1) (q (decide (n - 1 < 0) = false) (q ((k == 0) = true) (q (decide (1 ≤ v) = true) (q (decide (v ≤ 4) = false) ob0))))) (by (simp [tyC, *])) (by (simp [tyC, *]))
        · skip
          exact Fn.go KT Try.func84 [.reg [] [], .reg [] [(3, .int (n - 1))], .reg [] [(3, .bit false)], .reg [] [(2, .bit true)], .reg [] [(2, .bit false)]] [] [] (B false) ([.cells [I (n - 1)] []]) (by kernel_rfl) (qw (n - 1) (q (decide (n - 1 < 0) = false) (q ((k == 0) = true) (q (decide (1 ≤ v) = false) ob0)))) (by (simp [tyC, *])) (by (simp [tyC, *]))
      · skip
        rcases bsp (k) (1) with ⟨hb3, hb3'⟩ | ⟨hb3, hb3'⟩
        · skip
          rcases bsp (v) (0) with ⟨hb4, hb4'⟩ | ⟨hb4, hb4'⟩
          · skip
            exact Fn.go KT Try.func84 [.reg [] [], .reg [] [(3, .int (n - 1))], .reg [] [(3, .bit false)], .reg [] [(2, .bit false)], .reg [] [(2, .bit true)], .reg [] [(2, .bit true)]] [] [] (B false) ([.cells [I (n - 1)] []]) (by kernel_rfl) (qw (n - 1) (q (decide (n - 1 < 0) = false) (q ((k == 0) = false) (q ((k == 1) = true) (q ((v == 0) = true) ob0))))) (by (simp [tyC, *])) (by (simp [tyC, *]))
          · skip
            exact Fn.go KT Try.func84 [.reg [] [], .reg [] [(3, .int (n - 1))], .reg [] [(3, .bit false)], .reg [] [(2, .bit false)], .reg [] [(2, .bit true)], .reg [] [(2, .bit false)]] [] [] (B false) ([.cells [I (n - 1)] []]) (by kernel_rfl) (qw (n - 1) (q (decide (n - 1 < 0) = false) (q ((k == 0) = false) (q ((k == 1) = true) (q ((v == 0) = false) ob0))))) (by (simp [tyC, *])) (by (simp [tyC, *]))
        · skip
          exact Fn.go KT Try.func84 [.reg [] [], .reg [] [(3, .int (n - 1))], .reg [] [(3, .bit false)], .reg [] [(2, .bit false)], .reg [] [(2, .bit false)], .reg [] []] [] [] (B false) ([.cells [I (n - 1)] []]) (by kernel_rfl) (qw (n - 1) (q (decide (n - 1 < 0) = false) (q ((k == 0) = false) (q ((k == 1) = false) ob0)))) (by (simp [tyC, *])) (by (simp [tyC, *]))
  | .mk k v [a], n, hok, h1, h2 => by
    rcases dsp (n - 1 < 0) with ⟨hb1, hb1'⟩ | ⟨hb1, hb1'⟩
    · skip
      exact Fn.go KT Try.func84 [.reg [] [], .reg [] [(3, .int (n - 1))], .reg [] [(3, .bit true)], .reg [] []] [] [] (B false) ([.cells [I (n - 1)] []]) (by kernel_rfl) (qw (n - 1) (q (decide (n - 1 < 0) = true) ob0)) (by (simp [tyC, *])) (by (simp [tyC, *]))
    · skip
      rcases bsp (k) (0) with ⟨hb2, hb2'⟩ | ⟨hb2, hb2'⟩
      · skip
        rcases dsp (1 ≤ v) with ⟨hb3, hb3'⟩ | ⟨hb3, hb3'⟩
        · skip
          rcases dsp (v ≤ 4) with ⟨hb4, hb4'⟩ | ⟨hb4, hb4'⟩
          · skip
            exact Fn.go KT Try.func84 [.reg [] [], .reg [] [(3, .int (n - 1))], .reg [] [(3, .bit false)], .reg [] [(2, .bit true)], .reg [] [(2, .bit true), (6, .bit true)]] [] [] (B false) ([.cells [I (n - 1)] []]) (by kernel_rfl) (qw (n - 1) (q (decide (n - 1 < 0) = false) (q ((k == 0) = true) (q (decide (1 ≤ v) = true) (q (decide (v ≤ 4) = true) ob0))))) (by (simp [tyC, *])) (by (simp [tyC, *]))
          · skip
            exact Fn.go KT Try.func84 [.reg [] [], .reg [] [(3, .int (n - 1))], .reg [] [(3, .bit false)], .reg [] [(2, .bit true)], .reg [] [(2, .bit true), (6, .bit false)]] [] [] (B false) ([.cells [I (n - 1)] []]) (by kernel_rfl) (qw (n - 1) (q (decide (n - 1 < 0) = false) (q ((k == 0) = true) (q (decide (1 ≤ v) = true) (q (decide (v ≤ 4) = false) ob0))))) (by (simp [tyC, *])) (by (simp [tyC, *]))
        · skip
          exact Fn.go KT Try.func84 [.reg [] [], .reg [] [(3, .int (n - 1))], .reg [] [(3, .bit false)], .reg [] [(2, .bit true)], .reg [] [(2, .bit false)]] [] [] (B false) ([.cells [I (n - 1)] []]) (by kernel_rfl) (qw (n - 1) (q (decide (n - 1 < 0) = false) (q ((k == 0) = true) (q (decide (1 ≤ v) = false) ob0)))) (by (simp [tyC, *])) (by (simp [tyC, *]))
      · skip
        rcases bsp (k) (1) with ⟨hb3, hb3'⟩ | ⟨hb3, hb3'⟩
        · skip
          rcases bsp (v) (0) with ⟨hb4, hb4'⟩ | ⟨hb4, hb4'⟩
          · skip
            exact Fn.go KT Try.func84 [.reg [] [], .reg [] [(3, .int (n - 1))], .reg [] [(3, .bit false)], .reg [] [(2, .bit false)], .reg [] [(2, .bit true)], .reg [] [(2, .bit true)]] [] [] (B false) ([.cells [I (n - 1)] []]) (by kernel_rfl) (qw (n - 1) (q (decide (n - 1 < 0) = false) (q ((k == 0) = false) (q ((k == 1) = true) (q ((v == 0) = true) ob0))))) (by (simp [tyC, *])) (by (simp [tyC, *]))
          · skip
            exact Fn.go KT Try.func84 [.reg [] [], .reg [] [(3, .int (n - 1))], .reg [] [(3, .bit false)], .reg [] [(2, .bit false)], .reg [] [(2, .bit true)], .reg [] [(2, .bit false)]] [] [] (B false) ([.cells [I (n - 1)] []]) (by kernel_rfl) (qw (n - 1) (q (decide (n - 1 < 0) = false) (q ((k == 0) = false) (q ((k == 1) = true) (q ((v == 0) = false) ob0))))) (by (simp [tyC, *])) (by (simp [tyC, *]))
        · skip
          exact Fn.go KT Try.func84 [.reg [] [], .reg [] [(3, .int (n - 1))], .reg [] [(3, .bit false)], .reg [] [(2, .bit false)], .reg [] [(2, .bit false)], .reg [] []] [] [] (B false) ([.cells [I (n - 1)] []]) (by kernel_rfl) (qw (n - 1) (q (decide (n - 1 < 0) = false) (q ((k == 0) = false) (q ((k == 1) = false) ob0)))) (by (simp [tyC, *])) (by (simp [tyC, *]))
  | .mk k v [.mk ka va la, .mk kb vb lb], n, hok, h1, h2 => by
    have hoa : (Ty.mk ka va la).ok := hok.2.2.2.1
    have hob : (Ty.mk kb vb lb).ok := hok.2.2.2.2.1
    by_cases h3 : n - 1 < 0
    · exact Fn.go KT Try.func84 [.reg [] [], .reg [] [(3, .int (n - 1))], .reg [] [(3, .bit true)], .reg [] []] [] [] (B false) ([.cells [I (n - 1)] []]) (by kernel_rfl) (qw (n - 1) (q (decide (n - 1 < 0) = true) ob0)) (by (rw [tyC_two]; simp [*])) (by (rw [tyC_two]; simp [*]))
    · have ba := tyC_bound (.mk ka va la) (n - 1) (by omega)
      have ha := ty_ (.mk ka va la) (n - 1) hoa (by omega) (by omega)
      by_cases h4 : (tyC (.mk ka va la) (n - 1)).1 = true
      · have hb := ty_ (.mk kb vb lb) (tyC (.mk ka va la) (n - 1)).2 hob (ba.2.2 h4) (by omega)
        rw [h4] at ha
        clear hok hoa hob ba
        rcases bsp (k) (0) with ⟨hb1, hb1'⟩ | ⟨hb1, hb1'⟩
        · skip
          rcases dsp (1 ≤ v) with ⟨hb2, hb2'⟩ | ⟨hb2, hb2'⟩
          · skip
            rcases dsp (v ≤ 4) with ⟨hb3, hb3'⟩ | ⟨hb3, hb3'⟩
            · skip
              exact Fn.go KT Try.func84 [.reg [] [], .reg [] [(3, .int (n - 1))], .reg [] [(3, .bit false)], .reg [] [(2, .bit true)], .reg [] [(2, .bit true), (6, .bit true)]] [] [] (B false) ([.cells [I (n - 1)] []]) (by kernel_rfl) (qw (n - 1) (q (decide (n - 1 < 0) = false) (q ((k == 0) = true) (q (decide (1 ≤ v) = true) (q (decide (v ≤ 4) = true) ob0))))) (by (rw [tyC_two]; simp [*])) (by (rw [tyC_two]; simp [*]))
            · skip
              exact Fn.go KT Try.func84 [.reg [] [], .reg [] [(3, .int (n - 1))], .reg [] [(3, .bit false)], .reg [] [(2, .bit true)], .reg [] [(2, .bit true), (6, .bit false)]] [] [] (B false) ([.cells [I (n - 1)] []]) (by kernel_rfl) (qw (n - 1) (q (decide (n - 1 < 0) = false) (q ((k == 0) = true) (q (decide (1 ≤ v) = true) (q (decide (v ≤ 4) = false) ob0))))) (by (rw [tyC_two]; simp [*])) (by (rw [tyC_two]; simp [*]))
          · skip
            exact Fn.go KT Try.func84 [.reg [] [], .reg [] [(3, .int (n - 1))], .reg [] [(3, .bit false)], .reg [] [(2, .bit true)], .reg [] [(2, .bit false)]] [] [] (B false) ([.cells [I (n - 1)] []]) (by kernel_rfl) (qw (n - 1) (q (decide (n - 1 < 0) = false) (q ((k == 0) = true) (q (decide (1 ≤ v) = false) ob0)))) (by (rw [tyC_two]; simp [*])) (by (rw [tyC_two]; simp [*]))
        · skip
          rcases bsp (k) (1) with ⟨hb2, hb2'⟩ | ⟨hb2, hb2'⟩
          · skip
            rcases bsp (v) (0) with ⟨hb3, hb3'⟩ | ⟨hb3, hb3'⟩
            · skip
              rcases Bool.eq_false_or_eq_true (Prod.fst (tyC (Ty.mk kb vb lb) (Prod.snd (tyC (Ty.mk ka va la) (n - 1))))) with hb4 | hb4
              · have hb4' := hb4
                try simp only [decide_eq_true_eq, decide_eq_false_iff_not, beq_iff_eq, bne_iff_ne, ne_eq, beq_eq_false_iff_ne, bne_eq_false_iff_eq, Bool.not_eq_true'] at hb4'
                exact Fn.go KT Try.func84 [.reg [] [], .reg [] [(3, .int (n - 1))], .reg [] [(3, .bit false)], .reg [] [(2, .bit false)], .reg [] [(2, .bit true)], .reg [] [(2, .bit true), (13, .row 0 [I ka, I va, AV.sl 3 (Ty.encs la) false]), (16, .call (B true) [.cells [I (Prod.snd (tyC (Ty.mk ka va la) (n - 1)))] []]), (22, .row 1 [I kb, I vb, AV.sl 3 (Ty.encs lb) false]), (25, .call (B true) [.cells [I (Prod.snd (tyC (Ty.mk kb vb lb) (Prod.snd (tyC (Ty.mk ka va la) (n - 1)))))] []])]] [] [] (B true) ([.cells [I (Prod.snd (tyC (Ty.mk kb vb lb) (Prod.snd (tyC (Ty.mk ka va la) (n - 1)))))] []]) (by kernel_rfl) (qw (n - 1) (q (decide (n - 1 < 0) = false) (q ((k == 0) = false) (q ((k == 1) = true) (q ((v == 0) = true) (q (0 = (↑0 : Int)) (q ([[I ka, I va, AV.sl 3 (Ty.encs la) false], [I kb, I vb, AV.sl 3 (Ty.encs lb) false]][0]? = some [I ka, I va, AV.sl 3 (Ty.encs la) false]) (ob1 (ha) (q (1 = (↑1 : Int)) (q ([[I ka, I va, AV.sl 3 (Ty.encs la) false], [I kb, I vb, AV.sl 3 (Ty.encs lb) false]][1]? = some [I kb, I vb, AV.sl 3 (Ty.encs lb) false]) (ob1 (SoundCall.to (hb) (pf (B (Prod.fst (tyC (Ty.mk kb vb lb) (Prod.snd (tyC (Ty.mk ka va la) (n - 1))))) = B true)) rfl) ob0))))))))))) (by (rw [tyC_two]; simp [*])) (by (rw [tyC_two]; simp [*]))
              · have hb4' := hb4
                try simp only [decide_eq_true_eq, decide_eq_false_iff_not, beq_iff_eq, bne_iff_ne, ne_eq, beq_eq_false_iff_ne, bne_eq_false_iff_eq, Bool.not_eq_true'] at hb4'
                exact Fn.go KT Try.func84 [.reg [] [], .reg [] [(3, .int (n - 1))], .reg [] [(3, .bit false)], .reg [] [(2, .bit false)], .reg [] [(2, .bit true)], .reg [] [(2, .bit true), (13, .row 0 [I ka, I va, AV.sl 3 (Ty.encs la) false]), (16, .call (B true) [.cells [I (Prod.snd (tyC (Ty.mk ka va la) (n - 1)))] []]), (22, .row 1 [I kb, I vb, AV.sl 3 (Ty.encs lb) false]), (25, .call (B false) [.cells [I (Prod.snd (tyC (Ty.mk kb vb lb) (Prod.snd (tyC (Ty.mk ka va la) (n - 1)))))] []])]] [] [] (B false) ([.cells [I (Prod.snd (tyC (Ty.mk kb vb lb) (Prod.snd (tyC (Ty.mk ka va la) (n - 1)))))] []]) (by kernel_rfl) (qw (n - 1) (q (decide (n - 1 < 0) = false) (q ((k == 0) = false) (q ((k == 1) = true) (q ((v == 0) = true) (q (0 = (↑0 : Int)) (q ([[I ka, I va, AV.sl 3 (Ty.encs la) false], [I kb, I vb, AV.sl 3 (Ty.encs lb) false]][0]? = some [I ka, I va, AV.sl 3 (Ty.encs la) false]) (ob1 (ha) (q (1 = (↑1 : Int)) (q ([[I ka, I va, AV.sl 3 (Ty.encs la) false], [I kb, I vb, AV.sl 3 (Ty.encs lb) false]][1]? = some [I kb, I vb, AV.sl 3 (Ty.encs lb) false]) (ob1 (SoundCall.to (hb) (pf (B (Prod.fst (tyC (Ty.mk kb vb lb) (Prod.snd (tyC (Ty.mk ka va la) (n - 1))))) = B false)) rfl) ob0))))))))))) (by (rw [tyC_two]; simp [*])) (by (rw [tyC_two]; simp [*]))
            · skip
              exact Fn.go KT Try.func84 [.reg [] [], .reg [] [(3, .int (n - 1))], .reg [] [(3, .bit false)], .reg [] [(2, .bit false)], .reg [] [(2, .bit true)], .reg [] [(2, .bit false)]] [] [] (B false) ([.cells [I (n - 1)] []]) (by kernel_rfl) (qw (n - 1) (q (decide (n - 1 < 0) = false) (q ((k == 0) = false) (q ((k == 1) = true) (q ((v == 0) = false) ob0))))) (by (rw [tyC_two]; simp [*])) (by (rw [tyC_two]; simp [*]))
          · skip
            exact Fn.go KT Try.func84 [.reg [] [], .reg [] [(3, .int (n - 1))], .reg [] [(3, .bit false)], .reg [] [(2, .bit false)], .reg [] [(2, .bit false)], .reg [] []] [] [] (B false) ([.cells [I (n - 1)] []]) (by kernel_rfl) (qw (n - 1) (q (decide (n - 1 < 0) = false) (q ((k == 0) = false) (q ((k == 1) = false) ob0)))) (by (rw [tyC_two]; simp [*])) (by (rw [tyC_two]; simp [*]))
      · rw [Bool.not_eq_true] at h4
        rw [h4] at ha
        clear hok hoa hob ba
        rcases bsp (k) (0) with ⟨hb1, hb1'⟩ | ⟨hb1, hb1'⟩
        · skip
          rcases dsp (1 ≤ v) with ⟨hb2, hb2'⟩ | ⟨hb2, hb2'⟩
          · skip
            rcases dsp (v ≤ 4) with ⟨hb3, hb3'⟩ | ⟨hb3, hb3'⟩
            · skip
              exact Fn.go KT Try.func84 [.reg [] [], .reg [] [(3, .int (n - 1))], .reg [] [(3, .bit false)], .reg [] [(2, .bit true)], .reg [] [(2, .bit true), (6, .bit true)]] [] [] (B false) ([.cells [I (n - 1)] []]) (by kernel_rfl) (qw (n - 1) (q (decide (n - 1 < 0) = false) (q ((k == 0) = true) (q (decide (1 ≤ v) = true) (q (decide (v ≤ 4) = true) ob0))))) (by (rw [tyC_two]; simp [*])) (by (rw [tyC_two]; simp [*]))
            · skip
              exact Fn.go KT Try.func84 [.reg [] [], .reg [] [(3, .int (n - 1))], .reg [] [(3, .bit false)], .reg [] [(2, .bit true)], .reg [] [(2, .bit true), (6, .bit false)]] [] [] (B false) ([.cells [I (n - 1)] []]) (by kernel_rfl) (qw (n - 1) (q (decide (n - 1 < 0) = false) (q ((k == 0) = true) (q (decide (1 ≤ v) = true) (q (decide (v ≤ 4) = false) ob0))))) (by (rw [tyC_two]; simp [*])) (by (rw [tyC_two]; simp [*]))
          · skip
            exact Fn.go KT Try.func84 [.reg [] [], .reg [] [(3, .int (n - 1))], .reg [] [(3, .bit false)], .reg [] [(2, .bit true)], .reg [] [(2, .bit false)]] [] [] (B false) ([.cells [I (n - 1)] []]) (by kernel_rfl) (qw (n - 1) (q (decide (n - 1 < 0) = false) (q ((k == 0) = true) (q (decide (1 ≤ v) = false) ob0)))) (by (rw [tyC_two]; simp [*])) (by (rw [tyC_two]; simp [*]))
        · skip
          rcases bsp (k) (1) with ⟨hb2, hb2'⟩ | ⟨hb2, hb2'⟩
          · skip
            rcases bsp (v) (0) with ⟨hb3, hb3'⟩ | ⟨hb3, hb3'⟩
            · skip
              exact Fn.go KT Try.func84 [.reg [] [], .reg [] [(3, .int (n - 1))], .reg [] [(3, .bit false)], .reg [] [(2, .bit false)], .reg [] [(2, .bit true)], .reg [] [(2, .bit true), (13, .row 0 [I ka, I va, AV.sl 3 (Ty.encs la) false]), (16, .call (B false) [.cells [I (Prod.snd (tyC (Ty.mk ka va la) (n - 1)))] []])]] [] [] (B false) ([.cells [I (Prod.snd (tyC (Ty.mk ka va la) (n - 1)))] []]) (by kernel_rfl) (qw (n - 1) (q (decide (n - 1 < 0) = false) (q ((k == 0) = false) (q ((k == 1) = true) (q ((v == 0) = true) (q (0 = (↑0 : Int)) (q ([[I ka, I va, AV.sl 3 (Ty.encs la) false], [I kb, I vb, AV.sl 3 (Ty.encs lb) false]][0]? = some [I ka, I va, AV.sl 3 (Ty.encs la) false]) (ob1 (ha) ob0)))))))) (by (rw [tyC_two]; simp [*])) (by (rw [tyC_two]; simp [*]))
            · skip
              exact Fn.go KT Try.func84 [.reg [] [], .reg [] [(3, .int (n - 1))], .reg [] [(3, .bit false)], .reg [] [(2, .bit false)], .reg [] [(2, .bit true)], .reg [] [(2, .bit false)]] [] [] (B false) ([.cells [I (n - 1)] []]) (by kernel_rfl) (qw (n - 1) (q (decide (n - 1 < 0) = false) (q ((k == 0) = false) (q ((k == 1) = true) (q ((v == 0) = false) ob0))))) (by (rw [tyC_two]; simp [*])) (by (rw [tyC_two]; simp [*]))
          · skip
            exact Fn.go KT Try.func84 [.reg [] [], .reg [] [(3, .int (n - 1))], .reg [] [(3, .bit false)], .reg [] [(2, .bit false)], .reg [] [(2, .bit false)], .reg [] []] [] [] (B false) ([.cells [I (n - 1)] []]) (by kernel_rfl) (qw (n - 1) (q (decide (n - 1 < 0) = false) (q ((k == 0) = false) (q ((k == 1) = false) ob0)))) (by (rw [tyC_two]; simp [*])) (by (rw [tyC_two]; simp [*]))
  | .mk k v (a :: b :: c :: l), n, hok, h1, h2 => by
    have hl : l.length ≤ 281474976710656 := by have := hok.2.2.1; simp at this; omega
    clear hok
    rcases dsp (n - 1 < 0) with ⟨hb1, hb1'⟩ | ⟨hb1, hb1'⟩
    · skip
      exact Fn.go KT Try.func84 [.reg [] [], .reg [] [(3, .int (n - 1))], .reg [] [(3, .bit true)], .reg [] []] [] [] (B false) ([.cells [I (n - 1)] []]) (by kernel_rfl) (qw (n - 1) (q (decide (n - 1 < 0) = true) ob0)) (by (simp [tyC, *])) (by (simp [tyC, *]))
    · skip
      rcases bsp (k) (0) with ⟨hb2, hb2'⟩ | ⟨hb2, hb2'⟩
      · skip
        rcases dsp (1 ≤ v) with ⟨hb3, hb3'⟩ | ⟨hb3, hb3'⟩
        · skip
          rcases dsp (v ≤ 4) with ⟨hb4, hb4'⟩ | ⟨hb4, hb4'⟩
          · skip
            exact Fn.go KT Try.func84 [.reg [] [], .reg [] [(3, .int (n - 1))], .reg [] [(3, .bit false)], .reg [] [(2, .bit true)], .reg [] [(2, .bit true), (6, .bit true), (11, .int ((↑(List.length l) : Int) + 1 + 1 + 1))]] [] [] (B false) ([.cells [I (n - 1)] []]) (by kernel_rfl) (qw (n - 1) (q (decide (n - 1 < 0) = false) (q ((k == 0) = true) (q (decide (1 ≤ v) = true) (q (decide (v ≤ 4) = true) (q ((↑(List.length (Ty.enc a :: Ty.enc b :: Ty.enc c :: Ty.encs l)) : Int) = (↑(List.length l) : Int) + 1 + 1 + 1) ob0)))))) (by (simp [tyC, *])) (by (simp [tyC, *]))
          · skip
            exact Fn.go KT Try.func84 [.reg [] [], .reg [] [(3, .int (n - 1))], .reg [] [(3, .bit false)], .reg [] [(2, .bit true)], .reg [] [(2, .bit true), (6, .bit false)]] [] [] (B false) ([.cells [I (n - 1)] []]) (by kernel_rfl) (qw (n - 1) (q (decide (n - 1 < 0) = false) (q ((k == 0) = true) (q (decide (1 ≤ v) = true) (q (decide (v ≤ 4) = false) ob0))))) (by (simp [tyC, *])) (by (simp [tyC, *]))
        · skip
          exact Fn.go KT Try.func84 [.reg [] [], .reg [] [(3, .int (n - 1))], .reg [] [(3, .bit false)], .reg [] [(2, .bit true)], .reg [] [(2, .bit false)]] [] [] (B false) ([.cells [I (n - 1)] []]) (by kernel_rfl) (qw (n - 1) (q (decide (n - 1 < 0) = false) (q ((k == 0) = true) (q (decide (1 ≤ v) = false) ob0)))) (by (simp [tyC, *])) (by (simp [tyC, *]))
      · skip
        rcases bsp (k) (1) with ⟨hb3, hb3'⟩ | ⟨hb3, hb3'⟩
        · skip
          rcases bsp (v) (0) with ⟨hb4, hb4'⟩ | ⟨hb4, hb4'⟩
          · skip
            exact Fn.go KT Try.func84 [.reg [] [], .reg [] [(3, .int (n - 1))], .reg [] [(3, .bit false)], .reg [] [(2, .bit false)], .reg [] [(2, .bit true)], .reg [] [(2, .bit true), (6, .int ((↑(List.length l) : Int) + 1 + 1 + 1))]] [] [] (B false) ([.cells [I (n - 1)] []]) (by kernel_rfl) (qw (n - 1) (q (decide (n - 1 < 0) = false) (q ((k == 0) = false) (q ((k == 1) = true) (q ((v == 0) = true) (q ((↑(List.length (Ty.enc a :: Ty.enc b :: Ty.enc c :: Ty.encs l)) : Int) = (↑(List.length l) : Int) + 1 + 1 + 1) ob0)))))) (by (simp [tyC, *])) (by (simp [tyC, *]))
          · skip
            exact Fn.go KT Try.func84 [.reg [] [], .reg [] [(3, .int (n - 1))], .reg [] [(3, .bit false)], .reg [] [(2, .bit false)], .reg [] [(2, .bit true)], .reg [] [(2, .bit false)]] [] [] (B false) ([.cells [I (n - 1)] []]) (by kernel_rfl) (qw (n - 1) (q (decide (n - 1 < 0) = false) (q ((k == 0) = false) (q ((k == 1) = true) (q ((v == 0) = false) ob0))))) (by (simp [tyC, *])) (by (simp [tyC, *]))
        · skip
          exact Fn.go KT Try.func84 [.reg [] [], .reg [] [(3, .int (n - 1))], .reg [] [(3, .bit false)], .reg [] [(2, .bit false)], .reg [] [(2, .bit false)], .reg [] []] [] [] (B false) ([.cells [I (n - 1)] []]) (by kernel_rfl) (qw (n - 1) (q (decide (n - 1 < 0) = false) (q ((k == 0) = false) (q ((k == 1) = false) ob0)))) (by (simp [tyC, *])) (by (simp [tyC, *]))
termination_by t => SizeOf.sizeOf t

end Go.Ae

/- source: types, sizes, names. -/
namespace Go.Ae
open Go.Proofs

theorem isTy_ (t : Ty) (hok : t.ok) : SoundCall Try.prog 71 [.agg [B false], .agg t.enc] [] (B (tyC t 20).1) [] := by
  have h := ty_ t 20 hok (by omega) (by omega)
  obtain ⟨k, v, l⟩ := t
  clear hok
  by_cases hb : (tyC (.mk k v l) 20).1 = true
  · rw [hb] at h ⊢
    exact Fn.go KT Try.func71 [.reg [] [], .reg [] [], .reg [] [(2, .call (B true) [.cells [I (Prod.snd (tyC (Ty.mk k v l) 20))] []])]] [] [] (B true) ([]) (by kernel_rfl) (ob1 (h) ob0)
  · rw [Bool.not_eq_true] at hb
    rw [hb] at h ⊢
    exact Fn.go KT Try.func71 [.reg [] [], .reg [] [], .reg [] [(2, .call (B false) [.cells [I (Prod.snd (tyC (Ty.mk k v l) 20))] []])]] [] [] (B false) ([]) (by kernel_rfl) (ob1 (h) ob0)

theorem fin_0 (k : Int) : SoundCall Try.prog 85 [I k] [] (.agg [I 0, I k, .sl 3 [] false]) [] := by
  exact Fn.go KT Try.func85 [.reg [] [], .reg [] []] [] [none, none, some 3] (AV.agg [I 0, I k, AV.sl 3 [] false]) ([]) (by kernel_rfl) ob0
theorem fin_1 (k : Int) : SoundCall Try.prog 26 [I k] [] (.agg [I 0, I k, .sl 3 [] false]) [] := by
  exact Fn.go KT Try.func26 [.reg [] [], .reg [] []] [] [none, none, some 3] (AV.agg [I 0, I k, AV.sl 3 [] false]) ([]) (by kernel_rfl) ob0

end Go.Ae

/- source.size. -/
namespace Go.Ae
open Go.Proofs

mutual
def szC : Expr → Int → Int → Bool × Int
  | .mk _ _ _ _ l, d, n => if n - 1 < 0 then (false, n - 1) else if d = 0 then (false, n - 1) else szCs l (d - 1) (n - 1)
def szCs : List Expr → Int → Int → Bool × Int
  | [], _, n => (true, n)
  | e :: l, d, n => if (szC e d n).1 = true then szCs l d (szC e d n).2 else (false, (szC e d n).2)
end

mutual
theorem szC_bound : ∀ (e : Expr) (d n : Int), 0 ≤ n → -1 ≤ (szC e d n).2 ∧ (szC e d n).2 ≤ n ∧ ((szC e d n).1 = true → 0 ≤ (szC e d n).2)
  | .mk _ _ _ _ l, d, n, h => by
    simp only [szC]
    split
    · exact ⟨by simp; omega, by simp; omega, by simp⟩
    · split
      · exact ⟨by simp; omega, by simp; omega, by simp⟩
      · have := szCs_bound l (d - 1) (n - 1) (by omega)
        exact ⟨this.1, by omega, this.2.2⟩
theorem szCs_bound : ∀ (l : List Expr) (d n : Int), 0 ≤ n → -1 ≤ (szCs l d n).2 ∧ (szCs l d n).2 ≤ n ∧ ((szCs l d n).1 = true → 0 ≤ (szCs l d n).2)
  | [], d, n, h => by exact ⟨by simp [szCs]; omega, by simp [szCs], by simp [szCs]; omega⟩
  | t :: l, d, n, h => by
    have h1 := szC_bound t d n h
    simp only [szCs]
    split
    · rename_i hc
      have h2 := szCs_bound l d (szC t d n).2 (h1.2.2 hc)
      exact ⟨h2.1, by omega, h2.2.2⟩
    · exact ⟨h1.1, h1.2.1, by simp⟩
end

theorem szCs_cons (e : Expr) (l : List Expr) (d n : Int) : szCs (e :: l) d n = if (szC e d n).1 = true then szCs l d (szC e d n).2 else (false, (szC e d n).2) := by rw [szCs]

theorem size_loop (us : List Expr) (d : Int) (hn : us.length ≤ 281474976710656) (h1 : 1 ≤ d) (h2 : d ≤ 1000) : ∀ (us' : List Expr) (i : Nat) (n : Int), us.drop i = us' → 0 ≤ n → n ≤ 100000 →
    (∀ x ∈ us', ∀ n, 0 ≤ n → n ≤ 100000 → SoundCall Try.prog 69 [.agg x.enc, I (d - 1), .lp 0 0] [.cells [I n] []] (B (szC x (d - 1) n).1) [.cells [I (szC x (d - 1) n).2] []]) →
    Lp Try.prog 36 1 (loopN Try.f69 0) ⟨lookT [(1, I d), (2, .lp 0 0), (23, .sl 7 (Expr.encs us) false), (24, I (us.length : Int)), (25, I (i : Int))], [.cells [I n] []]⟩
      (if (szCs us' (d - 1) n).1 = true then .exit 0 else .ret) (if (szCs us' (d - 1) n).1 = true then ⟨lookT [], [.cells [I (szCs us' (d - 1) n).2] []]⟩ else ⟨lookT [(6, B false)], [.cells [I (szCs us' (d - 1) n).2] []]⟩)
  | [], i, n, hd, hn0, hn1, _ => by
    have hi := drop_end hd
    simp only [szCs, if_true]
    exact Lp.last KT [.reg [] [(0, .bit false)]] [.keep []] (by kernel_rfl) (q (decide ((↑i : Int) < (↑(List.length us) : Int)) = false) ob0) (by intro h; cases h)
  | .mk k1 m1 v1 (.mk tk tv tl) xs :: us', i, n, hd, hn0, hn1, hs => by
    have hi := drop_lt hd
    have hx : (Expr.encs us)[i]? = some (Expr.mk k1 m1 v1 (.mk tk tv tl) xs).enc := by rw [Expr.encs_get, drop_get hd]; rfl
    have hc := hs (.mk k1 m1 v1 (.mk tk tv tl) xs) (by simp) n hn0 hn1
    have hb := szC_bound (.mk k1 m1 v1 (.mk tk tv tl) xs) (d - 1) n hn0
    have hd' := drop_next hd
    rw [szCs_cons]
    by_cases he : (szC (.mk k1 m1 v1 (.mk tk tv tl) xs) (d - 1) n).1 = true
    · have ih := size_loop us d hn h1 h2 us' (i + 1) _ hd' (hb.2.2 he) (by omega) (fun x hx => hs x (by simp [hx]))
      rw [if_pos he]
      rw [he] at hc
      simp only [Int.natCast_add] at ih
      clear hs hb hd hd'
      exact Lp.next KT [.reg [] [(0, .bit true)], .reg [] [(0, .row i (Expr.enc (Expr.mk k1 m1 v1 (Ty.mk tk tv tl) xs)))], .reg [] [(2, .int (d - 1)), (4, .call (B true) [.cells [I (Prod.snd (szC (Expr.mk k1 m1 v1 (Ty.mk tk tv tl) xs) (d - 1) n))] []])], .reg [] [(0, .int ((↑i : Int) + 1))]] [.keep [(1, []), (2, []), (23, []), (24, []), (25, [])]] (by kernel_rfl) (q (decide ((↑i : Int) < (↑(List.length us) : Int)) = true) (q ((↑i : Int) = (↑i : Int)) (q ((Expr.encs us)[i]? = some (Expr.enc (Expr.mk k1 m1 v1 (Ty.mk tk tv tl) xs))) (qw (d - 1) (ob1 (hc) (qw ((↑i : Int) + 1) ob0)))))) (ih)
    · rw [if_neg he]
      rw [Bool.not_eq_true] at he
      rw [he] at hc
      simp only [Bool.false_eq_true, if_false]
      clear hs hb hd hd'
      exact Lp.last KT [.reg [] [(0, .bit true)], .reg [] [(0, .row i (Expr.enc (Expr.mk k1 m1 v1 (Ty.mk tk tv tl) xs)))], .reg [] [(2, .int (d - 1)), (4, .call (B false) [.cells [I (Prod.snd (szC (Expr.mk k1 m1 v1 (Ty.mk tk tv tl) xs) (d - 1) n))] []])], .reg [] []] [.keep [(6, [])]] (by kernel_rfl) (q (decide ((↑i : Int) < (↑(List.length us) : Int)) = true) (q ((↑i : Int) = (↑i : Int)) (q ((Expr.encs us)[i]? = some (Expr.enc (Expr.mk k1 m1 v1 (Ty.mk tk tv tl) xs))) (qw (d - 1) (ob1 (hc) ob0))))) (by intro h; cases h)

theorem size_ : ∀ (e : Expr) (d n : Int), e.ok → 0 ≤ d → d ≤ 1000 → 0 ≤ n → n ≤ 100000 → SoundCall Try.prog 69 [.agg e.enc, I d, .lp 0 0] [.cells [I n] []] (B (szC e d n).1) [.cells [I (szC e d n).2] []]
  | .mk k m v (.mk tk tv tl) l, d, n, hok, h1, h2, h3, h4 => by
    have hl : l.length ≤ 281474976710656 := hok.2.2.2.2.1
    have hr : ∀ x ∈ l, ∀ d n, 0 ≤ d → d ≤ 1000 → 0 ≤ n → n ≤ 100000 → SoundCall Try.prog 69 [.agg x.enc, I d, .lp 0 0] [.cells [I n] []] (B (szC x d n).1) [.cells [I (szC x d n).2] []] := fun x hx d n => size_ x d n (Expr.oks_mem hok.2.2.2.2.2 x hx)
    clear hok
    rw [szC]
    by_cases h5 : n - 1 < 0
    · rw [if_pos h5]
      exact Fn.go KT Try.func69 [.reg [] [], .reg [] [(3, .int (n - 1))], .reg [] [(3, .bit true)], .reg [] []] [] [] (B false) ([.cells [I (n - 1)] []]) (by kernel_rfl) (qw (n - 1) (q (decide (n - 1 < 0) = true) ob0))
    · rw [if_neg h5]
      by_cases h6 : d = 0
      · rw [if_pos h6]
        exact Fn.go KT Try.func69 [.reg [] [], .reg [] [(3, .int (n - 1))], .reg [] [(3, .bit false), (6, .bit true)], .reg [] []] [] [] (B false) ([.cells [I (n - 1)] []]) (by kernel_rfl) (qw (n - 1) (q (decide (n - 1 < 0) = false) (q ((d == 0) = true) ob0)))
      · rw [if_neg h6]
        have lp := size_loop l d hl (by omega) h2 l 0 (n - 1) rfl (by omega) (by omega) (fun x hx n h => hr x hx (d - 1) n (by omega) (by omega) h)
        clear hr
        by_cases he : (szCs l (d - 1) (n - 1)).1 = true
        · simp only [if_pos he] at lp
          exact Fn.go KT Try.func69 [.reg [] [], .reg [] [(3, .int (n - 1))], .reg [] [(3, .bit false), (6, .bit false)], .reg [] [(2, .int (↑(List.length l) : Int))], .loop [.keep [(1, []), (2, []), (23, []), (24, []), (25, [])]] (Exit.exit 0) { tm := lookT [], st := [.cells [I (Prod.snd (szCs l (d - 1) (n - 1)))] []] }, .reg [] []] [] [] (B true) ([.cells [I (Prod.snd (szCs l (d - 1) (n - 1)))] []]) (by kernel_rfl) (qw (n - 1) (q (decide (n - 1 < 0) = false) (q ((d == 0) = false) (q ((↑(List.length (Expr.encs l)) : Int) = (↑(List.length l) : Int)) (ob1 (lp) ob0)))))
        · simp only [if_neg he] at lp
          exact Fn.go KT Try.func69 [.reg [] [], .reg [] [(3, .int (n - 1))], .reg [] [(3, .bit false), (6, .bit false)], .reg [] [(2, .int (↑(List.length l) : Int))], .loop [.keep [(1, []), (2, []), (23, []), (24, []), (25, [])]] Exit.ret { tm := lookT [(6, B false)], st := [.cells [I (Prod.snd (szCs l (d - 1) (n - 1)))] []] }] [] [] (B false) ([.cells [I (Prod.snd (szCs l (d - 1) (n - 1)))] []]) (by kernel_rfl) (qw (n - 1) (q (decide (n - 1 < 0) = false) (q ((d == 0) = false) (q ((↑(List.length (Expr.encs l)) : Int) = (↑(List.length l) : Int)) (ob1 (lp) ob0)))))

end Go.Ae

/- Names. -/
namespace Go.Ae
open Go.Proofs

abbrev U8 (n : Int) : AV := .sc (.int .u8 n)

def letC (n : Int) : Bool := (decide (97 ≤ n) && decide (n ≤ 122)) || (decide (48 ≤ n) && decide (n ≤ 57)) || decide (n = 95)

theorem letter_ (n : Int) : SoundCall Try.prog 83 [U8 n] [] (B (letC n)) [] := by
  rcases dsp (97 ≤ n) with ⟨hb1, hb1'⟩ | ⟨hb1, hb1'⟩
  · skip
    rcases dsp (n ≤ 122) with ⟨hb2, hb2'⟩ | ⟨hb2, hb2'⟩
    · skip
      exact Fn.go KT Try.func83 [.reg [] [], .reg [] [(1, .bit true), (4, .bit true)]] [] [] (B true) ([]) (by kernel_rfl) (q (decide (97 ≤ n) = true) (q (decide (n ≤ 122) = true) ob0)) (by (congr 1; simp [letC]; omega)) (by first | rfl | (simp [*]; done))
    · skip
      exact Fn.go KT Try.func83 [.reg [] [], .reg [] [(1, .bit true), (4, .bit false), (8, .bit true), (11, .bit false), (16, .bit false)]] [] [] (B false) ([]) (by kernel_rfl) (q (decide (97 ≤ n) = true) (q (decide (n ≤ 122) = false) (q (decide (48 ≤ n) = true) (q (decide (n ≤ 57) = false) (q ((n == 95) = false) ob0))))) (by (congr 1; simp [letC]; omega)) (by first | rfl | (simp [*]; done))
  · skip
    rcases dsp (48 ≤ n) with ⟨hb2, hb2'⟩ | ⟨hb2, hb2'⟩
    · skip
      rcases dsp (n ≤ 57) with ⟨hb3, hb3'⟩ | ⟨hb3, hb3'⟩
      · skip
        exact Fn.go KT Try.func83 [.reg [] [], .reg [] [(1, .bit false), (8, .bit true), (11, .bit true)]] [] [] (B true) ([]) (by kernel_rfl) (q (decide (97 ≤ n) = false) (q (decide (48 ≤ n) = true) (q (decide (n ≤ 57) = true) ob0))) (by (congr 1; simp [letC]; omega)) (by first | rfl | (simp [*]; done))
      · skip
        rcases bsp (n) (95) with ⟨hb4, hb4'⟩ | ⟨hb4, hb4'⟩
        · skip
          exact Fn.go KT Try.func83 [.reg [] [], .reg [] [(1, .bit false), (8, .bit true), (11, .bit false), (16, .bit true)]] [] [] (B true) ([]) (by kernel_rfl) (q (decide (97 ≤ n) = false) (q (decide (48 ≤ n) = true) (q (decide (n ≤ 57) = false) (q ((n == 95) = true) ob0)))) (by (congr 1; simp [letC]; omega)) (by first | rfl | (simp [*]; done))
        · skip
          exact Fn.go KT Try.func83 [.reg [] [], .reg [] [(1, .bit false), (8, .bit true), (11, .bit false), (16, .bit false)]] [] [] (B false) ([]) (by kernel_rfl) (q (decide (97 ≤ n) = false) (q (decide (48 ≤ n) = true) (q (decide (n ≤ 57) = false) (q ((n == 95) = false) ob0)))) (by (congr 1; simp [letC]; omega)) (by first | rfl | (simp [*]; done))
    · skip
      exact Fn.go KT Try.func83 [.reg [] [], .reg [] [(1, .bit false), (8, .bit false), (16, .bit false)]] [] [] (B false) ([]) (by kernel_rfl) (q (decide (97 ≤ n) = false) (q (decide (48 ≤ n) = false) (q ((n == 95) = false) ob0))) (by (congr 1; simp [letC]; omega)) (by first | rfl | (simp [*]; done))

def letL : List UInt8 → Bool
  | [] => true
  | c :: l => letC (c.toNat : Int) && letL l

def nameC (l : List UInt8) : Bool := match l with
  | [] => false
  | c :: r => decide ((c :: r).length ≤ 24) && (decide (97 ≤ (c.toNat : Int)) && decide ((c.toNat : Int) ≤ 122)) && letL (c :: r)

theorem bytes_get (s : ByteArray) (k : Nat) : s[k]? = s.data.toList[k]? := by
  simp only [getElem?_def, ByteArray.size, Array.length_toList]
  rfl
theorem bytes_len (s : ByteArray) : s.size = s.data.toList.length := rfl

theorem isName_loop (s : ByteArray) (hn : s.size ≤ 24) : ∀ (l : List UInt8) (i : Nat), s.data.toList.drop i = l →
    Lp Try.prog 33 0 (loopN Try.f70 0) ⟨lookT [(0, S s), (3, I (i : Int))], []⟩
      (bif letL l then .exit 0 else .ret) (bif letL l then ⟨lookT [], []⟩ else ⟨lookT [(2, B false)], []⟩)
  | [], i, hd => by
    have hi : s.size ≤ i := drop_end hd
    simp only [letL, cond_true]
    exact Lp.last KT [.reg [] [(3, .bit false)]] [.keep []] (by kernel_rfl) (q (decide ((↑i : Int) < (↑(ByteArray.size s) : Int)) = false) ob0) (by intro h; cases h)
  | c :: l, i, hd => by
    have hi : i < s.size := drop_lt hd
    have hx : s[i]? = some c := by rw [bytes_get]; exact drop_get hd
    have hc := letter_ (c.toNat : Int)
    have ih := isName_loop s hn l (i + 1) (drop_next hd)
    simp only [letL]
    simp only [Int.natCast_add] at ih
    clear hd
    cases he : letC (c.toNat : Int) with
    | true =>
      rw [he] at hc
      simp only [Bool.true_and]
      exact Lp.next KT [.reg [] [(3, .bit true)], .reg [] [(2, .byte i c), (3, .call (B true) [])], .reg [] [(1, .int ((↑i : Int) + 1))]] [.keep [(0, []), (3, [])]] (by kernel_rfl) (q (decide ((↑i : Int) < (↑(ByteArray.size s) : Int)) = true) (q ((↑i : Int) = (↑i : Int)) (q (s[i]? = some c) (ob1 (hc) (qw ((↑i : Int) + 1) ob0))))) (ih)
    | false =>
      rw [he] at hc
      simp only [Bool.false_and, cond_false]
      exact Lp.last KT [.reg [] [(3, .bit true)], .reg [] [(2, .byte i c), (3, .call (B false) [])], .reg [] []] [.keep [(2, [])]] (by kernel_rfl) (q (decide ((↑i : Int) < (↑(ByteArray.size s) : Int)) = true) (q ((↑i : Int) = (↑i : Int)) (q (s[i]? = some c) (ob1 (hc) ob0)))) (by intro h; cases h)

theorem isName_ (s : ByteArray) (hs : s.size ≤ 281474976710656) : SoundCall Try.prog 70 [S s] [] (B (nameC s.data.toList)) [] := by
  cases hl : s.data.toList with
  | nil =>
    have h0 : s.size = 0 := by rw [bytes_len, hl]; rfl
    exact Fn.go KT Try.func70 [.reg [] [], .reg [] [(2, .bit true)], .reg [] []] [] [] (B false) ([]) (by kernel_rfl) (q (((↑(ByteArray.size s) : Int) == 0) = true) ob0)
  | cons c l =>
    have h0 : s.size = l.length + 1 := by rw [bytes_len, hl]; rfl
    have hx : s[0]? = some c := by rw [bytes_get, hl]; rfl
    by_cases h1 : s.size ≤ 24
    · have lp := isName_loop s h1 (c :: l) 0 hl
      have h2 : (c :: l).length ≤ 24 := by simp; omega
      cases he : letL (c :: l) with
      | true =>
        simp only [he, cond_true] at lp
        rcases bsp ((↑(ByteArray.size s) : Int)) (0) with ⟨hb1, hb1'⟩ | ⟨hb1, hb1'⟩
        · skip
          exfalso; first | contradiction | omega | (simp_all; done)
        · skip
          rcases dsp ((↑(UInt8.toNat c) : Int) < 97) with ⟨hb2, hb2'⟩ | ⟨hb2, hb2'⟩
          · skip
            exact Fn.go KT Try.func70 [.reg [] [], .reg [] [(2, .bit false), (6, .bit false), (10, .byte 0 c), (11, .bit true)], .reg [] []] [] [] (B false) ([]) (by kernel_rfl) (q (((↑(ByteArray.size s) : Int) == 0) = false) (q (decide (24 < (↑(ByteArray.size s) : Int)) = false) (q (0 = (↑0 : Int)) (q (s[0]? = some c) (q (decide ((↑(UInt8.toNat c) : Int) < 97) = true) ob0))))) (by (congr 1; simp only [nameC, he, decide_eq_true h2, Bool.and_true, Bool.true_and]; simp; omega)) (by first | rfl | (simp [*]; done))
          · skip
            rcases dsp (122 < (↑(UInt8.toNat c) : Int)) with ⟨hb3, hb3'⟩ | ⟨hb3, hb3'⟩
            · skip
              exact Fn.go KT Try.func70 [.reg [] [], .reg [] [(2, .bit false), (6, .bit false), (10, .byte 0 c), (11, .bit false), (15, .byte 0 c), (16, .bit true)], .reg [] []] [] [] (B false) ([]) (by kernel_rfl) (q (((↑(ByteArray.size s) : Int) == 0) = false) (q (decide (24 < (↑(ByteArray.size s) : Int)) = false) (q (0 = (↑0 : Int)) (q (s[0]? = some c) (q (decide ((↑(UInt8.toNat c) : Int) < 97) = false) (q (0 = (↑0 : Int)) (q (s[0]? = some c) (q (decide (122 < (↑(UInt8.toNat c) : Int)) = true) ob0)))))))) (by (congr 1; simp only [nameC, he, decide_eq_true h2, Bool.and_true, Bool.true_and]; simp; omega)) (by first | rfl | (simp [*]; done))
            · skip
              exact Fn.go KT Try.func70 [.reg [] [], .reg [] [(2, .bit false), (6, .bit false), (10, .byte 0 c), (11, .bit false), (15, .byte 0 c), (16, .bit false)], .reg [] [], .loop [.keep [(0, []), (3, [])]] (Exit.exit 0) { tm := lookT [], st := [] }, .reg [] []] [] [] (B true) ([]) (by kernel_rfl) (q (((↑(ByteArray.size s) : Int) == 0) = false) (q (decide (24 < (↑(ByteArray.size s) : Int)) = false) (q (0 = (↑0 : Int)) (q (s[0]? = some c) (q (decide ((↑(UInt8.toNat c) : Int) < 97) = false) (q (0 = (↑0 : Int)) (q (s[0]? = some c) (q (decide (122 < (↑(UInt8.toNat c) : Int)) = false) (ob1 (lp) ob0))))))))) (by (congr 1; simp only [nameC, he, decide_eq_true h2, Bool.and_true, Bool.true_and]; simp; omega)) (by first | rfl | (simp [*]; done))
      | false =>
        simp only [he, cond_false] at lp
        rcases bsp ((↑(ByteArray.size s) : Int)) (0) with ⟨hb1, hb1'⟩ | ⟨hb1, hb1'⟩
        · skip
          exfalso; first | contradiction | omega | (simp_all; done)
        · skip
          rcases dsp ((↑(UInt8.toNat c) : Int) < 97) with ⟨hb2, hb2'⟩ | ⟨hb2, hb2'⟩
          · skip
            exact Fn.go KT Try.func70 [.reg [] [], .reg [] [(2, .bit false), (6, .bit false), (10, .byte 0 c), (11, .bit true)], .reg [] []] [] [] (B false) ([]) (by kernel_rfl) (q (((↑(ByteArray.size s) : Int) == 0) = false) (q (decide (24 < (↑(ByteArray.size s) : Int)) = false) (q (0 = (↑0 : Int)) (q (s[0]? = some c) (q (decide ((↑(UInt8.toNat c) : Int) < 97) = true) ob0))))) (by (simp only [nameC, he, Bool.and_false])) (by first | rfl | (simp [*]; done))
          · skip
            rcases dsp (122 < (↑(UInt8.toNat c) : Int)) with ⟨hb3, hb3'⟩ | ⟨hb3, hb3'⟩
            · skip
              exact Fn.go KT Try.func70 [.reg [] [], .reg [] [(2, .bit false), (6, .bit false), (10, .byte 0 c), (11, .bit false), (15, .byte 0 c), (16, .bit true)], .reg [] []] [] [] (B false) ([]) (by kernel_rfl) (q (((↑(ByteArray.size s) : Int) == 0) = false) (q (decide (24 < (↑(ByteArray.size s) : Int)) = false) (q (0 = (↑0 : Int)) (q (s[0]? = some c) (q (decide ((↑(UInt8.toNat c) : Int) < 97) = false) (q (0 = (↑0 : Int)) (q (s[0]? = some c) (q (decide (122 < (↑(UInt8.toNat c) : Int)) = true) ob0)))))))) (by (simp only [nameC, he, Bool.and_false])) (by first | rfl | (simp [*]; done))
            · skip
              exact Fn.go KT Try.func70 [.reg [] [], .reg [] [(2, .bit false), (6, .bit false), (10, .byte 0 c), (11, .bit false), (15, .byte 0 c), (16, .bit false)], .reg [] [], .loop [.keep [(0, []), (3, [])]] Exit.ret { tm := lookT [(2, B false)], st := [] }] [] [] (B false) ([]) (by kernel_rfl) (q (((↑(ByteArray.size s) : Int) == 0) = false) (q (decide (24 < (↑(ByteArray.size s) : Int)) = false) (q (0 = (↑0 : Int)) (q (s[0]? = some c) (q (decide ((↑(UInt8.toNat c) : Int) < 97) = false) (q (0 = (↑0 : Int)) (q (s[0]? = some c) (q (decide (122 < (↑(UInt8.toNat c) : Int)) = false) (ob1 (lp) ob0))))))))) (by (simp only [nameC, he, Bool.and_false])) (by first | rfl | (simp [*]; done))
    · have h2 : ¬ (c :: l).length ≤ 24 := by simp; omega
      rcases bsp ((↑(ByteArray.size s) : Int)) (0) with ⟨hb1, hb1'⟩ | ⟨hb1, hb1'⟩
      · skip
        exfalso; first | contradiction | omega | (simp_all; done)
      · skip
        exact Fn.go KT Try.func70 [.reg [] [], .reg [] [(2, .bit false), (6, .bit true)], .reg [] []] [] [] (B false) ([]) (by kernel_rfl) (q (((↑(ByteArray.size s) : Int) == 0) = false) (q (decide (24 < (↑(ByteArray.size s) : Int)) = true) ob0)) (by (simp only [nameC, decide_eq_false h2, Bool.false_and])) (by first | rfl | (simp [*]; done))

end Go.Ae

/- Nodes of types and of expressions, by the document. -/
namespace Go.Ae
open Go.Proofs

mutual
def tnC : Ty → Int → Int
  | .mk _ _ l, most => tnL l most 1
def tnL : List Ty → Int → Int → Int
  | [], _, n => n
  | t :: l, most, n => if n ≤ most then tnL l most (n + tnC t (most - n)) else n
end

mutual
theorem tnC_bound : ∀ (t : Ty) (m : Int), 1 ≤ tnC t m ∧ (tnC t m = 1 ∨ tnC t m ≤ m + 1)
  | .mk _ _ l, m => by
    have h := tnL_bound l m 1 (by omega)
    rw [tnC]
    omega
theorem tnL_bound : ∀ (l : List Ty) (m n : Int), 1 ≤ n → n ≤ tnL l m n ∧ (tnL l m n = n ∨ tnL l m n ≤ m + 1)
  | [], m, n, h => by simp [tnL]
  | t :: l, m, n, h => by
    rw [tnL]
    split
    · have h1 := tnC_bound t (m - n)
      have h2 := tnL_bound l m (n + tnC t (m - n)) (by omega)
      omega
    · omega
end

theorem tyNodes_loop (k v : Int) (us : List Ty) (m : Int) (hn : us.length ≤ 281474976710656) (hm : m ≤ 100000) (hm0 : -100000 ≤ m) : ∀ (us' : List Ty) (i : Nat) (n : Int), us.drop i = us' → 1 ≤ n → n ≤ 200000 →
    (∀ x ∈ us', ∀ m, -100000 ≤ m → m ≤ 100000 → SoundCall Try.prog 28 [.agg x.enc, I m] [] (I (tnC x m)) []) →
    Lp Try.prog 31 0 (loopN Try.f28 0) ⟨lookT [(1, I m), (2, .lp 0 0), (5, I n), (6, I (i : Int))], [.cells [I k, I v, .sl 3 (Ty.encs us) false] []]⟩
      (.exit 0) ⟨lookT [(5, I (tnL us' m n))], []⟩
  | [], i, n, hd, h1, h2, _ => by
    have hi := drop_end hd
    simp only [tnL]
    exact Lp.last KT [.reg [] [(3, .int (↑(List.length us) : Int)), (4, .bit false)]] [.keep [(5, [])]] (by kernel_rfl) (q ((↑(List.length (Ty.encs us)) : Int) = (↑(List.length us) : Int)) (q (decide ((↑i : Int) < (↑(List.length us) : Int)) = false) ob0)) (by intro h; cases h)
  | .mk k1 v1 xs :: us', i, n, hd, h1, h2, hs => by
    have hi := drop_lt hd
    have hx : (Ty.encs us)[i]? = some (Ty.mk k1 v1 xs).enc := by rw [Ty.encs_get, drop_get hd]; rfl
    rw [show tnL (.mk k1 v1 xs :: us') m n = if n ≤ m then tnL us' m (n + tnC (.mk k1 v1 xs) (m - n)) else n by rw [tnL]]
    by_cases hc : n ≤ m
    · have hb := tnC_bound (.mk k1 v1 xs) (m - n)
      have hr := hs (.mk k1 v1 xs) (by simp) (m - n) (by omega) (by omega)
      have ih := tyNodes_loop k v us m hn hm hm0 us' (i + 1) (n + tnC (.mk k1 v1 xs) (m - n)) (drop_next hd) (by omega) (by omega) (fun x hx => hs x (by simp [hx]))
      simp only [Int.natCast_add] at ih
      rw [if_pos hc]
      clear hs hd
      exact Lp.next KT [.reg [] [(3, .int (↑(List.length us) : Int)), (4, .bit true), (8, .bit true)], .reg [] [(4, .row i (Ty.enc (Ty.mk k1 v1 xs))), (8, .int (m - n)), (9, .call (I (tnC (Ty.mk k1 v1 xs) (m - n))) []), (10, .int (n + tnC (Ty.mk k1 v1 xs) (m - n)))], .reg [] [(1, .int ((↑i : Int) + 1))]] [.keep [(1, []), (2, []), (5, []), (6, [])]] (by kernel_rfl) (q ((↑(List.length (Ty.encs us)) : Int) = (↑(List.length us) : Int)) (q (decide ((↑i : Int) < (↑(List.length us) : Int)) = true) (q (decide (n ≤ m) = true) (q ((↑i : Int) = (↑i : Int)) (q ((Ty.encs us)[i]? = some (Ty.enc (Ty.mk k1 v1 xs))) (qw (m - n) (ob1 (hr) (qw (n + tnC (Ty.mk k1 v1 xs) (m - n)) (qw ((↑i : Int) + 1) ob0))))))))) (ih)
    · rw [if_neg hc]
      clear hs hd
      exact Lp.last KT [.reg [] [(3, .int (↑(List.length us) : Int)), (4, .bit true), (8, .bit false)]] [.keep [(5, [])]] (by kernel_rfl) (q ((↑(List.length (Ty.encs us)) : Int) = (↑(List.length us) : Int)) (q (decide ((↑i : Int) < (↑(List.length us) : Int)) = true) (q (decide (n ≤ m) = false) ob0))) (by intro h; cases h)

theorem tyNodes_ : ∀ (t : Ty) (m : Int), t.ok → -100000 ≤ m → m ≤ 100000 → SoundCall Try.prog 28 [.agg t.enc, I m] [] (I (tnC t m)) []
  | .mk k v l, m, hok, h1, h2 => by
    have hl : l.length ≤ 281474976710656 := hok.2.2.1
    have hr : ∀ x ∈ l, ∀ m, -100000 ≤ m → m ≤ 100000 → SoundCall Try.prog 28 [.agg x.enc, I m] [] (I (tnC x m)) [] := fun x hx m => tyNodes_ x m (Ty.oks_mem hok.2.2.2 x hx)
    have lp := tyNodes_loop k v l m hl h2 h1 l 0 1 rfl (by omega) (by omega) hr
    clear hok hr
    rw [tnC]
    exact Fn.go KT Try.func28 [.reg [] [], .reg [] [], .reg [] [], .loop [.keep [(1, []), (2, []), (5, []), (6, [])]] (Exit.exit 0) { tm := lookT [(5, I (tnL l m 1))], st := [] }, .reg [] []] [] [] (I (tnL l m 1)) ([]) (by kernel_rfl) (ob1 (lp) ob0)

mutual
def shC : Ty → Bool
  | .mk k v l => if k = 0 then decide (1 ≤ v) && decide (v ≤ 4) && decide (l.length = 0) else decide (k = 1) && decide (v = 0) && decide (l.length = 2) && shL l
def shL : List Ty → Bool
  | [] => true
  | t :: l => shC t && shL l
end

theorem shC_two (k v : Int) (a b : Ty) : shC (.mk k v [a, b]) = if k = 0 then false else decide (k = 1) && decide (v = 0) && (shC a && shC b) := by
  rw [shC]; simp [shL]

theorem shaped_ : ∀ (t : Ty), t.ok → SoundCall Try.prog 51 [.agg t.enc] [] (B (shC t)) []
  | .mk k v [], hok => by
    clear hok
    rcases bsp (k) (0) with ⟨hb1, hb1'⟩ | ⟨hb1, hb1'⟩
    · skip
      rcases dsp (1 ≤ v) with ⟨hb2, hb2'⟩ | ⟨hb2, hb2'⟩
      · skip
        rcases dsp (v ≤ 4) with ⟨hb3, hb3'⟩ | ⟨hb3, hb3'⟩
        · skip
          exact Fn.go KT Try.func51 [.reg [] [], .reg [] [(2, .bit true)], .reg [] [(2, .bit true), (6, .bit true)]] [] [] (B true) ([]) (by kernel_rfl) (q ((k == 0) = true) (q (decide (1 ≤ v) = true) (q (decide (v ≤ 4) = true) ob0))) (by (simp [shC, *])) (by first | rfl | (simp [*]; done))
        · skip
          exact Fn.go KT Try.func51 [.reg [] [], .reg [] [(2, .bit true)], .reg [] [(2, .bit true), (6, .bit false)]] [] [] (B false) ([]) (by kernel_rfl) (q ((k == 0) = true) (q (decide (1 ≤ v) = true) (q (decide (v ≤ 4) = false) ob0))) (by (simp [shC, *])) (by first | rfl | (simp [*]; done))
      · skip
        exact Fn.go KT Try.func51 [.reg [] [], .reg [] [(2, .bit true)], .reg [] [(2, .bit false)]] [] [] (B false) ([]) (by kernel_rfl) (q ((k == 0) = true) (q (decide (1 ≤ v) = false) ob0)) (by (simp [shC, *])) (by first | rfl | (simp [*]; done))
    · skip
      rcases bsp (k) (1) with ⟨hb2, hb2'⟩ | ⟨hb2, hb2'⟩
      · skip
        rcases bsp (v) (0) with ⟨hb3, hb3'⟩ | ⟨hb3, hb3'⟩
        · skip
          exact Fn.go KT Try.func51 [.reg [] [], .reg [] [(2, .bit false)], .reg [] [(2, .bit true), (6, .bit true)]] [] [] (B false) ([]) (by kernel_rfl) (q ((k == 0) = false) (q ((k == 1) = true) (q ((v == 0) = true) ob0))) (by (simp [shC, *])) (by first | rfl | (simp [*]; done))
        · skip
          exact Fn.go KT Try.func51 [.reg [] [], .reg [] [(2, .bit false)], .reg [] [(2, .bit true), (6, .bit false)]] [] [] (B false) ([]) (by kernel_rfl) (q ((k == 0) = false) (q ((k == 1) = true) (q ((v == 0) = false) ob0))) (by (simp [shC, *])) (by first | rfl | (simp [*]; done))
      · skip
        exact Fn.go KT Try.func51 [.reg [] [], .reg [] [(2, .bit false)], .reg [] [(2, .bit false)]] [] [] (B false) ([]) (by kernel_rfl) (q ((k == 0) = false) (q ((k == 1) = false) ob0)) (by (simp [shC, *])) (by first | rfl | (simp [*]; done))
  | .mk k v [a], hok => by
    clear hok
    rcases bsp (k) (0) with ⟨hb1, hb1'⟩ | ⟨hb1, hb1'⟩
    · skip
      rcases dsp (1 ≤ v) with ⟨hb2, hb2'⟩ | ⟨hb2, hb2'⟩
      · skip
        rcases dsp (v ≤ 4) with ⟨hb3, hb3'⟩ | ⟨hb3, hb3'⟩
        · skip
          exact Fn.go KT Try.func51 [.reg [] [], .reg [] [(2, .bit true)], .reg [] [(2, .bit true), (6, .bit true)]] [] [] (B false) ([]) (by kernel_rfl) (q ((k == 0) = true) (q (decide (1 ≤ v) = true) (q (decide (v ≤ 4) = true) ob0))) (by (simp [shC, *])) (by first | rfl | (simp [*]; done))
        · skip
          exact Fn.go KT Try.func51 [.reg [] [], .reg [] [(2, .bit true)], .reg [] [(2, .bit true), (6, .bit false)]] [] [] (B false) ([]) (by kernel_rfl) (q ((k == 0) = true) (q (decide (1 ≤ v) = true) (q (decide (v ≤ 4) = false) ob0))) (by (simp [shC, *])) (by first | rfl | (simp [*]; done))
      · skip
        exact Fn.go KT Try.func51 [.reg [] [], .reg [] [(2, .bit true)], .reg [] [(2, .bit false)]] [] [] (B false) ([]) (by kernel_rfl) (q ((k == 0) = true) (q (decide (1 ≤ v) = false) ob0)) (by (simp [shC, *])) (by first | rfl | (simp [*]; done))
    · skip
      rcases bsp (k) (1) with ⟨hb2, hb2'⟩ | ⟨hb2, hb2'⟩
      · skip
        rcases bsp (v) (0) with ⟨hb3, hb3'⟩ | ⟨hb3, hb3'⟩
        · skip
          exact Fn.go KT Try.func51 [.reg [] [], .reg [] [(2, .bit false)], .reg [] [(2, .bit true), (6, .bit true)]] [] [] (B false) ([]) (by kernel_rfl) (q ((k == 0) = false) (q ((k == 1) = true) (q ((v == 0) = true) ob0))) (by (simp [shC, *])) (by first | rfl | (simp [*]; done))
        · skip
          exact Fn.go KT Try.func51 [.reg [] [], .reg [] [(2, .bit false)], .reg [] [(2, .bit true), (6, .bit false)]] [] [] (B false) ([]) (by kernel_rfl) (q ((k == 0) = false) (q ((k == 1) = true) (q ((v == 0) = false) ob0))) (by (simp [shC, *])) (by first | rfl | (simp [*]; done))
      · skip
        exact Fn.go KT Try.func51 [.reg [] [], .reg [] [(2, .bit false)], .reg [] [(2, .bit false)]] [] [] (B false) ([]) (by kernel_rfl) (q ((k == 0) = false) (q ((k == 1) = false) ob0)) (by (simp [shC, *])) (by first | rfl | (simp [*]; done))
  | .mk k v [.mk ka va la, .mk kb vb lb], hok => by
    have ha := shaped_ (.mk ka va la) hok.2.2.2.1
    have hb := shaped_ (.mk kb vb lb) hok.2.2.2.2.1
    clear hok
    rcases bsp (k) (0) with ⟨hb1, hb1'⟩ | ⟨hb1, hb1'⟩
    · skip
      rcases dsp (1 ≤ v) with ⟨hb2, hb2'⟩ | ⟨hb2, hb2'⟩
      · skip
        rcases dsp (v ≤ 4) with ⟨hb3, hb3'⟩ | ⟨hb3, hb3'⟩
        · skip
          exact Fn.go KT Try.func51 [.reg [] [], .reg [] [(2, .bit true)], .reg [] [(2, .bit true), (6, .bit true)]] [] [] (B false) ([]) (by kernel_rfl) (q ((k == 0) = true) (q (decide (1 ≤ v) = true) (q (decide (v ≤ 4) = true) ob0))) (by (rw [shC_two]; simp [*])) (by first | rfl | (simp [*]; done))
        · skip
          exact Fn.go KT Try.func51 [.reg [] [], .reg [] [(2, .bit true)], .reg [] [(2, .bit true), (6, .bit false)]] [] [] (B false) ([]) (by kernel_rfl) (q ((k == 0) = true) (q (decide (1 ≤ v) = true) (q (decide (v ≤ 4) = false) ob0))) (by (rw [shC_two]; simp [*])) (by first | rfl | (simp [*]; done))
      · skip
        exact Fn.go KT Try.func51 [.reg [] [], .reg [] [(2, .bit true)], .reg [] [(2, .bit false)]] [] [] (B false) ([]) (by kernel_rfl) (q ((k == 0) = true) (q (decide (1 ≤ v) = false) ob0)) (by (rw [shC_two]; simp [*])) (by first | rfl | (simp [*]; done))
    · skip
      rcases bsp (k) (1) with ⟨hb2, hb2'⟩ | ⟨hb2, hb2'⟩
      · skip
        rcases bsp (v) (0) with ⟨hb3, hb3'⟩ | ⟨hb3, hb3'⟩
        · skip
          rcases Bool.eq_false_or_eq_true (shC (Ty.mk ka va la)) with hb4 | hb4
          · have hb4' := hb4
            try simp only [decide_eq_true_eq, decide_eq_false_iff_not, beq_iff_eq, bne_iff_ne, ne_eq, beq_eq_false_iff_ne, bne_eq_false_iff_eq, Bool.not_eq_true'] at hb4'
            rcases Bool.eq_false_or_eq_true (shC (Ty.mk kb vb lb)) with hb5 | hb5
            · have hb5' := hb5
              try simp only [decide_eq_true_eq, decide_eq_false_iff_not, beq_iff_eq, bne_iff_ne, ne_eq, beq_eq_false_iff_ne, bne_eq_false_iff_eq, Bool.not_eq_true'] at hb5'
              exact Fn.go KT Try.func51 [.reg [] [], .reg [] [(2, .bit false)], .reg [] [(2, .bit true), (6, .bit true), (17, .row 0 [I ka, I va, AV.sl 3 (Ty.encs la) false]), (19, .call (B true) []), (24, .row 1 [I kb, I vb, AV.sl 3 (Ty.encs lb) false]), (26, .call (B true) [])]] [] [] (B true) ([]) (by kernel_rfl) (q ((k == 0) = false) (q ((k == 1) = true) (q ((v == 0) = true) (q (0 = (↑0 : Int)) (q ([[I ka, I va, AV.sl 3 (Ty.encs la) false], [I kb, I vb, AV.sl 3 (Ty.encs lb) false]][0]? = some [I ka, I va, AV.sl 3 (Ty.encs la) false]) (ob1 (SoundCall.to (ha) (pf (B (shC (Ty.mk ka va la)) = B true)) rfl) (q (1 = (↑1 : Int)) (q ([[I ka, I va, AV.sl 3 (Ty.encs la) false], [I kb, I vb, AV.sl 3 (Ty.encs lb) false]][1]? = some [I kb, I vb, AV.sl 3 (Ty.encs lb) false]) (ob1 (SoundCall.to (hb) (pf (B (shC (Ty.mk kb vb lb)) = B true)) rfl) ob0))))))))) (by (rw [shC_two]; simp [*])) (by first | rfl | (simp [*]; done))
            · have hb5' := hb5
              try simp only [decide_eq_true_eq, decide_eq_false_iff_not, beq_iff_eq, bne_iff_ne, ne_eq, beq_eq_false_iff_ne, bne_eq_false_iff_eq, Bool.not_eq_true'] at hb5'
              exact Fn.go KT Try.func51 [.reg [] [], .reg [] [(2, .bit false)], .reg [] [(2, .bit true), (6, .bit true), (17, .row 0 [I ka, I va, AV.sl 3 (Ty.encs la) false]), (19, .call (B true) []), (24, .row 1 [I kb, I vb, AV.sl 3 (Ty.encs lb) false]), (26, .call (B false) [])]] [] [] (B false) ([]) (by kernel_rfl) (q ((k == 0) = false) (q ((k == 1) = true) (q ((v == 0) = true) (q (0 = (↑0 : Int)) (q ([[I ka, I va, AV.sl 3 (Ty.encs la) false], [I kb, I vb, AV.sl 3 (Ty.encs lb) false]][0]? = some [I ka, I va, AV.sl 3 (Ty.encs la) false]) (ob1 (SoundCall.to (ha) (pf (B (shC (Ty.mk ka va la)) = B true)) rfl) (q (1 = (↑1 : Int)) (q ([[I ka, I va, AV.sl 3 (Ty.encs la) false], [I kb, I vb, AV.sl 3 (Ty.encs lb) false]][1]? = some [I kb, I vb, AV.sl 3 (Ty.encs lb) false]) (ob1 (SoundCall.to (hb) (pf (B (shC (Ty.mk kb vb lb)) = B false)) rfl) ob0))))))))) (by (rw [shC_two]; simp [*])) (by first | rfl | (simp [*]; done))
          · have hb4' := hb4
            try simp only [decide_eq_true_eq, decide_eq_false_iff_not, beq_iff_eq, bne_iff_ne, ne_eq, beq_eq_false_iff_ne, bne_eq_false_iff_eq, Bool.not_eq_true'] at hb4'
            exact Fn.go KT Try.func51 [.reg [] [], .reg [] [(2, .bit false)], .reg [] [(2, .bit true), (6, .bit true), (17, .row 0 [I ka, I va, AV.sl 3 (Ty.encs la) false]), (19, .call (B false) [])]] [] [] (B false) ([]) (by kernel_rfl) (q ((k == 0) = false) (q ((k == 1) = true) (q ((v == 0) = true) (q (0 = (↑0 : Int)) (q ([[I ka, I va, AV.sl 3 (Ty.encs la) false], [I kb, I vb, AV.sl 3 (Ty.encs lb) false]][0]? = some [I ka, I va, AV.sl 3 (Ty.encs la) false]) (ob1 (SoundCall.to (ha) (pf (B (shC (Ty.mk ka va la)) = B false)) rfl) ob0)))))) (by (rw [shC_two]; simp [*])) (by first | rfl | (simp [*]; done))
        · skip
          exact Fn.go KT Try.func51 [.reg [] [], .reg [] [(2, .bit false)], .reg [] [(2, .bit true), (6, .bit false)]] [] [] (B false) ([]) (by kernel_rfl) (q ((k == 0) = false) (q ((k == 1) = true) (q ((v == 0) = false) ob0))) (by (rw [shC_two]; simp [*])) (by first | rfl | (simp [*]; done))
      · skip
        exact Fn.go KT Try.func51 [.reg [] [], .reg [] [(2, .bit false)], .reg [] [(2, .bit false)]] [] [] (B false) ([]) (by kernel_rfl) (q ((k == 0) = false) (q ((k == 1) = false) ob0)) (by (rw [shC_two]; simp [*])) (by first | rfl | (simp [*]; done))
  | .mk k v (a :: b :: c :: l), hok => by
    have hl : l.length ≤ 281474976710656 := by have := hok.2.2.1; simp at this; omega
    clear hok
    rcases bsp (k) (0) with ⟨hb1, hb1'⟩ | ⟨hb1, hb1'⟩
    · skip
      rcases dsp (1 ≤ v) with ⟨hb2, hb2'⟩ | ⟨hb2, hb2'⟩
      · skip
        rcases dsp (v ≤ 4) with ⟨hb3, hb3'⟩ | ⟨hb3, hb3'⟩
        · skip
          exact Fn.go KT Try.func51 [.reg [] [], .reg [] [(2, .bit true)], .reg [] [(2, .bit true), (6, .bit true), (11, .int ((↑(List.length l) : Int) + 1 + 1 + 1))]] [] [] (B false) ([]) (by kernel_rfl) (q ((k == 0) = true) (q (decide (1 ≤ v) = true) (q (decide (v ≤ 4) = true) (q ((↑(List.length (Ty.enc a :: Ty.enc b :: Ty.enc c :: Ty.encs l)) : Int) = (↑(List.length l) : Int) + 1 + 1 + 1) ob0)))) (by (simp [shC, *])) (by first | rfl | (simp [*]; done))
        · skip
          exact Fn.go KT Try.func51 [.reg [] [], .reg [] [(2, .bit true)], .reg [] [(2, .bit true), (6, .bit false)]] [] [] (B false) ([]) (by kernel_rfl) (q ((k == 0) = true) (q (decide (1 ≤ v) = true) (q (decide (v ≤ 4) = false) ob0))) (by (simp [shC, *])) (by first | rfl | (simp [*]; done))
      · skip
        exact Fn.go KT Try.func51 [.reg [] [], .reg [] [(2, .bit true)], .reg [] [(2, .bit false)]] [] [] (B false) ([]) (by kernel_rfl) (q ((k == 0) = true) (q (decide (1 ≤ v) = false) ob0)) (by (simp [shC, *])) (by first | rfl | (simp [*]; done))
    · skip
      rcases bsp (k) (1) with ⟨hb2, hb2'⟩ | ⟨hb2, hb2'⟩
      · skip
        rcases bsp (v) (0) with ⟨hb3, hb3'⟩ | ⟨hb3, hb3'⟩
        · skip
          exact Fn.go KT Try.func51 [.reg [] [], .reg [] [(2, .bit false)], .reg [] [(2, .bit true), (6, .bit true), (11, .int ((↑(List.length l) : Int) + 1 + 1 + 1))]] [] [] (B false) ([]) (by kernel_rfl) (q ((k == 0) = false) (q ((k == 1) = true) (q ((v == 0) = true) (q ((↑(List.length (Ty.enc a :: Ty.enc b :: Ty.enc c :: Ty.encs l)) : Int) = (↑(List.length l) : Int) + 1 + 1 + 1) ob0)))) (by (simp [shC, *])) (by first | rfl | (simp [*]; done))
        · skip
          exact Fn.go KT Try.func51 [.reg [] [], .reg [] [(2, .bit false)], .reg [] [(2, .bit true), (6, .bit false)]] [] [] (B false) ([]) (by kernel_rfl) (q ((k == 0) = false) (q ((k == 1) = true) (q ((v == 0) = false) ob0))) (by (simp [shC, *])) (by first | rfl | (simp [*]; done))
      · skip
        exact Fn.go KT Try.func51 [.reg [] [], .reg [] [(2, .bit false)], .reg [] [(2, .bit false)]] [] [] (B false) ([]) (by kernel_rfl) (q ((k == 0) = false) (q ((k == 1) = false) ob0)) (by (simp [shC, *])) (by first | rfl | (simp [*]; done))
termination_by t => SizeOf.sizeOf t

theorem refIsTy_ (t : Ty) (hok : t.ok) : SoundCall Try.prog 30 [.agg t.enc] [] (B (decide (tnC t 20 ≤ 20) && shC t)) [] := by
  have h1 := tyNodes_ t 20 hok (by omega) (by omega)
  have h2 := shaped_ t hok
  obtain ⟨k, v, l⟩ := t
  clear hok
  rcases dsp (tnC (Ty.mk k v l) 20 ≤ 20) with ⟨hb1, hb1'⟩ | ⟨hb1, hb1'⟩
  · skip
    rcases Bool.eq_false_or_eq_true (shC (Ty.mk k v l)) with hb2 | hb2
    · have hb2' := hb2
      try simp only [decide_eq_true_eq, decide_eq_false_iff_not, beq_iff_eq, bne_iff_ne, ne_eq, beq_eq_false_iff_ne, bne_eq_false_iff_eq, Bool.not_eq_true'] at hb2'
      exact Fn.go KT Try.func30 [.reg [] [], .reg [] [(1, .call (I (tnC (Ty.mk k v l) 20)) []), (2, .bit true), (5, .call (B true) [])]] [] [] (B true) ([]) (by kernel_rfl) (ob1 (h1) (q (decide (tnC (Ty.mk k v l) 20 ≤ 20) = true) (ob1 (SoundCall.to (h2) (pf (B (shC (Ty.mk k v l)) = B true)) rfl) ob0)))
    · have hb2' := hb2
      try simp only [decide_eq_true_eq, decide_eq_false_iff_not, beq_iff_eq, bne_iff_ne, ne_eq, beq_eq_false_iff_ne, bne_eq_false_iff_eq, Bool.not_eq_true'] at hb2'
      exact Fn.go KT Try.func30 [.reg [] [], .reg [] [(1, .call (I (tnC (Ty.mk k v l) 20)) []), (2, .bit true), (5, .call (B false) [])]] [] [] (B false) ([]) (by kernel_rfl) (ob1 (h1) (q (decide (tnC (Ty.mk k v l) 20 ≤ 20) = true) (ob1 (SoundCall.to (h2) (pf (B (shC (Ty.mk k v l)) = B false)) rfl) ob0)))
  · skip
    exact Fn.go KT Try.func30 [.reg [] [], .reg [] [(1, .call (I (tnC (Ty.mk k v l) 20)) []), (2, .bit false)]] [] [] (B false) ([]) (by kernel_rfl) (ob1 (h1) (q (decide (tnC (Ty.mk k v l) 20 ≤ 20) = false) ob0))

end Go.Ae

/- Nodes and depth of expressions, by the document; small functions. -/
namespace Go.Ae
open Go.Proofs

mutual
def ndC : Expr → Int → Int
  | .mk _ _ _ _ l, most => ndL l most 1
def ndL : List Expr → Int → Int → Int
  | [], _, n => n
  | t :: l, most, n => if n ≤ most then ndL l most (n + ndC t (most - n)) else n
end

mutual
theorem ndC_bound : ∀ (t : Expr) (m : Int), 1 ≤ ndC t m ∧ (ndC t m = 1 ∨ ndC t m ≤ m + 1)
  | .mk _ _ _ _ l, m => by
    have h := ndL_bound l m 1 (by omega)
    rw [ndC]
    omega
theorem ndL_bound : ∀ (l : List Expr) (m n : Int), 1 ≤ n → n ≤ ndL l m n ∧ (ndL l m n = n ∨ ndL l m n ≤ m + 1)
  | [], m, n, h => by simp [ndL]
  | t :: l, m, n, h => by
    rw [ndL]
    split
    · have h1 := ndC_bound t (m - n)
      have h2 := ndL_bound l m (n + ndC t (m - n)) (by omega)
      omega
    · omega
end

theorem nodes_loop (k v w tk tv : Int) (tl : List Ty) (us : List Expr) (m : Int) (hn : us.length ≤ 281474976710656) (hm : m ≤ 100000) (hm0 : -100000 ≤ m) : ∀ (us' : List Expr) (i : Nat) (n : Int), us.drop i = us' → 1 ≤ n → n ≤ 200000 →
    (∀ x ∈ us', ∀ m, -100000 ≤ m → m ≤ 100000 → SoundCall Try.prog 53 [.agg x.enc, I m] [] (I (ndC x m)) []) →
    Lp Try.prog 31 0 (loopN Try.f53 0) ⟨lookT [(1, I m), (2, .lp 0 0), (5, I n), (6, I (i : Int))], [.cells [I k, I v, I w, I tk, I tv, .sl 3 (Ty.encs tl) false, .sl 7 (Expr.encs us) false] []]⟩
      (.exit 0) ⟨lookT [(5, I (ndL us' m n))], []⟩
  | [], i, n, hd, h1, h2, _ => by
    have hi := drop_end hd
    simp only [ndL]
    exact Lp.last KT [.reg [] [(3, .int (↑(List.length us) : Int)), (4, .bit false)]] [.keep [(5, [])]] (by kernel_rfl) (q ((↑(List.length (Expr.encs us)) : Int) = (↑(List.length us) : Int)) (q (decide ((↑i : Int) < (↑(List.length us) : Int)) = false) ob0)) (by intro h; cases h)
  | .mk k1 m1 v1 (.mk tk1 tv1 tl1) xs :: us', i, n, hd, h1, h2, hs => by
    have hi := drop_lt hd
    have hx : (Expr.encs us)[i]? = some (Expr.mk k1 m1 v1 (.mk tk1 tv1 tl1) xs).enc := by rw [Expr.encs_get, drop_get hd]; rfl
    rw [show ndL (.mk k1 m1 v1 (.mk tk1 tv1 tl1) xs :: us') m n = if n ≤ m then ndL us' m (n + ndC (.mk k1 m1 v1 (.mk tk1 tv1 tl1) xs) (m - n)) else n by rw [ndL]]
    by_cases hc : n ≤ m
    · have hb := ndC_bound (.mk k1 m1 v1 (.mk tk1 tv1 tl1) xs) (m - n)
      have hr := hs (.mk k1 m1 v1 (.mk tk1 tv1 tl1) xs) (by simp) (m - n) (by omega) (by omega)
      have ih := nodes_loop k v w tk tv tl us m hn hm hm0 us' (i + 1) (n + ndC (.mk k1 m1 v1 (.mk tk1 tv1 tl1) xs) (m - n)) (drop_next hd) (by omega) (by omega) (fun x hx => hs x (by simp [hx]))
      simp only [Int.natCast_add] at ih
      rw [if_pos hc]
      clear hs hd
      exact Lp.next KT [.reg [] [(3, .int (↑(List.length us) : Int)), (4, .bit true), (8, .bit true)], .reg [] [(4, .row i (Expr.enc (Expr.mk k1 m1 v1 (Ty.mk tk1 tv1 tl1) xs))), (8, .int (m - n)), (9, .call (I (ndC (Expr.mk k1 m1 v1 (Ty.mk tk1 tv1 tl1) xs) (m - n))) []), (10, .int (n + ndC (Expr.mk k1 m1 v1 (Ty.mk tk1 tv1 tl1) xs) (m - n)))], .reg [] [(1, .int ((↑i : Int) + 1))]] [.keep [(1, []), (2, []), (5, []), (6, [])]] (by kernel_rfl) (q ((↑(List.length (Expr.encs us)) : Int) = (↑(List.length us) : Int)) (q (decide ((↑i : Int) < (↑(List.length us) : Int)) = true) (q (decide (n ≤ m) = true) (q ((↑i : Int) = (↑i : Int)) (q ((Expr.encs us)[i]? = some (Expr.enc (Expr.mk k1 m1 v1 (Ty.mk tk1 tv1 tl1) xs))) (qw (m - n) (ob1 (hr) (qw (n + ndC (Expr.mk k1 m1 v1 (Ty.mk tk1 tv1 tl1) xs) (m - n)) (qw ((↑i : Int) + 1) ob0))))))))) (ih)
    · rw [if_neg hc]
      clear hs hd
      exact Lp.last KT [.reg [] [(3, .int (↑(List.length us) : Int)), (4, .bit true), (8, .bit false)]] [.keep [(5, [])]] (by kernel_rfl) (q ((↑(List.length (Expr.encs us)) : Int) = (↑(List.length us) : Int)) (q (decide ((↑i : Int) < (↑(List.length us) : Int)) = true) (q (decide (n ≤ m) = false) ob0))) (by intro h; cases h)

theorem nodes_ : ∀ (t : Expr) (m : Int), t.ok → -100000 ≤ m → m ≤ 100000 → SoundCall Try.prog 53 [.agg t.enc, I m] [] (I (ndC t m)) []
  | .mk k v w (.mk tk tv tl) l, m, hok, h1, h2 => by
    have hl : l.length ≤ 281474976710656 := hok.2.2.2.2.1
    have hr : ∀ x ∈ l, ∀ m, -100000 ≤ m → m ≤ 100000 → SoundCall Try.prog 53 [.agg x.enc, I m] [] (I (ndC x m)) [] := fun x hx m => nodes_ x m (Expr.oks_mem hok.2.2.2.2.2 x hx)
    have lp := nodes_loop k v w tk tv tl l m hl h2 h1 l 0 1 rfl (by omega) (by omega) hr
    clear hok hr
    rw [ndC]
    exact Fn.go KT Try.func53 [.reg [] [], .reg [] [], .reg [] [], .loop [.keep [(1, []), (2, []), (5, []), (6, [])]] (Exit.exit 0) { tm := lookT [(5, I (ndL l m 1))], st := [] }, .reg [] []] [] [] (I (ndL l m 1)) ([]) (by kernel_rfl) (ob1 (lp) ob0)

mutual
def dpC : Expr → Int
  | .mk _ _ _ _ l => dpL l 0 + 1
def dpL : List Expr → Int → Int
  | [], n => n
  | t :: l, n => dpL l (if n < dpC t then dpC t else n)
end

mutual
theorem dpC_pos : ∀ (t : Expr), 1 ≤ dpC t
  | .mk _ _ _ _ l => by have := dpL_ge l 0; rw [dpC]; omega
theorem dpL_ge : ∀ (l : List Expr) (n : Int), n ≤ dpL l n
  | [], n => by simp [dpL]
  | t :: l, n => by have := dpL_ge l (if n < dpC t then dpC t else n); rw [dpL]; split at this <;> split <;> omega
end

theorem dpL_mem : ∀ (l : List Expr) (n : Int) (t : Expr), t ∈ l → dpC t ≤ dpL l n
  | [], n, t, h => by simp at h
  | x :: l, n, t, h => by
    rw [dpL]
    rcases List.mem_cons.1 h with rfl | h
    · have := dpL_ge l (if n < dpC t then dpC t else n); split at this <;> split <;> omega
    · exact dpL_mem l _ t h

theorem depth_loop (us : List Expr) (hn : us.length ≤ 281474976710656) : ∀ (us' : List Expr) (i : Nat) (n : Int), us.drop i = us' → 0 ≤ n → dpL us' n ≤ 100000 →
    (∀ x ∈ us', dpC x ≤ 100000 → SoundCall Try.prog 54 [.agg x.enc] [] (I (dpC x)) []) →
    Lp Try.prog 20 0 (loopN Try.f54 0) ⟨lookT [(3, I n), (7, .sl 7 (Expr.encs us) false), (8, I (us.length : Int)), (9, I (i : Int))], []⟩
      (.exit 0) ⟨lookT [(3, I (dpL us' n))], []⟩
  | [], i, n, hd, h1, h2, _ => by
    have hi := drop_end hd
    simp only [dpL]
    exact Lp.last KT [.reg [] [(0, .bit false)]] [.keep [(3, [])]] (by kernel_rfl) (q (decide ((↑i : Int) < (↑(List.length us) : Int)) = false) ob0) (by intro h; cases h)
  | .mk k1 m1 v1 (.mk tk1 tv1 tl1) xs :: us', i, n, hd, h1, h2, hs => by
    have hi := drop_lt hd
    have hx : (Expr.encs us)[i]? = some (Expr.mk k1 m1 v1 (.mk tk1 tv1 tl1) xs).enc := by rw [Expr.encs_get, drop_get hd]; rfl
    rw [dpL] at h2
    have hg := dpL_ge us' (if n < dpC (.mk k1 m1 v1 (.mk tk1 tv1 tl1) xs) then dpC (.mk k1 m1 v1 (.mk tk1 tv1 tl1) xs) else n)
    have hp := dpC_pos (.mk k1 m1 v1 (.mk tk1 tv1 tl1) xs)
    have hr := hs (.mk k1 m1 v1 (.mk tk1 tv1 tl1) xs) (by simp) (by split at hg <;> split at h2 <;> omega)
    have ih := depth_loop us hn us' (i + 1) (if n < dpC (.mk k1 m1 v1 (.mk tk1 tv1 tl1) xs) then dpC (.mk k1 m1 v1 (.mk tk1 tv1 tl1) xs) else n) (drop_next hd) (by split <;> omega) h2 (fun x hx => hs x (by simp [hx]))
    rw [show dpL (.mk k1 m1 v1 (.mk tk1 tv1 tl1) xs :: us') n = dpL us' (if n < dpC (.mk k1 m1 v1 (.mk tk1 tv1 tl1) xs) then dpC (.mk k1 m1 v1 (.mk tk1 tv1 tl1) xs) else n) by rw [dpL]]
    simp only [Int.natCast_add] at ih
    clear hs hd
    exact Lp.next KT [.reg [] [(0, .bit true)], .reg [] [(0, .row i (Expr.enc (Expr.mk k1 m1 v1 (Ty.mk tk1 tv1 tl1) xs)))], .reg [] [(2, .call (I (dpC (Expr.mk k1 m1 v1 (Ty.mk tk1 tv1 tl1) xs))) []), (3, .int (if n < dpC (Expr.mk k1 m1 v1 (Ty.mk tk1 tv1 tl1) xs) then dpC (Expr.mk k1 m1 v1 (Ty.mk tk1 tv1 tl1) xs) else n))], .reg [] [(0, .int ((↑i : Int) + 1))]] [.keep [(3, []), (7, []), (8, []), (9, [])]] (by kernel_rfl) (q (decide ((↑i : Int) < (↑(List.length us) : Int)) = true) (q ((↑i : Int) = (↑i : Int)) (q ((Expr.encs us)[i]? = some (Expr.enc (Expr.mk k1 m1 v1 (Ty.mk tk1 tv1 tl1) xs))) (ob1 (hr) (q ((if dpC (Expr.mk k1 m1 v1 (Ty.mk tk1 tv1 tl1) xs) > n then dpC (Expr.mk k1 m1 v1 (Ty.mk tk1 tv1 tl1) xs) else n) = if n < dpC (Expr.mk k1 m1 v1 (Ty.mk tk1 tv1 tl1) xs) then dpC (Expr.mk k1 m1 v1 (Ty.mk tk1 tv1 tl1) xs) else n) (qw ((↑i : Int) + 1) ob0)))))) (ih)

theorem depth_ : ∀ (t : Expr), t.ok → dpC t ≤ 100000 → SoundCall Try.prog 54 [.agg t.enc] [] (I (dpC t)) []
  | .mk k v w (.mk tk tv tl) l, hok, h1 => by
    have hl : l.length ≤ 281474976710656 := hok.2.2.2.2.1
    have hr : ∀ x ∈ l, dpC x ≤ 100000 → SoundCall Try.prog 54 [.agg x.enc] [] (I (dpC x)) [] := fun x hx => depth_ x (Expr.oks_mem hok.2.2.2.2.2 x hx)
    rw [dpC] at h1
    have hp := dpL_ge l 0
    have lp := depth_loop l hl l 0 0 rfl (by omega) (by omega) hr
    clear hok hr
    rw [dpC]
    exact Fn.go KT Try.func54 [.reg [] [], .reg [] [], .reg [] [(2, .int (↑(List.length l) : Int))], .loop [.keep [(3, []), (7, []), (8, []), (9, [])]] (Exit.exit 0) { tm := lookT [(3, I (dpL l 0))], st := [] }, .reg [] [(1, .int (dpL l 0 + 1))]] [] [] (I (dpL l 0 + 1)) ([]) (by kernel_rfl) (q ((↑(List.length (Expr.encs l)) : Int) = (↑(List.length l) : Int)) (ob1 (lp) (qw (dpL l 0 + 1) ob0)))

end Go.Ae

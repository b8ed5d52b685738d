/- The data: types, expressions, programs, and how they lie in memory. .. (AeLLD0, AeLLK0, AeLLF1, AeLLF2, AeLLF3, AeLLF7, AeLLF25, AeLLS0, AeLLB0) -/
import Derived.Test.YtmnnmjbjcdjglaaDoorT4
import Derived.Test.YtmnnmjbjcdjglaaDoorProg
set_option linter.unusedSimpArgs false
set_option linter.unusedVariables false
/- The data: types, expressions, programs, and how they lie in memory. -/
namespace Go.Ae

abbrev I (n : Int) : AV := .sc (.int .i64 n)
abbrev B (b : Bool) : AV := .sc (.bool b)
abbrev S (s : ByteArray) : AV := .sc (.string s)

inductive Ty where
  | mk (kind vals : Int) (args : List Ty)

noncomputable instance : DecidableEq Ty := fun _ _ => Classical.propDecidable _

mutual
def Ty.enc : Ty → List AV
  | .mk k v l => [I k, I v, .sl 3 (Ty.encs l) false]
def Ty.encs : List Ty → List (List AV)
  | [] => []
  | t :: ts => t.enc :: Ty.encs ts
end

@[simp] theorem Ty.encs_length : ∀ l : List Ty, (Ty.encs l).length = l.length
  | [] => rfl
  | _ :: l => by simp [Ty.encs, Ty.encs_length l]

theorem Ty.encs_get : ∀ (l : List Ty) (i : Nat), (Ty.encs l)[i]? = (l[i]?).map Ty.enc
  | [], i => by simp [Ty.encs]
  | t :: l, 0 => by simp [Ty.encs]
  | t :: l, i + 1 => by simp [Ty.encs, Ty.encs_get l i]

inductive Expr where
  | mk (kind n vals : Int) (ty : Ty) (args : List Expr)

noncomputable instance : DecidableEq Expr := fun _ _ => Classical.propDecidable _

mutual
def Expr.enc : Expr → List AV
  | .mk k n v (.mk tk tv tl) l => [I k, I n, I v, I tk, I tv, .sl 3 (Ty.encs tl) false, .sl 7 (Expr.encs l) false]
def Expr.encs : List Expr → List (List AV)
  | [] => []
  | e :: es => e.enc :: Expr.encs es
end

@[simp] theorem Expr.encs_length : ∀ l : List Expr, (Expr.encs l).length = l.length
  | [] => rfl
  | _ :: l => by simp [Expr.encs, Expr.encs_length l]

theorem Expr.encs_get : ∀ (l : List Expr) (i : Nat), (Expr.encs l)[i]? = (l[i]?).map Expr.enc
  | [], i => by simp [Expr.encs]
  | t :: l, 0 => by simp [Expr.encs]
  | t :: l, i + 1 => by simp [Expr.encs, Expr.encs_get l i]

/-- A number of Go's. -/
def ir (n : Int) : Prop := -9223372036854775808 ≤ n ∧ n ≤ 9223372036854775807

mutual
def Ty.ok : Ty → Prop
  | .mk k v l => ir k ∧ ir v ∧ l.length ≤ 281474976710656 ∧ Ty.oks l
def Ty.oks : List Ty → Prop
  | [] => True
  | t :: ts => t.ok ∧ Ty.oks ts
end

mutual
def Expr.ok : Expr → Prop
  | .mk k n v t l => ir k ∧ ir n ∧ ir v ∧ t.ok ∧ l.length ≤ 281474976710656 ∧ Expr.oks l
def Expr.oks : List Expr → Prop
  | [] => True
  | t :: ts => t.ok ∧ Expr.oks ts
end

theorem Ty.oks_mem : ∀ {l : List Ty}, Ty.oks l → ∀ t ∈ l, t.ok
  | [], _, t, h => by simp at h
  | x :: l, hx, t, h => by
    simp only [Ty.oks] at hx
    rcases List.mem_cons.1 h with rfl | h
    · exact hx.1
    · exact Ty.oks_mem hx.2 t h
theorem Expr.oks_mem : ∀ {l : List Expr}, Expr.oks l → ∀ t ∈ l, t.ok
  | [], _, t, h => by simp at h
  | x :: l, hx, t, h => by
    simp only [Expr.oks] at hx
    rcases List.mem_cons.1 h with rfl | h
    · exact hx.1
    · exact Expr.oks_mem hx.2 t h

theorem drop_get {α : Type} {l : List α} {i : Nat} {x : α} {r : List α} (h : l.drop i = x :: r) : l[i]? = some x := by
  rw [← List.head?_drop, h]; rfl
theorem drop_next {α : Type} {l : List α} {i : Nat} {x : α} {r : List α} (h : l.drop i = x :: r) : l.drop (i + 1) = r := by
  rw [← List.tail_drop, h]; rfl
theorem drop_lt {α : Type} {l : List α} {i : Nat} {x : α} {r : List α} (h : l.drop i = x :: r) : i < l.length := by
  have := congrArg List.length h; simp at this; omega
theorem drop_end {α : Type} {l : List α} {i : Nat} (h : l.drop i = []) : l.length ≤ i := by
  have := congrArg List.length h; simp at this; omega

end Go.Ae

/- Which cells of a type are slices, and how many cells their elements have. -/
namespace Go.Ae

def KT : Kinds := [
  (24, [none, none, some 3]), (22, [some 3])]

end Go.Ae

/- Equality of types. -/
namespace Go.Ae
open Go.Proofs

theorem eqTy_loop_0 (k v k2 v2 : Int) (us ws : List Ty) (hn : us.length ≤ 281474976710656) : ∀ (us' ws' : List Ty) (i : Nat), us.drop i = us' → ws.drop i = ws' → us'.length = ws'.length →
    (∀ x ∈ us', ∀ y, SoundCall Tryd.prog 9 [.agg x.enc, .agg y.enc] [] (B (decide (x = y))) []) →
    Lp Tryd.prog 46 0 (loopN Tryd.f9 0) ⟨lookT [(2, .lp 0 0), (3, .lp 1 0), (29, I (us.length : Int)), (30, I (i : Int))], [.cells [I k, I v, .sl 3 (Ty.encs us) false] [], .cells [I k2, I v2, .sl 3 (Ty.encs ws) false] []]⟩
      (if us' = ws' then .exit 0 else .ret) (if us' = ws' then ⟨lookT [], []⟩ else ⟨lookT [(4, B false)], []⟩)
  | [], ws', i, h1, h2, hl, _ => by
    cases ws' with
    | cons y ws' => simp at hl
    | nil =>
      have hi := drop_end h1
      rw [if_pos rfl, if_pos rfl]
      exact Lp.last KT [.reg [] [(0, .bit false)]] [.keep []] (by kernel_rfl) (q (decide ((↑i : Int) < (↑(List.length us) : Int)) = false) ob0) (by intro h; cases h)
  | .mk k1 v1 xs :: us', ws', i, h1, h2, hl, hs => by
    cases ws' with
    | nil => simp at hl
    | cons y ws' =>
      obtain ⟨k3, v3, ys⟩ := y
      have hi := drop_lt h1
      have hx : (Ty.encs us)[i]? = some (Ty.mk k1 v1 xs).enc := by rw [Ty.encs_get, drop_get h1]; rfl
      have hy : (Ty.encs ws)[i]? = some (Ty.mk k3 v3 ys).enc := by rw [Ty.encs_get, drop_get h2]; rfl
      have hc := hs (.mk k1 v1 xs) (by simp) (.mk k3 v3 ys)
      have ih := eqTy_loop_0 k v k2 v2 us ws hn us' ws' (i + 1) (drop_next h1) (drop_next h2) (by simpa using hl) (fun x hx => hs x (by simp [hx]))
      simp only [Int.natCast_add] at ih
      clear hs h1 h2
      by_cases he : Ty.mk k1 v1 xs = Ty.mk k3 v3 ys
      · rw [decide_eq_true he] at hc
        simp only [he, List.cons.injEq, true_and]
        exact Lp.next KT [.reg [] [(0, .bit true)], .reg [] [], .reg [] [(3, .row i (Ty.enc (Ty.mk k1 v1 xs))), (8, .row i (Ty.enc (Ty.mk k3 v3 ys))), (10, .call (B true) [])], .reg [] [(0, .int ((↑i : Int) + 1))]] [.keep [(2, []), (3, []), (29, []), (30, [])]] (by kernel_rfl) (q (decide ((↑i : Int) < (↑(List.length us) : Int)) = true) (q ((↑i : Int) = (↑i : Int)) (q ((Ty.encs us)[i]? = some (Ty.enc (Ty.mk k1 v1 xs))) (q ((↑i : Int) = (↑i : Int)) (q ((Ty.encs ws)[i]? = some (Ty.enc (Ty.mk k3 v3 ys))) (ob1 (hc) (qw ((↑i : Int) + 1) ob0))))))) (ih)
      · rw [decide_eq_false he] at hc
        simp only [List.cons.injEq, he, false_and, if_false]
        clear ih
        exact Lp.last KT [.reg [] [(0, .bit true)], .reg [] [], .reg [] [(3, .row i (Ty.enc (Ty.mk k1 v1 xs))), (8, .row i (Ty.enc (Ty.mk k3 v3 ys))), (10, .call (B false) [])], .reg [] []] [.keep [(4, [])]] (by kernel_rfl) (q (decide ((↑i : Int) < (↑(List.length us) : Int)) = true) (q ((↑i : Int) = (↑i : Int)) (q ((Ty.encs us)[i]? = some (Ty.enc (Ty.mk k1 v1 xs))) (q ((↑i : Int) = (↑i : Int)) (q ((Ty.encs ws)[i]? = some (Ty.enc (Ty.mk k3 v3 ys))) (ob1 (hc) ob0)))))) (by intro h; cases h)

theorem eqTy_0 : ∀ (a b : Ty), a.ok → SoundCall Tryd.prog 9 [.agg a.enc, .agg b.enc] [] (B (decide (a = b))) []
  | .mk k v us, .mk k2 v2 ws, hok => by
    simp only [Ty.ok] at hok
    obtain ⟨-, -, hn, hoks⟩ := hok
    have hr : ∀ x ∈ us, ∀ y, SoundCall Tryd.prog 9 [.agg x.enc, .agg y.enc] [] (B (decide (x = y))) [] := fun x hx y => eqTy_0 x y (Ty.oks_mem hoks x hx)
    by_cases h1 : k = k2
    · by_cases h2 : v = v2
      · by_cases h3 : us.length = ws.length
        · have hl := eqTy_loop_0 k v k2 v2 us ws hn us ws 0 rfl rfl h3 hr
          by_cases h4 : us = ws
          · simp only [if_pos h4] at hl
            exact Fn.go KT Tryd.func9 [.reg [] [], .reg [] [(4, .bit false), (10, .bit false), (15, .int (↑(List.length us) : Int)), (18, .int (↑(List.length ws) : Int)), (19, .bit false)], .reg [] [(2, .int (↑(List.length us) : Int))], .loop [.keep [(2, []), (3, []), (29, []), (30, [])]] (Exit.exit 0) { tm := lookT [], st := [] }, .reg [] []] [] [] (B true) ([]) (by kernel_rfl) (q ((k != k2) = false) (q ((v != v2) = false) (q ((↑(List.length (Ty.encs us)) : Int) = (↑(List.length us) : Int)) (q ((↑(List.length (Ty.encs ws)) : Int) = (↑(List.length ws) : Int)) (q (((↑(List.length us) : Int) != (↑(List.length ws) : Int)) = false) (q ((↑(List.length (Ty.encs us)) : Int) = (↑(List.length us) : Int)) (ob1 (hl) ob0)))))))
          · simp only [if_neg h4] at hl
            exact Fn.go KT Tryd.func9 [.reg [] [], .reg [] [(4, .bit false), (10, .bit false), (15, .int (↑(List.length us) : Int)), (18, .int (↑(List.length ws) : Int)), (19, .bit false)], .reg [] [(2, .int (↑(List.length us) : Int))], .loop [.keep [(2, []), (3, []), (29, []), (30, [])]] Exit.ret { tm := lookT [(4, B false)], st := [] }] [] [] (B false) ([]) (by kernel_rfl) (q ((k != k2) = false) (q ((v != v2) = false) (q ((↑(List.length (Ty.encs us)) : Int) = (↑(List.length us) : Int)) (q ((↑(List.length (Ty.encs ws)) : Int) = (↑(List.length ws) : Int)) (q (((↑(List.length us) : Int) != (↑(List.length ws) : Int)) = false) (q ((↑(List.length (Ty.encs us)) : Int) = (↑(List.length us) : Int)) (ob1 (hl) ob0)))))))
        · have h4 : ¬us = ws := fun h => h3 (by rw [h])
          exact Fn.go KT Tryd.func9 [.reg [] [], .reg [] [(4, .bit false), (10, .bit false), (15, .int (↑(List.length us) : Int)), (18, .int (↑(List.length ws) : Int)), (19, .bit true)], .reg [] []] [] [] (B false) ([]) (by kernel_rfl) (q ((k != k2) = false) (q ((v != v2) = false) (q ((↑(List.length (Ty.encs us)) : Int) = (↑(List.length us) : Int)) (q ((↑(List.length (Ty.encs ws)) : Int) = (↑(List.length ws) : Int)) (q (((↑(List.length us) : Int) != (↑(List.length ws) : Int)) = true) ob0)))))
      · exact Fn.go KT Tryd.func9 [.reg [] [], .reg [] [(4, .bit false), (10, .bit true)], .reg [] []] [] [] (B false) ([]) (by kernel_rfl) (q ((k != k2) = false) (q ((v != v2) = true) ob0))
    · exact Fn.go KT Tryd.func9 [.reg [] [], .reg [] [(4, .bit true)], .reg [] []] [] [] (B false) ([]) (by kernel_rfl) (q ((k != k2) = true) ob0)
theorem eqTy_loop_1 (k v k2 v2 : Int) (us ws : List Ty) (hn : us.length ≤ 281474976710656) : ∀ (us' ws' : List Ty) (i : Nat), us.drop i = us' → ws.drop i = ws' → us'.length = ws'.length →
    (∀ x ∈ us', ∀ y, SoundCall Tryd.prog 11 [.agg x.enc, .agg y.enc] [] (B (decide (x = y))) []) →
    Lp Tryd.prog 46 0 (loopN Tryd.f11 0) ⟨lookT [(2, .lp 0 0), (3, .lp 1 0), (29, I (us.length : Int)), (30, I (i : Int))], [.cells [I k, I v, .sl 3 (Ty.encs us) false] [], .cells [I k2, I v2, .sl 3 (Ty.encs ws) false] []]⟩
      (if us' = ws' then .exit 0 else .ret) (if us' = ws' then ⟨lookT [], []⟩ else ⟨lookT [(4, B false)], []⟩)
  | [], ws', i, h1, h2, hl, _ => by
    cases ws' with
    | cons y ws' => simp at hl
    | nil =>
      have hi := drop_end h1
      rw [if_pos rfl, if_pos rfl]
      exact Lp.last KT [.reg [] [(0, .bit false)]] [.keep []] (by kernel_rfl) (q (decide ((↑i : Int) < (↑(List.length us) : Int)) = false) ob0) (by intro h; cases h)
  | .mk k1 v1 xs :: us', ws', i, h1, h2, hl, hs => by
    cases ws' with
    | nil => simp at hl
    | cons y ws' =>
      obtain ⟨k3, v3, ys⟩ := y
      have hi := drop_lt h1
      have hx : (Ty.encs us)[i]? = some (Ty.mk k1 v1 xs).enc := by rw [Ty.encs_get, drop_get h1]; rfl
      have hy : (Ty.encs ws)[i]? = some (Ty.mk k3 v3 ys).enc := by rw [Ty.encs_get, drop_get h2]; rfl
      have hc := hs (.mk k1 v1 xs) (by simp) (.mk k3 v3 ys)
      have ih := eqTy_loop_1 k v k2 v2 us ws hn us' ws' (i + 1) (drop_next h1) (drop_next h2) (by simpa using hl) (fun x hx => hs x (by simp [hx]))
      simp only [Int.natCast_add] at ih
      clear hs h1 h2
      by_cases he : Ty.mk k1 v1 xs = Ty.mk k3 v3 ys
      · rw [decide_eq_true he] at hc
        simp only [he, List.cons.injEq, true_and]
        exact Lp.next KT [.reg [] [(0, .bit true)], .reg [] [], .reg [] [(3, .row i (Ty.enc (Ty.mk k1 v1 xs))), (8, .row i (Ty.enc (Ty.mk k3 v3 ys))), (10, .call (B true) [])], .reg [] [(0, .int ((↑i : Int) + 1))]] [.keep [(2, []), (3, []), (29, []), (30, [])]] (by kernel_rfl) (q (decide ((↑i : Int) < (↑(List.length us) : Int)) = true) (q ((↑i : Int) = (↑i : Int)) (q ((Ty.encs us)[i]? = some (Ty.enc (Ty.mk k1 v1 xs))) (q ((↑i : Int) = (↑i : Int)) (q ((Ty.encs ws)[i]? = some (Ty.enc (Ty.mk k3 v3 ys))) (ob1 (hc) (qw ((↑i : Int) + 1) ob0))))))) (ih)
      · rw [decide_eq_false he] at hc
        simp only [List.cons.injEq, he, false_and, if_false]
        clear ih
        exact Lp.last KT [.reg [] [(0, .bit true)], .reg [] [], .reg [] [(3, .row i (Ty.enc (Ty.mk k1 v1 xs))), (8, .row i (Ty.enc (Ty.mk k3 v3 ys))), (10, .call (B false) [])], .reg [] []] [.keep [(4, [])]] (by kernel_rfl) (q (decide ((↑i : Int) < (↑(List.length us) : Int)) = true) (q ((↑i : Int) = (↑i : Int)) (q ((Ty.encs us)[i]? = some (Ty.enc (Ty.mk k1 v1 xs))) (q ((↑i : Int) = (↑i : Int)) (q ((Ty.encs ws)[i]? = some (Ty.enc (Ty.mk k3 v3 ys))) (ob1 (hc) ob0)))))) (by intro h; cases h)

theorem eqTy_1 : ∀ (a b : Ty), a.ok → SoundCall Tryd.prog 11 [.agg a.enc, .agg b.enc] [] (B (decide (a = b))) []
  | .mk k v us, .mk k2 v2 ws, hok => by
    simp only [Ty.ok] at hok
    obtain ⟨-, -, hn, hoks⟩ := hok
    have hr : ∀ x ∈ us, ∀ y, SoundCall Tryd.prog 11 [.agg x.enc, .agg y.enc] [] (B (decide (x = y))) [] := fun x hx y => eqTy_1 x y (Ty.oks_mem hoks x hx)
    by_cases h1 : k = k2
    · by_cases h2 : v = v2
      · by_cases h3 : us.length = ws.length
        · have hl := eqTy_loop_1 k v k2 v2 us ws hn us ws 0 rfl rfl h3 hr
          by_cases h4 : us = ws
          · simp only [if_pos h4] at hl
            exact Fn.go KT Tryd.func11 [.reg [] [], .reg [] [(4, .bit false), (10, .bit false), (15, .int (↑(List.length us) : Int)), (18, .int (↑(List.length ws) : Int)), (19, .bit false)], .reg [] [(2, .int (↑(List.length us) : Int))], .loop [.keep [(2, []), (3, []), (29, []), (30, [])]] (Exit.exit 0) { tm := lookT [], st := [] }, .reg [] []] [] [] (B true) ([]) (by kernel_rfl) (q ((k != k2) = false) (q ((v != v2) = false) (q ((↑(List.length (Ty.encs us)) : Int) = (↑(List.length us) : Int)) (q ((↑(List.length (Ty.encs ws)) : Int) = (↑(List.length ws) : Int)) (q (((↑(List.length us) : Int) != (↑(List.length ws) : Int)) = false) (q ((↑(List.length (Ty.encs us)) : Int) = (↑(List.length us) : Int)) (ob1 (hl) ob0)))))))
          · simp only [if_neg h4] at hl
            exact Fn.go KT Tryd.func11 [.reg [] [], .reg [] [(4, .bit false), (10, .bit false), (15, .int (↑(List.length us) : Int)), (18, .int (↑(List.length ws) : Int)), (19, .bit false)], .reg [] [(2, .int (↑(List.length us) : Int))], .loop [.keep [(2, []), (3, []), (29, []), (30, [])]] Exit.ret { tm := lookT [(4, B false)], st := [] }] [] [] (B false) ([]) (by kernel_rfl) (q ((k != k2) = false) (q ((v != v2) = false) (q ((↑(List.length (Ty.encs us)) : Int) = (↑(List.length us) : Int)) (q ((↑(List.length (Ty.encs ws)) : Int) = (↑(List.length ws) : Int)) (q (((↑(List.length us) : Int) != (↑(List.length ws) : Int)) = false) (q ((↑(List.length (Ty.encs us)) : Int) = (↑(List.length us) : Int)) (ob1 (hl) ob0)))))))
        · have h4 : ¬us = ws := fun h => h3 (by rw [h])
          exact Fn.go KT Tryd.func11 [.reg [] [], .reg [] [(4, .bit false), (10, .bit false), (15, .int (↑(List.length us) : Int)), (18, .int (↑(List.length ws) : Int)), (19, .bit true)], .reg [] []] [] [] (B false) ([]) (by kernel_rfl) (q ((k != k2) = false) (q ((v != v2) = false) (q ((↑(List.length (Ty.encs us)) : Int) = (↑(List.length us) : Int)) (q ((↑(List.length (Ty.encs ws)) : Int) = (↑(List.length ws) : Int)) (q (((↑(List.length us) : Int) != (↑(List.length ws) : Int)) = true) ob0)))))
      · exact Fn.go KT Tryd.func11 [.reg [] [], .reg [] [(4, .bit false), (10, .bit true)], .reg [] []] [] [] (B false) ([]) (by kernel_rfl) (q ((k != k2) = false) (q ((v != v2) = true) ob0))
    · exact Fn.go KT Tryd.func11 [.reg [] [], .reg [] [(4, .bit true)], .reg [] []] [] [] (B false) ([]) (by kernel_rfl) (q ((k != k2) = true) ob0)

end Go.Ae

/- source: types. -/
namespace Go.Ae
open Go.Proofs

mutual
def tyC : Ty → Int → Bool × Int
  | .mk k v l, n =>
    if n - 1 < 0 then (false, n - 1)
    else if k = 0 then (decide (1 ≤ v) && decide (v ≤ 4) && decide (l.length = 0), n - 1)
    else if k = 1 then (if v = 0 ∧ l.length = 2 then tyCs l (n - 1) else (false, n - 1))
    else (false, n - 1)
def tyCs : List Ty → Int → Bool × Int
  | [], n => (true, n)
  | t :: l, n => if (tyC t n).1 = true then tyCs l (tyC t n).2 else (false, (tyC t n).2)
end

mutual
theorem tyC_bound : ∀ (t : Ty) (n : Int), 0 ≤ n → -1 ≤ (tyC t n).2 ∧ (tyC t n).2 ≤ n ∧ ((tyC t n).1 = true → 0 ≤ (tyC t n).2)
  | .mk k v l, n, h => by
    simp only [tyC]
    split
    · exact ⟨by simp; omega, by simp; omega, by simp⟩
    · split
      · exact ⟨by simp; omega, by simp; omega, fun _ => by simp; omega⟩
      · split
        · split
          · have := tyCs_bound l (n - 1) (by omega)
            exact ⟨this.1, by omega, this.2.2⟩
          · exact ⟨by simp; omega, by simp; omega, by simp⟩
        · exact ⟨by simp; omega, by simp; omega, by simp⟩
theorem tyCs_bound : ∀ (l : List Ty) (n : Int), 0 ≤ n → -1 ≤ (tyCs l n).2 ∧ (tyCs l n).2 ≤ n ∧ ((tyCs l n).1 = true → 0 ≤ (tyCs l n).2)
  | [], n, h => by exact ⟨by simp [tyCs]; omega, by simp [tyCs], by simp [tyCs]; omega⟩
  | t :: l, n, h => by
    have h1 := tyC_bound t n h
    simp only [tyCs]
    split
    · rename_i hc
      have h2 := tyCs_bound l (tyC t n).2 (h1.2.2 hc)
      exact ⟨h2.1, by omega, h2.2.2⟩
    · exact ⟨h1.1, h1.2.1, by simp⟩
end

theorem tyC_two (k v n : Int) (a b : Ty) : tyC (.mk k v [a, b]) n = if n - 1 < 0 then (false, n - 1) else if k = 0 then (false, n - 1) else if k = 1 then
    (if v = 0 then (if (tyC a (n - 1)).1 = true then tyC b (tyC a (n - 1)).2 else (false, (tyC a (n - 1)).2)) else (false, n - 1)) else (false, n - 1) := by
  rw [tyC]
  simp only [List.length_cons, List.length_nil]
  split
  · rfl
  · split
    · simp
    · split
      · by_cases hv : v = 0
        · simp only [hv, tyCs]
          simp only [true_and, if_true]
          split
          · rcases h : tyC b (tyC a (n - 1)).2 with ⟨x, y⟩
            cases x <;> rfl
          · rfl
        · simp [hv]
      · rfl

theorem ty_ : ∀ (t : Ty) (n : Int), t.ok → 0 ≤ n → n ≤ 1000 → SoundCall Tryd.prog 15 [.agg [B false], .agg t.enc, .lp 0 0] [.cells [I n] []] (B (tyC t n).1) [.cells [I (tyC t n).2] []]
  | .mk k v [], n, hok, h1, h2 => by
    rcases dsp (n - 1 < 0) with ⟨hb1, hb1'⟩ | ⟨hb1, hb1'⟩
    · skip
      exact Fn.go KT Tryd.func15 [.reg [] [], .reg [] [(3, .int (n - 1))], .reg [] [(3, .bit true)], .reg [] []] [] [] (B false) ([.cells [I (n - 1)] []]) (by kernel_rfl) (qw (n - 1) (q (decide (n - 1 < 0) = true) ob0)) (by (simp [tyC, *])) (by (simp [tyC, *]))
    · skip
      rcases bsp (k) (0) with ⟨hb2, hb2'⟩ | ⟨hb2, hb2'⟩
      · skip
        rcases dsp (1 ≤ v) with ⟨hb3, hb3'⟩ | ⟨hb3, hb3'⟩
        · skip
          rcases dsp (v ≤ 4) with ⟨hb4, hb4'⟩ | ⟨hb4, hb4'⟩
          · skip
            exact Fn.go KT Tryd.func15 [.reg [] [], .reg [] [(3, .int (n - 1))], .reg [] [(3, .bit false)], .reg [] [(2, .bit true)], .reg [] [(2, .bit true), (6, .bit true)]] [] [] (B true) ([.cells [I (n - 1)] []]) (by kernel_rfl) (qw (n - 1) (q (decide (n - 1 < 0) = false) (q ((k == 0) = true) (q (decide (1 ≤ v) = true) (q (decide (v ≤ 4) = true) ob0))))) (by (simp [tyC, *])) (by (simp [tyC, *]))
          · skip
            exact Fn.go KT Tryd.func15 [.reg [] [], .reg [] [(3, .int (n - 1))], .reg [] [(3, .bit false)], .reg [] [(2, .bit true)], .reg [] [(2, .bit true), (6, .bit false)]] [] [] (B false) ([.cells [I (n - 1)] []]) (by kernel_rfl) (qw (n - 1) (q (decide (n - 1 < 0) = false) (q ((k == 0) = true) (q (decide (1 ≤ v) = true) (q (decide (v ≤ 4) = false) ob0))))) (by (simp [tyC, *])) (by (simp [tyC, *]))
        · skip
          exact Fn.go KT Tryd.func15 [.reg [] [], .reg [] [(3, .int (n - 1))], .reg [] [(3, .bit false)], .reg [] [(2, .bit true)], .reg [] [(2, .bit false)]] [] [] (B false) ([.cells [I (n - 1)] []]) (by kernel_rfl) (qw (n - 1) (q (decide (n - 1 < 0) = false) (q ((k == 0) = true) (q (decide (1 ≤ v) = false) ob0)))) (by (simp [tyC, *])) (by (simp [tyC, *]))
      · skip
        rcases bsp (k) (1) with ⟨hb3, hb3'⟩ | ⟨hb3, hb3'⟩
        · skip
          rcases bsp (v) (0) with ⟨hb4, hb4'⟩ | ⟨hb4, hb4'⟩
          · skip
            exact Fn.go KT Tryd.func15 [.reg [] [], .reg [] [(3, .int (n - 1))], .reg [] [(3, .bit false)], .reg [] [(2, .bit false)], .reg [] [(2, .bit true)], .reg [] [(2, .bit true)]] [] [] (B false) ([.cells [I (n - 1)] []]) (by kernel_rfl) (qw (n - 1) (q (decide (n - 1 < 0) = false) (q ((k == 0) = false) (q ((k == 1) = true) (q ((v == 0) = true) ob0))))) (by (simp [tyC, *])) (by (simp [tyC, *]))
          · skip
            exact Fn.go KT Tryd.func15 [.reg [] [], .reg [] [(3, .int (n - 1))], .reg [] [(3, .bit false)], .reg [] [(2, .bit false)], .reg [] [(2, .bit true)], .reg [] [(2, .bit false)]] [] [] (B false) ([.cells [I (n - 1)] []]) (by kernel_rfl) (qw (n - 1) (q (decide (n - 1 < 0) = false) (q ((k == 0) = false) (q ((k == 1) = true) (q ((v == 0) = false) ob0))))) (by (simp [tyC, *])) (by (simp [tyC, *]))
        · skip
          exact Fn.go KT Tryd.func15 [.reg [] [], .reg [] [(3, .int (n - 1))], .reg [] [(3, .bit false)], .reg [] [(2, .bit false)], .reg [] [(2, .bit false)], .reg [] []] [] [] (B false) ([.cells [I (n - 1)] []]) (by kernel_rfl) (qw (n - 1) (q (decide (n - 1 < 0) = false) (q ((k == 0) = false) (q ((k == 1) = false) ob0)))) (by (simp [tyC, *])) (by (simp [tyC, *]))
  | .mk k v [a], n, hok, h1, h2 => by
    rcases dsp (n - 1 < 0) with ⟨hb1, hb1'⟩ | ⟨hb1, hb1'⟩
    · skip
      exact Fn.go KT Tryd.func15 [.reg [] [], .reg [] [(3, .int (n - 1))], .reg [] [(3, .bit true)], .reg [] []] [] [] (B false) ([.cells [I (n - 1)] []]) (by kernel_rfl) (qw (n - 1) (q (decide (n - 1 < 0) = true) ob0)) (by (simp [tyC, *])) (by (simp [tyC, *]))
    · skip
      rcases bsp (k) (0) with ⟨hb2, hb2'⟩ | ⟨hb2, hb2'⟩
      · skip
        rcases dsp (1 ≤ v) with ⟨hb3, hb3'⟩ | ⟨hb3, hb3'⟩
        · skip
          rcases dsp (v ≤ 4) with ⟨hb4, hb4'⟩ | ⟨hb4, hb4'⟩
          · skip
            exact Fn.go KT Tryd.func15 [.reg [] [], .reg [] [(3, .int (n - 1))], .reg [] [(3, .bit false)], .reg [] [(2, .bit true)], .reg [] [(2, .bit true), (6, .bit true)]] [] [] (B false) ([.cells [I (n - 1)] []]) (by kernel_rfl) (qw (n - 1) (q (decide (n - 1 < 0) = false) (q ((k == 0) = true) (q (decide (1 ≤ v) = true) (q (decide (v ≤ 4) = true) ob0))))) (by (simp [tyC, *])) (by (simp [tyC, *]))
          · skip
            exact Fn.go KT Tryd.func15 [.reg [] [], .reg [] [(3, .int (n - 1))], .reg [] [(3, .bit false)], .reg [] [(2, .bit true)], .reg [] [(2, .bit true), (6, .bit false)]] [] [] (B false) ([.cells [I (n - 1)] []]) (by kernel_rfl) (qw (n - 1) (q (decide (n - 1 < 0) = false) (q ((k == 0) = true) (q (decide (1 ≤ v) = true) (q (decide (v ≤ 4) = false) ob0))))) (by (simp [tyC, *])) (by (simp [tyC, *]))
        · skip
          exact Fn.go KT Tryd.func15 [.reg [] [], .reg [] [(3, .int (n - 1))], .reg [] [(3, .bit false)], .reg [] [(2, .bit true)], .reg [] [(2, .bit false)]] [] [] (B false) ([.cells [I (n - 1)] []]) (by kernel_rfl) (qw (n - 1) (q (decide (n - 1 < 0) = false) (q ((k == 0) = true) (q (decide (1 ≤ v) = false) ob0)))) (by (simp [tyC, *])) (by (simp [tyC, *]))
      · skip
        rcases bsp (k) (1) with ⟨hb3, hb3'⟩ | ⟨hb3, hb3'⟩
        · skip
          rcases bsp (v) (0) with ⟨hb4, hb4'⟩ | ⟨hb4, hb4'⟩
          · skip
            exact Fn.go KT Tryd.func15 [.reg [] [], .reg [] [(3, .int (n - 1))], .reg [] [(3, .bit false)], .reg [] [(2, .bit false)], .reg [] [(2, .bit true)], .reg [] [(2, .bit true)]] [] [] (B false) ([.cells [I (n - 1)] []]) (by kernel_rfl) (qw (n - 1) (q (decide (n - 1 < 0) = false) (q ((k == 0) = false) (q ((k == 1) = true) (q ((v == 0) = true) ob0))))) (by (simp [tyC, *])) (by (simp [tyC, *]))
          · skip
            exact Fn.go KT Tryd.func15 [.reg [] [], .reg [] [(3, .int (n - 1))], .reg [] [(3, .bit false)], .reg [] [(2, .bit false)], .reg [] [(2, .bit true)], .reg [] [(2, .bit false)]] [] [] (B false) ([.cells [I (n - 1)] []]) (by kernel_rfl) (qw (n - 1) (q (decide (n - 1 < 0) = false) (q ((k == 0) = false) (q ((k == 1) = true) (q ((v == 0) = false) ob0))))) (by (simp [tyC, *])) (by (simp [tyC, *]))
        · skip
          exact Fn.go KT Tryd.func15 [.reg [] [], .reg [] [(3, .int (n - 1))], .reg [] [(3, .bit false)], .reg [] [(2, .bit false)], .reg [] [(2, .bit false)], .reg [] []] [] [] (B false) ([.cells [I (n - 1)] []]) (by kernel_rfl) (qw (n - 1) (q (decide (n - 1 < 0) = false) (q ((k == 0) = false) (q ((k == 1) = false) ob0)))) (by (simp [tyC, *])) (by (simp [tyC, *]))
  | .mk k v [.mk ka va la, .mk kb vb lb], n, hok, h1, h2 => by
    have hoa : (Ty.mk ka va la).ok := hok.2.2.2.1
    have hob : (Ty.mk kb vb lb).ok := hok.2.2.2.2.1
    by_cases h3 : n - 1 < 0
    · exact Fn.go KT Tryd.func15 [.reg [] [], .reg [] [(3, .int (n - 1))], .reg [] [(3, .bit true)], .reg [] []] [] [] (B false) ([.cells [I (n - 1)] []]) (by kernel_rfl) (qw (n - 1) (q (decide (n - 1 < 0) = true) ob0)) (by (rw [tyC_two]; simp [*])) (by (rw [tyC_two]; simp [*]))
    · have ba := tyC_bound (.mk ka va la) (n - 1) (by omega)
      have ha := ty_ (.mk ka va la) (n - 1) hoa (by omega) (by omega)
      by_cases h4 : (tyC (.mk ka va la) (n - 1)).1 = true
      · have hb := ty_ (.mk kb vb lb) (tyC (.mk ka va la) (n - 1)).2 hob (ba.2.2 h4) (by omega)
        rw [h4] at ha
        clear hok hoa hob ba
        rcases bsp (k) (0) with ⟨hb1, hb1'⟩ | ⟨hb1, hb1'⟩
        · skip
          rcases dsp (1 ≤ v) with ⟨hb2, hb2'⟩ | ⟨hb2, hb2'⟩
          · skip
            rcases dsp (v ≤ 4) with ⟨hb3, hb3'⟩ | ⟨hb3, hb3'⟩
            · skip
              exact Fn.go KT Tryd.func15 [.reg [] [], .reg [] [(3, .int (n - 1))], .reg [] [(3, .bit false)], .reg [] [(2, .bit true)], .reg [] [(2, .bit true), (6, .bit true)]] [] [] (B false) ([.cells [I (n - 1)] []]) (by kernel_rfl) (qw (n - 1) (q (decide (n - 1 < 0) = false) (q ((k == 0) = true) (q (decide (1 ≤ v) = true) (q (decide (v ≤ 4) = true) ob0))))) (by (rw [tyC_two]; simp [*])) (by (rw [tyC_two]; simp [*]))
            · skip
              exact Fn.go KT Tryd.func15 [.reg [] [], .reg [] [(3, .int (n - 1))], .reg [] [(3, .bit false)], .reg [] [(2, .bit true)], .reg [] [(2, .bit true), (6, .bit false)]] [] [] (B false) ([.cells [I (n - 1)] []]) (by kernel_rfl) (qw (n - 1) (q (decide (n - 1 < 0) = false) (q ((k == 0) = true) (q (decide (1 ≤ v) = true) (q (decide (v ≤ 4) = false) ob0))))) (by (rw [tyC_two]; simp [*])) (by (rw [tyC_two]; simp [*]))
          · skip
            exact Fn.go KT Tryd.func15 [.reg [] [], .reg [] [(3, .int (n - 1))], .reg [] [(3, .bit false)], .reg [] [(2, .bit true)], .reg [] [(2, .bit false)]] [] [] (B false) ([.cells [I (n - 1)] []]) (by kernel_rfl) (qw (n - 1) (q (decide (n - 1 < 0) = false) (q ((k == 0) = true) (q (decide (1 ≤ v) = false) ob0)))) (by (rw [tyC_two]; simp [*])) (by (rw [tyC_two]; simp [*]))
        · skip
          rcases bsp (k) (1) with ⟨hb2, hb2'⟩ | ⟨hb2, hb2'⟩
          · skip
            rcases bsp (v) (0) with ⟨hb3, hb3'⟩ | ⟨hb3, hb3'⟩
            · skip
              rcases Bool.eq_false_or_eq_true (Prod.fst (tyC (Ty.mk kb vb lb) (Prod.snd (tyC (Ty.mk ka va la) (n - 1))))) with hb4 | hb4
              · have hb4' := hb4
                try simp only [decide_eq_true_eq, decide_eq_false_iff_not, beq_iff_eq, bne_iff_ne, ne_eq, beq_eq_false_iff_ne, bne_eq_false_iff_eq, Bool.not_eq_true'] at hb4'
                exact Fn.go KT Tryd.func15 [.reg [] [], .reg [] [(3, .int (n - 1))], .reg [] [(3, .bit false)], .reg [] [(2, .bit false)], .reg [] [(2, .bit true)], .reg [] [(2, .bit true), (13, .row 0 [I ka, I va, AV.sl 3 (Ty.encs la) false]), (16, .call (B true) [.cells [I (Prod.snd (tyC (Ty.mk ka va la) (n - 1)))] []]), (22, .row 1 [I kb, I vb, AV.sl 3 (Ty.encs lb) false]), (25, .call (B true) [.cells [I (Prod.snd (tyC (Ty.mk kb vb lb) (Prod.snd (tyC (Ty.mk ka va la) (n - 1)))))] []])]] [] [] (B true) ([.cells [I (Prod.snd (tyC (Ty.mk kb vb lb) (Prod.snd (tyC (Ty.mk ka va la) (n - 1)))))] []]) (by kernel_rfl) (qw (n - 1) (q (decide (n - 1 < 0) = false) (q ((k == 0) = false) (q ((k == 1) = true) (q ((v == 0) = true) (q ((0 : Int) = (↑(0 : Nat) : Int)) (q ([[I ka, I va, AV.sl 3 (Ty.encs la) false], [I kb, I vb, AV.sl 3 (Ty.encs lb) false]][0]? = some [I ka, I va, AV.sl 3 (Ty.encs la) false]) (ob1 (ha) (q ((1 : Int) = (↑(1 : Nat) : Int)) (q ([[I ka, I va, AV.sl 3 (Ty.encs la) false], [I kb, I vb, AV.sl 3 (Ty.encs lb) false]][1]? = some [I kb, I vb, AV.sl 3 (Ty.encs lb) false]) (ob1 (SoundCall.to (hb) (pf (B (Prod.fst (tyC (Ty.mk kb vb lb) (Prod.snd (tyC (Ty.mk ka va la) (n - 1))))) = B true)) rfl) ob0))))))))))) (by (rw [tyC_two]; simp [*])) (by (rw [tyC_two]; simp [*]))
              · have hb4' := hb4
                try simp only [decide_eq_true_eq, decide_eq_false_iff_not, beq_iff_eq, bne_iff_ne, ne_eq, beq_eq_false_iff_ne, bne_eq_false_iff_eq, Bool.not_eq_true'] at hb4'
                exact Fn.go KT Tryd.func15 [.reg [] [], .reg [] [(3, .int (n - 1))], .reg [] [(3, .bit false)], .reg [] [(2, .bit false)], .reg [] [(2, .bit true)], .reg [] [(2, .bit true), (13, .row 0 [I ka, I va, AV.sl 3 (Ty.encs la) false]), (16, .call (B true) [.cells [I (Prod.snd (tyC (Ty.mk ka va la) (n - 1)))] []]), (22, .row 1 [I kb, I vb, AV.sl 3 (Ty.encs lb) false]), (25, .call (B false) [.cells [I (Prod.snd (tyC (Ty.mk kb vb lb) (Prod.snd (tyC (Ty.mk ka va la) (n - 1)))))] []])]] [] [] (B false) ([.cells [I (Prod.snd (tyC (Ty.mk kb vb lb) (Prod.snd (tyC (Ty.mk ka va la) (n - 1)))))] []]) (by kernel_rfl) (qw (n - 1) (q (decide (n - 1 < 0) = false) (q ((k == 0) = false) (q ((k == 1) = true) (q ((v == 0) = true) (q ((0 : Int) = (↑(0 : Nat) : Int)) (q ([[I ka, I va, AV.sl 3 (Ty.encs la) false], [I kb, I vb, AV.sl 3 (Ty.encs lb) false]][0]? = some [I ka, I va, AV.sl 3 (Ty.encs la) false]) (ob1 (ha) (q ((1 : Int) = (↑(1 : Nat) : Int)) (q ([[I ka, I va, AV.sl 3 (Ty.encs la) false], [I kb, I vb, AV.sl 3 (Ty.encs lb) false]][1]? = some [I kb, I vb, AV.sl 3 (Ty.encs lb) false]) (ob1 (SoundCall.to (hb) (pf (B (Prod.fst (tyC (Ty.mk kb vb lb) (Prod.snd (tyC (Ty.mk ka va la) (n - 1))))) = B false)) rfl) ob0))))))))))) (by (rw [tyC_two]; simp [*])) (by (rw [tyC_two]; simp [*]))
            · skip
              exact Fn.go KT Tryd.func15 [.reg [] [], .reg [] [(3, .int (n - 1))], .reg [] [(3, .bit false)], .reg [] [(2, .bit false)], .reg [] [(2, .bit true)], .reg [] [(2, .bit false)]] [] [] (B false) ([.cells [I (n - 1)] []]) (by kernel_rfl) (qw (n - 1) (q (decide (n - 1 < 0) = false) (q ((k == 0) = false) (q ((k == 1) = true) (q ((v == 0) = false) ob0))))) (by (rw [tyC_two]; simp [*])) (by (rw [tyC_two]; simp [*]))
          · skip
            exact Fn.go KT Tryd.func15 [.reg [] [], .reg [] [(3, .int (n - 1))], .reg [] [(3, .bit false)], .reg [] [(2, .bit false)], .reg [] [(2, .bit false)], .reg [] []] [] [] (B false) ([.cells [I (n - 1)] []]) (by kernel_rfl) (qw (n - 1) (q (decide (n - 1 < 0) = false) (q ((k == 0) = false) (q ((k == 1) = false) ob0)))) (by (rw [tyC_two]; simp [*])) (by (rw [tyC_two]; simp [*]))
      · rw [Bool.not_eq_true] at h4
        rw [h4] at ha
        clear hok hoa hob ba
        rcases bsp (k) (0) with ⟨hb1, hb1'⟩ | ⟨hb1, hb1'⟩
        · skip
          rcases dsp (1 ≤ v) with ⟨hb2, hb2'⟩ | ⟨hb2, hb2'⟩
          · skip
            rcases dsp (v ≤ 4) with ⟨hb3, hb3'⟩ | ⟨hb3, hb3'⟩
            · skip
              exact Fn.go KT Tryd.func15 [.reg [] [], .reg [] [(3, .int (n - 1))], .reg [] [(3, .bit false)], .reg [] [(2, .bit true)], .reg [] [(2, .bit true), (6, .bit true)]] [] [] (B false) ([.cells [I (n - 1)] []]) (by kernel_rfl) (qw (n - 1) (q (decide (n - 1 < 0) = false) (q ((k == 0) = true) (q (decide (1 ≤ v) = true) (q (decide (v ≤ 4) = true) ob0))))) (by (rw [tyC_two]; simp [*])) (by (rw [tyC_two]; simp [*]))
            · skip
              exact Fn.go KT Tryd.func15 [.reg [] [], .reg [] [(3, .int (n - 1))], .reg [] [(3, .bit false)], .reg [] [(2, .bit true)], .reg [] [(2, .bit true), (6, .bit false)]] [] [] (B false) ([.cells [I (n - 1)] []]) (by kernel_rfl) (qw (n - 1) (q (decide (n - 1 < 0) = false) (q ((k == 0) = true) (q (decide (1 ≤ v) = true) (q (decide (v ≤ 4) = false) ob0))))) (by (rw [tyC_two]; simp [*])) (by (rw [tyC_two]; simp [*]))
          · skip
            exact Fn.go KT Tryd.func15 [.reg [] [], .reg [] [(3, .int (n - 1))], .reg [] [(3, .bit false)], .reg [] [(2, .bit true)], .reg [] [(2, .bit false)]] [] [] (B false) ([.cells [I (n - 1)] []]) (by kernel_rfl) (qw (n - 1) (q (decide (n - 1 < 0) = false) (q ((k == 0) = true) (q (decide (1 ≤ v) = false) ob0)))) (by (rw [tyC_two]; simp [*])) (by (rw [tyC_two]; simp [*]))
        · skip
          rcases bsp (k) (1) with ⟨hb2, hb2'⟩ | ⟨hb2, hb2'⟩
          · skip
            rcases bsp (v) (0) with ⟨hb3, hb3'⟩ | ⟨hb3, hb3'⟩
            · skip
              exact Fn.go KT Tryd.func15 [.reg [] [], .reg [] [(3, .int (n - 1))], .reg [] [(3, .bit false)], .reg [] [(2, .bit false)], .reg [] [(2, .bit true)], .reg [] [(2, .bit true), (13, .row 0 [I ka, I va, AV.sl 3 (Ty.encs la) false]), (16, .call (B false) [.cells [I (Prod.snd (tyC (Ty.mk ka va la) (n - 1)))] []])]] [] [] (B false) ([.cells [I (Prod.snd (tyC (Ty.mk ka va la) (n - 1)))] []]) (by kernel_rfl) (qw (n - 1) (q (decide (n - 1 < 0) = false) (q ((k == 0) = false) (q ((k == 1) = true) (q ((v == 0) = true) (q ((0 : Int) = (↑(0 : Nat) : Int)) (q ([[I ka, I va, AV.sl 3 (Ty.encs la) false], [I kb, I vb, AV.sl 3 (Ty.encs lb) false]][0]? = some [I ka, I va, AV.sl 3 (Ty.encs la) false]) (ob1 (ha) ob0)))))))) (by (rw [tyC_two]; simp [*])) (by (rw [tyC_two]; simp [*]))
            · skip
              exact Fn.go KT Tryd.func15 [.reg [] [], .reg [] [(3, .int (n - 1))], .reg [] [(3, .bit false)], .reg [] [(2, .bit false)], .reg [] [(2, .bit true)], .reg [] [(2, .bit false)]] [] [] (B false) ([.cells [I (n - 1)] []]) (by kernel_rfl) (qw (n - 1) (q (decide (n - 1 < 0) = false) (q ((k == 0) = false) (q ((k == 1) = true) (q ((v == 0) = false) ob0))))) (by (rw [tyC_two]; simp [*])) (by (rw [tyC_two]; simp [*]))
          · skip
            exact Fn.go KT Tryd.func15 [.reg [] [], .reg [] [(3, .int (n - 1))], .reg [] [(3, .bit false)], .reg [] [(2, .bit false)], .reg [] [(2, .bit false)], .reg [] []] [] [] (B false) ([.cells [I (n - 1)] []]) (by kernel_rfl) (qw (n - 1) (q (decide (n - 1 < 0) = false) (q ((k == 0) = false) (q ((k == 1) = false) ob0)))) (by (rw [tyC_two]; simp [*])) (by (rw [tyC_two]; simp [*]))
  | .mk k v (a :: b :: c :: l), n, hok, h1, h2 => by
    have hl : l.length ≤ 281474976710656 := by have := hok.2.2.1; simp at this; omega
    clear hok
    rcases dsp (n - 1 < 0) with ⟨hb1, hb1'⟩ | ⟨hb1, hb1'⟩
    · skip
      exact Fn.go KT Tryd.func15 [.reg [] [], .reg [] [(3, .int (n - 1))], .reg [] [(3, .bit true)], .reg [] []] [] [] (B false) ([.cells [I (n - 1)] []]) (by kernel_rfl) (qw (n - 1) (q (decide (n - 1 < 0) = true) ob0)) (by (simp [tyC, *])) (by (simp [tyC, *]))
    · skip
      rcases bsp (k) (0) with ⟨hb2, hb2'⟩ | ⟨hb2, hb2'⟩
      · skip
        rcases dsp (1 ≤ v) with ⟨hb3, hb3'⟩ | ⟨hb3, hb3'⟩
        · skip
          rcases dsp (v ≤ 4) with ⟨hb4, hb4'⟩ | ⟨hb4, hb4'⟩
          · skip
            exact Fn.go KT Tryd.func15 [.reg [] [], .reg [] [(3, .int (n - 1))], .reg [] [(3, .bit false)], .reg [] [(2, .bit true)], .reg [] [(2, .bit true), (6, .bit true), (11, .int ((↑(List.length l) : Int) + 1 + 1 + 1))]] [] [] (B false) ([.cells [I (n - 1)] []]) (by kernel_rfl) (qw (n - 1) (q (decide (n - 1 < 0) = false) (q ((k == 0) = true) (q (decide (1 ≤ v) = true) (q (decide (v ≤ 4) = true) (q ((↑(List.length (Ty.enc a :: Ty.enc b :: Ty.enc c :: Ty.encs l)) : Int) = (↑(List.length l) : Int) + 1 + 1 + 1) ob0)))))) (by (simp [tyC, *])) (by (simp [tyC, *]))
          · skip
            exact Fn.go KT Tryd.func15 [.reg [] [], .reg [] [(3, .int (n - 1))], .reg [] [(3, .bit false)], .reg [] [(2, .bit true)], .reg [] [(2, .bit true), (6, .bit false)]] [] [] (B false) ([.cells [I (n - 1)] []]) (by kernel_rfl) (qw (n - 1) (q (decide (n - 1 < 0) = false) (q ((k == 0) = true) (q (decide (1 ≤ v) = true) (q (decide (v ≤ 4) = false) ob0))))) (by (simp [tyC, *])) (by (simp [tyC, *]))
        · skip
          exact Fn.go KT Tryd.func15 [.reg [] [], .reg [] [(3, .int (n - 1))], .reg [] [(3, .bit false)], .reg [] [(2, .bit true)], .reg [] [(2, .bit false)]] [] [] (B false) ([.cells [I (n - 1)] []]) (by kernel_rfl) (qw (n - 1) (q (decide (n - 1 < 0) = false) (q ((k == 0) = true) (q (decide (1 ≤ v) = false) ob0)))) (by (simp [tyC, *])) (by (simp [tyC, *]))
      · skip
        rcases bsp (k) (1) with ⟨hb3, hb3'⟩ | ⟨hb3, hb3'⟩
        · skip
          rcases bsp (v) (0) with ⟨hb4, hb4'⟩ | ⟨hb4, hb4'⟩
          · skip
            exact Fn.go KT Tryd.func15 [.reg [] [], .reg [] [(3, .int (n - 1))], .reg [] [(3, .bit false)], .reg [] [(2, .bit false)], .reg [] [(2, .bit true)], .reg [] [(2, .bit true), (6, .int ((↑(List.length l) : Int) + 1 + 1 + 1))]] [] [] (B false) ([.cells [I (n - 1)] []]) (by kernel_rfl) (qw (n - 1) (q (decide (n - 1 < 0) = false) (q ((k == 0) = false) (q ((k == 1) = true) (q ((v == 0) = true) (q ((↑(List.length (Ty.enc a :: Ty.enc b :: Ty.enc c :: Ty.encs l)) : Int) = (↑(List.length l) : Int) + 1 + 1 + 1) ob0)))))) (by (simp [tyC, *])) (by (simp [tyC, *]))
          · skip
            exact Fn.go KT Tryd.func15 [.reg [] [], .reg [] [(3, .int (n - 1))], .reg [] [(3, .bit false)], .reg [] [(2, .bit false)], .reg [] [(2, .bit true)], .reg [] [(2, .bit false)]] [] [] (B false) ([.cells [I (n - 1)] []]) (by kernel_rfl) (qw (n - 1) (q (decide (n - 1 < 0) = false) (q ((k == 0) = false) (q ((k == 1) = true) (q ((v == 0) = false) ob0))))) (by (simp [tyC, *])) (by (simp [tyC, *]))
        · skip
          exact Fn.go KT Tryd.func15 [.reg [] [], .reg [] [(3, .int (n - 1))], .reg [] [(3, .bit false)], .reg [] [(2, .bit false)], .reg [] [(2, .bit false)], .reg [] []] [] [] (B false) ([.cells [I (n - 1)] []]) (by kernel_rfl) (qw (n - 1) (q (decide (n - 1 < 0) = false) (q ((k == 0) = false) (q ((k == 1) = false) ob0)))) (by (simp [tyC, *])) (by (simp [tyC, *]))
termination_by t => SizeOf.sizeOf t

end Go.Ae

/- source: types, sizes, names. -/
namespace Go.Ae
open Go.Proofs

theorem isTy_ (t : Ty) (hok : t.ok) : SoundCall Tryd.prog 8 [.agg [B false], .agg t.enc] [] (B (tyC t 20).1) [] := by
  have h := ty_ t 20 hok (by omega) (by omega)
  obtain ⟨k, v, l⟩ := t
  clear hok
  by_cases hb : (tyC (.mk k v l) 20).1 = true
  · rw [hb] at h ⊢
    exact Fn.go KT Tryd.func8 [.reg [] [], .reg [] [], .reg [] [(2, .call (B true) [.cells [I (Prod.snd (tyC (Ty.mk k v l) 20))] []])]] [] [] (B true) ([]) (by kernel_rfl) (ob1 (h) ob0)
  · rw [Bool.not_eq_true] at hb
    rw [hb] at h ⊢
    exact Fn.go KT Tryd.func8 [.reg [] [], .reg [] [], .reg [] [(2, .call (B false) [.cells [I (Prod.snd (tyC (Ty.mk k v l) 20))] []])]] [] [] (B false) ([]) (by kernel_rfl) (ob1 (h) ob0)

end Go.Ae

/- Nodes of types and of expressions, by the document. -/
namespace Go.Ae
open Go.Proofs

mutual
def tnC : Ty → Int → Int
  | .mk _ _ l, most => tnL l most 1
def tnL : List Ty → Int → Int → Int
  | [], _, n => n
  | t :: l, most, n => if n ≤ most then tnL l most (n + tnC t (most - n)) else n
end

mutual
theorem tnC_bound : ∀ (t : Ty) (m : Int), 1 ≤ tnC t m ∧ (tnC t m = 1 ∨ tnC t m ≤ m + 1)
  | .mk _ _ l, m => by
    have h := tnL_bound l m 1 (by omega)
    rw [tnC]
    omega
theorem tnL_bound : ∀ (l : List Ty) (m n : Int), 1 ≤ n → n ≤ tnL l m n ∧ (tnL l m n = n ∨ tnL l m n ≤ m + 1)
  | [], m, n, h => by simp [tnL]
  | t :: l, m, n, h => by
    rw [tnL]
    split
    · have h1 := tnC_bound t (m - n)
      have h2 := tnL_bound l m (n + tnC t (m - n)) (by omega)
      omega
    · omega
end

theorem tyNodes_loop (k v : Int) (us : List Ty) (m : Int) (hn : us.length ≤ 281474976710656) (hm : m ≤ 100000) (hm0 : -100000 ≤ m) : ∀ (us' : List Ty) (i : Nat) (n : Int), us.drop i = us' → 1 ≤ n → n ≤ 200000 →
    (∀ x ∈ us', ∀ m, -100000 ≤ m → m ≤ 100000 → SoundCall Tryd.prog 16 [.agg x.enc, I m] [] (I (tnC x m)) []) →
    Lp Tryd.prog 31 0 (loopN Tryd.f16 0) ⟨lookT [(1, I m), (2, .lp 0 0), (5, I n), (6, I (i : Int))], [.cells [I k, I v, .sl 3 (Ty.encs us) false] []]⟩
      (.exit 0) ⟨lookT [(5, I (tnL us' m n))], []⟩
  | [], i, n, hd, h1, h2, _ => by
    have hi := drop_end hd
    simp only [tnL]
    exact Lp.last KT [.reg [] [(3, .int (↑(List.length us) : Int)), (4, .bit false)]] [.keep [(5, [])]] (by kernel_rfl) (q ((↑(List.length (Ty.encs us)) : Int) = (↑(List.length us) : Int)) (q (decide ((↑i : Int) < (↑(List.length us) : Int)) = false) ob0)) (by intro h; cases h)
  | .mk k1 v1 xs :: us', i, n, hd, h1, h2, hs => by
    have hi := drop_lt hd
    have hx : (Ty.encs us)[i]? = some (Ty.mk k1 v1 xs).enc := by rw [Ty.encs_get, drop_get hd]; rfl
    rw [show tnL (.mk k1 v1 xs :: us') m n = if n ≤ m then tnL us' m (n + tnC (.mk k1 v1 xs) (m - n)) else n by rw [tnL]]
    by_cases hc : n ≤ m
    · have hb := tnC_bound (.mk k1 v1 xs) (m - n)
      have hr := hs (.mk k1 v1 xs) (by simp) (m - n) (by omega) (by omega)
      have ih := tyNodes_loop k v us m hn hm hm0 us' (i + 1) (n + tnC (.mk k1 v1 xs) (m - n)) (drop_next hd) (by omega) (by omega) (fun x hx => hs x (by simp [hx]))
      simp only [Int.natCast_add] at ih
      rw [if_pos hc]
      clear hs hd
      exact Lp.next KT [.reg [] [(3, .int (↑(List.length us) : Int)), (4, .bit true), (8, .bit true)], .reg [] [(4, .row i (Ty.enc (Ty.mk k1 v1 xs))), (8, .int (m - n)), (9, .call (I (tnC (Ty.mk k1 v1 xs) (m - n))) []), (10, .int (n + tnC (Ty.mk k1 v1 xs) (m - n)))], .reg [] [(1, .int ((↑i : Int) + 1))]] [.keep [(1, []), (2, []), (5, []), (6, [])]] (by kernel_rfl) (q ((↑(List.length (Ty.encs us)) : Int) = (↑(List.length us) : Int)) (q (decide ((↑i : Int) < (↑(List.length us) : Int)) = true) (q (decide (n ≤ m) = true) (q ((↑i : Int) = (↑i : Int)) (q ((Ty.encs us)[i]? = some (Ty.enc (Ty.mk k1 v1 xs))) (qw (m - n) (ob1 (hr) (qw (n + tnC (Ty.mk k1 v1 xs) (m - n)) (qw ((↑i : Int) + 1) ob0))))))))) (ih)
    · rw [if_neg hc]
      clear hs hd
      exact Lp.last KT [.reg [] [(3, .int (↑(List.length us) : Int)), (4, .bit true), (8, .bit false)]] [.keep [(5, [])]] (by kernel_rfl) (q ((↑(List.length (Ty.encs us)) : Int) = (↑(List.length us) : Int)) (q (decide ((↑i : Int) < (↑(List.length us) : Int)) = true) (q (decide (n ≤ m) = false) ob0))) (by intro h; cases h)

theorem tyNodes_ : ∀ (t : Ty) (m : Int), t.ok → -100000 ≤ m → m ≤ 100000 → SoundCall Tryd.prog 16 [.agg t.enc, I m] [] (I (tnC t m)) []
  | .mk k v l, m, hok, h1, h2 => by
    have hl : l.length ≤ 281474976710656 := hok.2.2.1
    have hr : ∀ x ∈ l, ∀ m, -100000 ≤ m → m ≤ 100000 → SoundCall Tryd.prog 16 [.agg x.enc, I m] [] (I (tnC x m)) [] := fun x hx m => tyNodes_ x m (Ty.oks_mem hok.2.2.2 x hx)
    have lp := tyNodes_loop k v l m hl h2 h1 l 0 1 rfl (by omega) (by omega) hr
    clear hok hr
    rw [tnC]
    exact Fn.go KT Tryd.func16 [.reg [] [], .reg [] [], .reg [] [], .loop [.keep [(1, []), (2, []), (5, []), (6, [])]] (Exit.exit 0) { tm := lookT [(5, I (tnL l m 1))], st := [] }, .reg [] []] [] [] (I (tnL l m 1)) ([]) (by kernel_rfl) (ob1 (lp) ob0)

mutual
def shC : Ty → Bool
  | .mk k v l => if k = 0 then decide (1 ≤ v) && decide (v ≤ 4) && decide (l.length = 0) else decide (k = 1) && decide (v = 0) && decide (l.length = 2) && shL l
def shL : List Ty → Bool
  | [] => true
  | t :: l => shC t && shL l
end

theorem shC_two (k v : Int) (a b : Ty) : shC (.mk k v [a, b]) = if k = 0 then false else decide (k = 1) && decide (v = 0) && (shC a && shC b) := by
  rw [shC]; simp [shL]

theorem shaped_ : ∀ (t : Ty), t.ok → SoundCall Tryd.prog 17 [.agg t.enc] [] (B (shC t)) []
  | .mk k v [], hok => by
    clear hok
    rcases bsp (k) (0) with ⟨hb1, hb1'⟩ | ⟨hb1, hb1'⟩
    · skip
      rcases dsp (1 ≤ v) with ⟨hb2, hb2'⟩ | ⟨hb2, hb2'⟩
      · skip
        rcases dsp (v ≤ 4) with ⟨hb3, hb3'⟩ | ⟨hb3, hb3'⟩
        · skip
          exact Fn.go KT Tryd.func17 [.reg [] [], .reg [] [(2, .bit true)], .reg [] [(2, .bit true), (6, .bit true)]] [] [] (B true) ([]) (by kernel_rfl) (q ((k == 0) = true) (q (decide (1 ≤ v) = true) (q (decide (v ≤ 4) = true) ob0))) (by (simp [shC, *])) (by first | rfl | (simp [*]; done))
        · skip
          exact Fn.go KT Tryd.func17 [.reg [] [], .reg [] [(2, .bit true)], .reg [] [(2, .bit true), (6, .bit false)]] [] [] (B false) ([]) (by kernel_rfl) (q ((k == 0) = true) (q (decide (1 ≤ v) = true) (q (decide (v ≤ 4) = false) ob0))) (by (simp [shC, *])) (by first | rfl | (simp [*]; done))
      · skip
        exact Fn.go KT Tryd.func17 [.reg [] [], .reg [] [(2, .bit true)], .reg [] [(2, .bit false)]] [] [] (B false) ([]) (by kernel_rfl) (q ((k == 0) = true) (q (decide (1 ≤ v) = false) ob0)) (by (simp [shC, *])) (by first | rfl | (simp [*]; done))
    · skip
      rcases bsp (k) (1) with ⟨hb2, hb2'⟩ | ⟨hb2, hb2'⟩
      · skip
        rcases bsp (v) (0) with ⟨hb3, hb3'⟩ | ⟨hb3, hb3'⟩
        · skip
          exact Fn.go KT Tryd.func17 [.reg [] [], .reg [] [(2, .bit false)], .reg [] [(2, .bit true), (6, .bit true)]] [] [] (B false) ([]) (by kernel_rfl) (q ((k == 0) = false) (q ((k == 1) = true) (q ((v == 0) = true) ob0))) (by (simp [shC, *])) (by first | rfl | (simp [*]; done))
        · skip
          exact Fn.go KT Tryd.func17 [.reg [] [], .reg [] [(2, .bit false)], .reg [] [(2, .bit true), (6, .bit false)]] [] [] (B false) ([]) (by kernel_rfl) (q ((k == 0) = false) (q ((k == 1) = true) (q ((v == 0) = false) ob0))) (by (simp [shC, *])) (by first | rfl | (simp [*]; done))
      · skip
        exact Fn.go KT Tryd.func17 [.reg [] [], .reg [] [(2, .bit false)], .reg [] [(2, .bit false)]] [] [] (B false) ([]) (by kernel_rfl) (q ((k == 0) = false) (q ((k == 1) = false) ob0)) (by (simp [shC, *])) (by first | rfl | (simp [*]; done))
  | .mk k v [a], hok => by
    clear hok
    rcases bsp (k) (0) with ⟨hb1, hb1'⟩ | ⟨hb1, hb1'⟩
    · skip
      rcases dsp (1 ≤ v) with ⟨hb2, hb2'⟩ | ⟨hb2, hb2'⟩
      · skip
        rcases dsp (v ≤ 4) with ⟨hb3, hb3'⟩ | ⟨hb3, hb3'⟩
        · skip
          exact Fn.go KT Tryd.func17 [.reg [] [], .reg [] [(2, .bit true)], .reg [] [(2, .bit true), (6, .bit true)]] [] [] (B false) ([]) (by kernel_rfl) (q ((k == 0) = true) (q (decide (1 ≤ v) = true) (q (decide (v ≤ 4) = true) ob0))) (by (simp [shC, *])) (by first | rfl | (simp [*]; done))
        · skip
          exact Fn.go KT Tryd.func17 [.reg [] [], .reg [] [(2, .bit true)], .reg [] [(2, .bit true), (6, .bit false)]] [] [] (B false) ([]) (by kernel_rfl) (q ((k == 0) = true) (q (decide (1 ≤ v) = true) (q (decide (v ≤ 4) = false) ob0))) (by (simp [shC, *])) (by first | rfl | (simp [*]; done))
      · skip
        exact Fn.go KT Tryd.func17 [.reg [] [], .reg [] [(2, .bit true)], .reg [] [(2, .bit false)]] [] [] (B false) ([]) (by kernel_rfl) (q ((k == 0) = true) (q (decide (1 ≤ v) = false) ob0)) (by (simp [shC, *])) (by first | rfl | (simp [*]; done))
    · skip
      rcases bsp (k) (1) with ⟨hb2, hb2'⟩ | ⟨hb2, hb2'⟩
      · skip
        rcases bsp (v) (0) with ⟨hb3, hb3'⟩ | ⟨hb3, hb3'⟩
        · skip
          exact Fn.go KT Tryd.func17 [.reg [] [], .reg [] [(2, .bit false)], .reg [] [(2, .bit true), (6, .bit true)]] [] [] (B false) ([]) (by kernel_rfl) (q ((k == 0) = false) (q ((k == 1) = true) (q ((v == 0) = true) ob0))) (by (simp [shC, *])) (by first | rfl | (simp [*]; done))
        · skip
          exact Fn.go KT Tryd.func17 [.reg [] [], .reg [] [(2, .bit false)], .reg [] [(2, .bit true), (6, .bit false)]] [] [] (B false) ([]) (by kernel_rfl) (q ((k == 0) = false) (q ((k == 1) = true) (q ((v == 0) = false) ob0))) (by (simp [shC, *])) (by first | rfl | (simp [*]; done))
      · skip
        exact Fn.go KT Tryd.func17 [.reg [] [], .reg [] [(2, .bit false)], .reg [] [(2, .bit false)]] [] [] (B false) ([]) (by kernel_rfl) (q ((k == 0) = false) (q ((k == 1) = false) ob0)) (by (simp [shC, *])) (by first | rfl | (simp [*]; done))
  | .mk k v [.mk ka va la, .mk kb vb lb], hok => by
    have ha := shaped_ (.mk ka va la) hok.2.2.2.1
    have hb := shaped_ (.mk kb vb lb) hok.2.2.2.2.1
    clear hok
    rcases bsp (k) (0) with ⟨hb1, hb1'⟩ | ⟨hb1, hb1'⟩
    · skip
      rcases dsp (1 ≤ v) with ⟨hb2, hb2'⟩ | ⟨hb2, hb2'⟩
      · skip
        rcases dsp (v ≤ 4) with ⟨hb3, hb3'⟩ | ⟨hb3, hb3'⟩
        · skip
          exact Fn.go KT Tryd.func17 [.reg [] [], .reg [] [(2, .bit true)], .reg [] [(2, .bit true), (6, .bit true)]] [] [] (B false) ([]) (by kernel_rfl) (q ((k == 0) = true) (q (decide (1 ≤ v) = true) (q (decide (v ≤ 4) = true) ob0))) (by (rw [shC_two]; simp [*])) (by first | rfl | (simp [*]; done))
        · skip
          exact Fn.go KT Tryd.func17 [.reg [] [], .reg [] [(2, .bit true)], .reg [] [(2, .bit true), (6, .bit false)]] [] [] (B false) ([]) (by kernel_rfl) (q ((k == 0) = true) (q (decide (1 ≤ v) = true) (q (decide (v ≤ 4) = false) ob0))) (by (rw [shC_two]; simp [*])) (by first | rfl | (simp [*]; done))
      · skip
        exact Fn.go KT Tryd.func17 [.reg [] [], .reg [] [(2, .bit true)], .reg [] [(2, .bit false)]] [] [] (B false) ([]) (by kernel_rfl) (q ((k == 0) = true) (q (decide (1 ≤ v) = false) ob0)) (by (rw [shC_two]; simp [*])) (by first | rfl | (simp [*]; done))
    · skip
      rcases bsp (k) (1) with ⟨hb2, hb2'⟩ | ⟨hb2, hb2'⟩
      · skip
        rcases bsp (v) (0) with ⟨hb3, hb3'⟩ | ⟨hb3, hb3'⟩
        · skip
          rcases Bool.eq_false_or_eq_true (shC (Ty.mk ka va la)) with hb4 | hb4
          · have hb4' := hb4
            try simp only [decide_eq_true_eq, decide_eq_false_iff_not, beq_iff_eq, bne_iff_ne, ne_eq, beq_eq_false_iff_ne, bne_eq_false_iff_eq, Bool.not_eq_true'] at hb4'
            rcases Bool.eq_false_or_eq_true (shC (Ty.mk kb vb lb)) with hb5 | hb5
            · have hb5' := hb5
              try simp only [decide_eq_true_eq, decide_eq_false_iff_not, beq_iff_eq, bne_iff_ne, ne_eq, beq_eq_false_iff_ne, bne_eq_false_iff_eq, Bool.not_eq_true'] at hb5'
              exact Fn.go KT Tryd.func17 [.reg [] [], .reg [] [(2, .bit false)], .reg [] [(2, .bit true), (6, .bit true), (17, .row 0 [I ka, I va, AV.sl 3 (Ty.encs la) false]), (19, .call (B true) []), (24, .row 1 [I kb, I vb, AV.sl 3 (Ty.encs lb) false]), (26, .call (B true) [])]] [] [] (B true) ([]) (by kernel_rfl) (q ((k == 0) = false) (q ((k == 1) = true) (q ((v == 0) = true) (q ((0 : Int) = (↑(0 : Nat) : Int)) (q ([[I ka, I va, AV.sl 3 (Ty.encs la) false], [I kb, I vb, AV.sl 3 (Ty.encs lb) false]][0]? = some [I ka, I va, AV.sl 3 (Ty.encs la) false]) (ob1 (SoundCall.to (ha) (pf (B (shC (Ty.mk ka va la)) = B true)) rfl) (q ((1 : Int) = (↑(1 : Nat) : Int)) (q ([[I ka, I va, AV.sl 3 (Ty.encs la) false], [I kb, I vb, AV.sl 3 (Ty.encs lb) false]][1]? = some [I kb, I vb, AV.sl 3 (Ty.encs lb) false]) (ob1 (SoundCall.to (hb) (pf (B (shC (Ty.mk kb vb lb)) = B true)) rfl) ob0))))))))) (by (rw [shC_two]; simp [*])) (by first | rfl | (simp [*]; done))
            · have hb5' := hb5
              try simp only [decide_eq_true_eq, decide_eq_false_iff_not, beq_iff_eq, bne_iff_ne, ne_eq, beq_eq_false_iff_ne, bne_eq_false_iff_eq, Bool.not_eq_true'] at hb5'
              exact Fn.go KT Tryd.func17 [.reg [] [], .reg [] [(2, .bit false)], .reg [] [(2, .bit true), (6, .bit true), (17, .row 0 [I ka, I va, AV.sl 3 (Ty.encs la) false]), (19, .call (B true) []), (24, .row 1 [I kb, I vb, AV.sl 3 (Ty.encs lb) false]), (26, .call (B false) [])]] [] [] (B false) ([]) (by kernel_rfl) (q ((k == 0) = false) (q ((k == 1) = true) (q ((v == 0) = true) (q ((0 : Int) = (↑(0 : Nat) : Int)) (q ([[I ka, I va, AV.sl 3 (Ty.encs la) false], [I kb, I vb, AV.sl 3 (Ty.encs lb) false]][0]? = some [I ka, I va, AV.sl 3 (Ty.encs la) false]) (ob1 (SoundCall.to (ha) (pf (B (shC (Ty.mk ka va la)) = B true)) rfl) (q ((1 : Int) = (↑(1 : Nat) : Int)) (q ([[I ka, I va, AV.sl 3 (Ty.encs la) false], [I kb, I vb, AV.sl 3 (Ty.encs lb) false]][1]? = some [I kb, I vb, AV.sl 3 (Ty.encs lb) false]) (ob1 (SoundCall.to (hb) (pf (B (shC (Ty.mk kb vb lb)) = B false)) rfl) ob0))))))))) (by (rw [shC_two]; simp [*])) (by first | rfl | (simp [*]; done))
          · have hb4' := hb4
            try simp only [decide_eq_true_eq, decide_eq_false_iff_not, beq_iff_eq, bne_iff_ne, ne_eq, beq_eq_false_iff_ne, bne_eq_false_iff_eq, Bool.not_eq_true'] at hb4'
            exact Fn.go KT Tryd.func17 [.reg [] [], .reg [] [(2, .bit false)], .reg [] [(2, .bit true), (6, .bit true), (17, .row 0 [I ka, I va, AV.sl 3 (Ty.encs la) false]), (19, .call (B false) [])]] [] [] (B false) ([]) (by kernel_rfl) (q ((k == 0) = false) (q ((k == 1) = true) (q ((v == 0) = true) (q ((0 : Int) = (↑(0 : Nat) : Int)) (q ([[I ka, I va, AV.sl 3 (Ty.encs la) false], [I kb, I vb, AV.sl 3 (Ty.encs lb) false]][0]? = some [I ka, I va, AV.sl 3 (Ty.encs la) false]) (ob1 (SoundCall.to (ha) (pf (B (shC (Ty.mk ka va la)) = B false)) rfl) ob0)))))) (by (rw [shC_two]; simp [*])) (by first | rfl | (simp [*]; done))
        · skip
          exact Fn.go KT Tryd.func17 [.reg [] [], .reg [] [(2, .bit false)], .reg [] [(2, .bit true), (6, .bit false)]] [] [] (B false) ([]) (by kernel_rfl) (q ((k == 0) = false) (q ((k == 1) = true) (q ((v == 0) = false) ob0))) (by (rw [shC_two]; simp [*])) (by first | rfl | (simp [*]; done))
      · skip
        exact Fn.go KT Tryd.func17 [.reg [] [], .reg [] [(2, .bit false)], .reg [] [(2, .bit false)]] [] [] (B false) ([]) (by kernel_rfl) (q ((k == 0) = false) (q ((k == 1) = false) ob0)) (by (rw [shC_two]; simp [*])) (by first | rfl | (simp [*]; done))
  | .mk k v (a :: b :: c :: l), hok => by
    have hl : l.length ≤ 281474976710656 := by have := hok.2.2.1; simp at this; omega
    clear hok
    rcases bsp (k) (0) with ⟨hb1, hb1'⟩ | ⟨hb1, hb1'⟩
    · skip
      rcases dsp (1 ≤ v) with ⟨hb2, hb2'⟩ | ⟨hb2, hb2'⟩
      · skip
        rcases dsp (v ≤ 4) with ⟨hb3, hb3'⟩ | ⟨hb3, hb3'⟩
        · skip
          exact Fn.go KT Tryd.func17 [.reg [] [], .reg [] [(2, .bit true)], .reg [] [(2, .bit true), (6, .bit true), (11, .int ((↑(List.length l) : Int) + 1 + 1 + 1))]] [] [] (B false) ([]) (by kernel_rfl) (q ((k == 0) = true) (q (decide (1 ≤ v) = true) (q (decide (v ≤ 4) = true) (q ((↑(List.length (Ty.enc a :: Ty.enc b :: Ty.enc c :: Ty.encs l)) : Int) = (↑(List.length l) : Int) + 1 + 1 + 1) ob0)))) (by (simp [shC, *])) (by first | rfl | (simp [*]; done))
        · skip
          exact Fn.go KT Tryd.func17 [.reg [] [], .reg [] [(2, .bit true)], .reg [] [(2, .bit true), (6, .bit false)]] [] [] (B false) ([]) (by kernel_rfl) (q ((k == 0) = true) (q (decide (1 ≤ v) = true) (q (decide (v ≤ 4) = false) ob0))) (by (simp [shC, *])) (by first | rfl | (simp [*]; done))
      · skip
        exact Fn.go KT Tryd.func17 [.reg [] [], .reg [] [(2, .bit true)], .reg [] [(2, .bit false)]] [] [] (B false) ([]) (by kernel_rfl) (q ((k == 0) = true) (q (decide (1 ≤ v) = false) ob0)) (by (simp [shC, *])) (by first | rfl | (simp [*]; done))
    · skip
      rcases bsp (k) (1) with ⟨hb2, hb2'⟩ | ⟨hb2, hb2'⟩
      · skip
        rcases bsp (v) (0) with ⟨hb3, hb3'⟩ | ⟨hb3, hb3'⟩
        · skip
          exact Fn.go KT Tryd.func17 [.reg [] [], .reg [] [(2, .bit false)], .reg [] [(2, .bit true), (6, .bit true), (11, .int ((↑(List.length l) : Int) + 1 + 1 + 1))]] [] [] (B false) ([]) (by kernel_rfl) (q ((k == 0) = false) (q ((k == 1) = true) (q ((v == 0) = true) (q ((↑(List.length (Ty.enc a :: Ty.enc b :: Ty.enc c :: Ty.encs l)) : Int) = (↑(List.length l) : Int) + 1 + 1 + 1) ob0)))) (by (simp [shC, *])) (by first | rfl | (simp [*]; done))
        · skip
          exact Fn.go KT Tryd.func17 [.reg [] [], .reg [] [(2, .bit false)], .reg [] [(2, .bit true), (6, .bit false)]] [] [] (B false) ([]) (by kernel_rfl) (q ((k == 0) = false) (q ((k == 1) = true) (q ((v == 0) = false) ob0))) (by (simp [shC, *])) (by first | rfl | (simp [*]; done))
      · skip
        exact Fn.go KT Tryd.func17 [.reg [] [], .reg [] [(2, .bit false)], .reg [] [(2, .bit false)]] [] [] (B false) ([]) (by kernel_rfl) (q ((k == 0) = false) (q ((k == 1) = false) ob0)) (by (simp [shC, *])) (by first | rfl | (simp [*]; done))
termination_by t => SizeOf.sizeOf t

theorem refIsTy_ (t : Ty) (hok : t.ok) : SoundCall Tryd.prog 10 [.agg t.enc] [] (B (decide (tnC t 20 ≤ 20) && shC t)) [] := by
  have h1 := tyNodes_ t 20 hok (by omega) (by omega)
  have h2 := shaped_ t hok
  obtain ⟨k, v, l⟩ := t
  clear hok
  rcases dsp (tnC (Ty.mk k v l) 20 ≤ 20) with ⟨hb1, hb1'⟩ | ⟨hb1, hb1'⟩
  · skip
    rcases Bool.eq_false_or_eq_true (shC (Ty.mk k v l)) with hb2 | hb2
    · have hb2' := hb2
      try simp only [decide_eq_true_eq, decide_eq_false_iff_not, beq_iff_eq, bne_iff_ne, ne_eq, beq_eq_false_iff_ne, bne_eq_false_iff_eq, Bool.not_eq_true'] at hb2'
      exact Fn.go KT Tryd.func10 [.reg [] [], .reg [] [(1, .call (I (tnC (Ty.mk k v l) 20)) []), (2, .bit true), (5, .call (B true) [])]] [] [] (B true) ([]) (by kernel_rfl) (ob1 (h1) (q (decide (tnC (Ty.mk k v l) 20 ≤ 20) = true) (ob1 (SoundCall.to (h2) (pf (B (shC (Ty.mk k v l)) = B true)) rfl) ob0)))
    · have hb2' := hb2
      try simp only [decide_eq_true_eq, decide_eq_false_iff_not, beq_iff_eq, bne_iff_ne, ne_eq, beq_eq_false_iff_ne, bne_eq_false_iff_eq, Bool.not_eq_true'] at hb2'
      exact Fn.go KT Tryd.func10 [.reg [] [], .reg [] [(1, .call (I (tnC (Ty.mk k v l) 20)) []), (2, .bit true), (5, .call (B false) [])]] [] [] (B false) ([]) (by kernel_rfl) (ob1 (h1) (q (decide (tnC (Ty.mk k v l) 20 ≤ 20) = true) (ob1 (SoundCall.to (h2) (pf (B (shC (Ty.mk k v l)) = B false)) rfl) ob0)))
  · skip
    exact Fn.go KT Tryd.func10 [.reg [] [], .reg [] [(1, .call (I (tnC (Ty.mk k v l) 20)) []), (2, .bit false)]] [] [] (B false) ([]) (by kernel_rfl) (ob1 (h1) (q (decide (tnC (Ty.mk k v l) 20 ≤ 20) = false) ob0))

end Go.Ae

/- source IsTy and the document's IsTy. -/
namespace Go.Ae
open Go.Proofs

mutual
/-- The nodes of a type. -/
def Ty.nd : Ty → Int
  | .mk _ _ l => 1 + Ty.nds l
def Ty.nds : List Ty → Int
  | [] => 0
  | t :: l => t.nd + Ty.nds l
end

mutual
theorem nd_pos : ∀ t : Ty, 1 ≤ t.nd
  | .mk _ _ l => by have := nds_pos l; simp only [Ty.nd]; omega
theorem nds_pos : ∀ l : List Ty, 0 ≤ Ty.nds l
  | [] => by simp [Ty.nds]
  | t :: l => by have := nd_pos t; have := nds_pos l; simp only [Ty.nds]; omega
end

mutual
theorem tnC_nd : ∀ (t : Ty) (m : Int), (tnC t m ≤ m ↔ t.nd ≤ m) ∧ (t.nd ≤ m → tnC t m = t.nd)
  | .mk k v l, m => by
    have h := tnL_nd l m 1 (by omega)
    simp only [tnC, Ty.nd]
    exact h
theorem tnL_nd : ∀ (l : List Ty) (m n : Int), 1 ≤ n → (tnL l m n ≤ m ↔ n + Ty.nds l ≤ m) ∧ (n + Ty.nds l ≤ m → tnL l m n = n + Ty.nds l)
  | [], m, n, h => by simp [tnL, Ty.nds]
  | t :: l, m, n, h => by
    have h1 := tnC_nd t (m - n)
    have h2 := nd_pos t
    have h3 := nds_pos l
    have h4 := tnC_bound t (m - n)
    have h5 := tnL_nd l m (n + tnC t (m - n)) (by omega)
    have h6 := tnL_bound l m (n + tnC t (m - n)) (by omega)
    simp only [tnL, Ty.nds]
    by_cases hn : n ≤ m
    · rw [if_pos hn]
      by_cases hc : t.nd ≤ m - n
      · have := h1.2 hc
        rw [this] at h5 ⊢
        exact ⟨by rw [h5.1]; omega, fun h => by rw [h5.2 (by omega)]; omega⟩
      · have := mt h1.1.1 hc
        exact ⟨⟨fun h => by omega, fun h => by omega⟩, fun h => by omega⟩
    · rw [if_neg hn]
      exact ⟨⟨fun h => by omega, fun h => by omega⟩, fun h => by omega⟩
end

mutual
theorem tyC_nd : ∀ (t : Ty) (n : Int), 0 ≤ n → ((tyC t n).1 = true ↔ shC t = true ∧ t.nd ≤ n) ∧ ((tyC t n).1 = true → (tyC t n).2 = n - t.nd)
  | .mk k v l, n, h => by
    have hp := nds_pos l
    simp only [tyC, shC, Ty.nd]
    by_cases h1 : n - 1 < 0
    · rw [if_pos h1]
      exact ⟨⟨fun h => by simp at h, fun h => by omega⟩, fun h => by simp at h⟩
    · rw [if_neg h1]
      by_cases hk : k = 0
      · rw [if_pos hk, if_pos hk]
        refine ⟨⟨fun h => ⟨h, ?_⟩, fun h => h.1⟩, fun h => ?_⟩
        · simp only [Bool.and_eq_true, decide_eq_true_eq] at h
          have : l = [] := List.eq_nil_of_length_eq_zero h.2
          subst this
          simp only [Ty.nds]; omega
        · simp only [Bool.and_eq_true, decide_eq_true_eq] at h
          have : l = [] := List.eq_nil_of_length_eq_zero h.2
          subst this
          simp only [Ty.nds]; omega
      · rw [if_neg hk, if_neg hk]
        by_cases hk1 : k = 1
        · rw [if_pos hk1]
          by_cases h2 : v = 0 ∧ l.length = 2
          · rw [if_pos h2]
            have h3 := tyCs_nd l (n - 1) (by omega)
            simp only [hk1, h2.1, h2.2, decide_true, Bool.true_and]
            refine ⟨?_, fun h => ?_⟩
            · rw [h3.1]
              constructor
              · rintro ⟨a, b⟩; exact ⟨a, by omega⟩
              · rintro ⟨a, b⟩; exact ⟨a, by omega⟩
            · rw [h3.2 h]; omega
          · rw [if_neg h2]
            refine ⟨⟨fun h => by simp at h, fun h => ?_⟩, fun h => by simp at h⟩
            simp only [Bool.and_eq_true, decide_eq_true_eq] at h
            exact absurd ⟨h.1.1.1.2, h.1.1.2⟩ h2
        · rw [if_neg hk1]
          refine ⟨⟨fun h => by simp at h, fun h => ?_⟩, fun h => by simp at h⟩
          simp only [Bool.and_eq_true, decide_eq_true_eq] at h
          exact absurd h.1.1.1.1 hk1
theorem tyCs_nd : ∀ (l : List Ty) (n : Int), 0 ≤ n → ((tyCs l n).1 = true ↔ shL l = true ∧ Ty.nds l ≤ n) ∧ ((tyCs l n).1 = true → (tyCs l n).2 = n - Ty.nds l)
  | [], n, h => by simp [tyCs, shL, Ty.nds, h]
  | t :: l, n, h => by
    have h1 := tyC_nd t n h
    have hp := nds_pos l
    simp only [tyCs, shL, Ty.nds, Bool.and_eq_true]
    by_cases hc : (tyC t n).1 = true
    · rw [if_pos hc]
      have hb := tyC_bound t n h
      have h2 := tyCs_nd l (tyC t n).2 (hb.2.2 hc)
      rw [h1.2 hc] at h2 ⊢
      have h3 := h1.1.1 hc
      refine ⟨?_, fun h => ?_⟩
      · rw [h2.1]
        constructor
        · rintro ⟨a, b⟩; exact ⟨⟨h3.1, a⟩, by omega⟩
        · rintro ⟨⟨_, a⟩, b⟩; exact ⟨a, by omega⟩
      · rw [h2.2 h]; omega
    · rw [if_neg hc]
      refine ⟨⟨fun h => by simp at h, fun h => ?_⟩, fun h => by simp at h⟩
      exact absurd (h1.1.2 ⟨h.1.1, by omega⟩) hc
end

def isTyR (t : Ty) : Bool := decide (tnC t 20 ≤ 20) && shC t

theorem isTyR_eq (t : Ty) : isTyR t = (tyC t 20).1 := by
  have h1 := (tnC_nd t 20).1
  have h2 := (tyC_nd t 20 (by omega)).1
  unfold isTyR
  rw [Bool.eq_iff_iff, h2]
  simp only [Bool.and_eq_true, decide_eq_true_eq, h1]
  exact And.comm

end Go.Ae

/- The law LangSame: what it returns. -/
namespace Go.Ae
open Go.Proofs

theorem alive_ : SoundCall Tryd.prog 6 [] [] (.sc (.bool true)) [] := closed2 [] 300 60 (by kernel_rfl)

theorem lplain_ : SoundCall Tryd.prog 7 [] [] (.agg [B false]) [] := by
  exact Fn.go KT Tryd.func7 [.reg [] [], .reg [] []] [] [] (AV.agg [B false]) ([]) (by kernel_rfl) ob0

theorem same_ (a b : Ty) (ha : a.ok) (hb : b.ok) : SoundCall Tryd.prog 4 [.agg a.enc, .agg b.enc] [] (B ((tyC a 20).1 && ((tyC b 20).1 && decide (a = b)))) [] := by
  have hp := lplain_
  have h1 := isTy_ a ha
  have h2 := isTy_ b hb
  have h3 := eqTy_0 a b ha
  generalize decide (a = b) = q at h3 ⊢
  generalize (tyC a 20).1 = x at h1 ⊢
  generalize (tyC b 20).1 = y at h2 ⊢
  obtain ⟨ak, av, al⟩ := a
  obtain ⟨bk, bv, bl⟩ := b
  clear ha hb
  cases x with
  | false =>
    simp only [Bool.false_and]
    exact Fn.go KT Tryd.func4 [.reg [] [], .reg [] [(0, .call (AV.agg [B false]) []), (2, .call (B false) [])]] [] [] (B false) ([]) (by kernel_rfl) (ob1 (hp) (ob1 (h1) ob0))
  | true =>
    cases y with
    | false =>
      simp only [Bool.false_and, Bool.and_false]
      exact Fn.go KT Tryd.func4 [.reg [] [], .reg [] [(0, .call (AV.agg [B false]) []), (2, .call (B true) []), (4, .call (AV.agg [B false]) []), (6, .call (B false) [])]] [] [] (B false) ([]) (by kernel_rfl) (ob1 (hp) (ob1 (h1) (ob1 (hp) (ob1 (h2) ob0))))
    | true =>
      cases q with
      | false =>
        simp only [Bool.and_false]
        exact Fn.go KT Tryd.func4 [.reg [] [], .reg [] [(0, .call (AV.agg [B false]) []), (2, .call (B true) []), (4, .call (AV.agg [B false]) []), (6, .call (B true) []), (11, .call (B false) [])]] [] [] (B false) ([]) (by kernel_rfl) (ob1 (hp) (ob1 (h1) (ob1 (hp) (ob1 (h2) (ob1 (h3) ob0)))))
      | true =>
        simp only [Bool.and_true]
        exact Fn.go KT Tryd.func4 [.reg [] [], .reg [] [(0, .call (AV.agg [B false]) []), (2, .call (B true) []), (4, .call (AV.agg [B false]) []), (6, .call (B true) []), (11, .call (B true) [])]] [] [] (B true) ([]) (by kernel_rfl) (ob1 (hp) (ob1 (h1) (ob1 (hp) (ob1 (h2) (ob1 (h3) ob0)))))

theorem rsame_ (a b : Ty) (ha : a.ok) (hb : b.ok) : SoundCall Tryd.prog 5 [.agg a.enc, .agg b.enc] [] (B ((tyC a 20).1 && ((tyC b 20).1 && decide (a = b)))) [] := by
  have h1 := refIsTy_ a ha
  have h2 := refIsTy_ b hb
  have h3 := eqTy_1 a b ha
  have e1 := isTyR_eq a
  have e2 := isTyR_eq b
  unfold isTyR at e1 e2
  rw [e1] at h1
  rw [e2] at h2
  clear e1 e2
  generalize decide (a = b) = q at h3 ⊢
  generalize (tyC a 20).1 = x at h1 ⊢
  generalize (tyC b 20).1 = y at h2 ⊢
  obtain ⟨ak, av, al⟩ := a
  obtain ⟨bk, bv, bl⟩ := b
  clear ha hb
  cases x with
  | false =>
    simp only [Bool.false_and]
    exact Fn.go KT Tryd.func5 [.reg [] [], .reg [] [(1, .call (B false) [])]] [] [] (B false) ([]) (by kernel_rfl) (ob1 (h1) ob0)
  | true =>
    cases y with
    | false =>
      simp only [Bool.false_and, Bool.and_false]
      exact Fn.go KT Tryd.func5 [.reg [] [], .reg [] [(1, .call (B true) []), (4, .call (B false) [])]] [] [] (B false) ([]) (by kernel_rfl) (ob1 (h1) (ob1 (h2) ob0))
    | true =>
      cases q with
      | false =>
        simp only [Bool.and_false]
        exact Fn.go KT Tryd.func5 [.reg [] [], .reg [] [(1, .call (B true) []), (4, .call (B true) []), (9, .call (B false) [])]] [] [] (B false) ([]) (by kernel_rfl) (ob1 (h1) (ob1 (h2) (ob1 (h3) ob0)))
      | true =>
        simp only [Bool.and_true]
        exact Fn.go KT Tryd.func5 [.reg [] [], .reg [] [(1, .call (B true) []), (4, .call (B true) []), (9, .call (B true) [])]] [] [] (B true) ([]) (by kernel_rfl) (ob1 (h1) (ob1 (h2) (ob1 (h3) ob0)))

theorem law_ (a b : Ty) (ha : a.ok) (hb : b.ok) : SoundCall Tryd.prog 3 [.agg a.enc, .agg b.enc] [] (B true) [] := by
  have hl := alive_
  have h1 := same_ a b ha hb
  have h2 := rsame_ a b ha hb
  generalize ((tyC a 20).1 && ((tyC b 20).1 && decide (a = b))) = q at h1 h2
  obtain ⟨ak, av, al⟩ := a
  obtain ⟨bk, bv, bl⟩ := b
  clear ha hb
  cases q with
  | false => exact Fn.go KT Tryd.func3 [.reg [] [], .reg [] [(2, .call (B false) []), (5, .call (B false) []), (8, .call (B true) [])]] [] [] (B true) ([]) (by kernel_rfl) (ob1 (h1) (ob1 (h2) (ob1 (hl) ob0)))
  | true => exact Fn.go KT Tryd.func3 [.reg [] [], .reg [] [(2, .call (B true) []), (5, .call (B true) []), (8, .call (B true) [])]] [] [] (B true) ([]) (by kernel_rfl) (ob1 (h1) (ob1 (h2) (ob1 (hl) ob0)))

end Go.Ae

/- From a row's reading to the data: types. -/
namespace Go.Ae
open Go.Proofs Go.RowKit

theorem wf_ir {n : Int} (h : (Lit.int .i64 n).wf = true) : ir n := by
  simp [Lit.wf, IntKind.min, IntKind.max, IntKind.signed, IntKind.bits] at h
  unfold ir
  omega

def isInt (row : List AV) : Prop := ∃ n, row = [I n] ∧ ir n
def isTy (row : List AV) : Prop := ∃ t : Ty, row = t.enc ∧ t.ok

section
variable {H : Type} {enc : TypeId × Value → H} {W : World} {base : Nat} {sp : Nat → Bool} {hd : Bool}

theorem rd_i (F : Nat) : RdF enc Tryd.prog W base sp hd F 3 isInt :=
  (rd_int (F := F) Tryd.underlying3).imp fun row ⟨n, h, hw⟩ => ⟨n, h, wf_ir hw⟩
theorem rows_tys : ∀ (rows : List (List AV)), (∀ r ∈ rows, isTy r) → ∃ us, rows = Ty.encs us ∧ us.length = rows.length ∧ Ty.oks us
  | [], _ => ⟨[], rfl, rfl, trivial⟩
  | r :: rows, h => by
    obtain ⟨t, rfl, ht⟩ := h r (by simp)
    obtain ⟨us, rfl, h2, h3⟩ := rows_tys rows fun r hr => h r (by simp [hr])
    exact ⟨t :: us, rfl, by simp, ht, h3⟩
theorem small {n b : Nat} (hb : 1 ≤ b) (h : n * b ≤ reachBytes) : n ≤ 281474976710656 := by
  have : n * 1 ≤ n * b := Nat.mul_le_mul_left n hb
  unfold reachBytes at h
  omega

theorem rd_ty : ∀ F, RdF enc Tryd.prog W base sp hd F 24 isTy
  | 0 => fun fuel hf cs x hx _ => by
    obtain rfl : fuel = 0 := by omega
    simp [DataW.trod] at hx
  | F + 1 => by
    have ih := rd_ty F
    have hs := (rd_slice (F := F) (n := 3) Tryd.underlying22 (by kernel_rfl) (by omega) (of_decide_eq_true (by kernel_rfl)) ih).mono (Nat.le_succ F)
    refine (rd_struct (F := F) (Rs := [isInt, isInt, _]) Tryd.underlying24 (by kernel_rfl) ⟨by kernel_rfl, rd_i F, by kernel_rfl, rd_i F, by kernel_rfl, hs, trivial⟩).imp fun row h => ?_
    obtain ⟨_, _, rfl, ⟨k, rfl, hk⟩, _, _, rfl, ⟨v, rfl, hv⟩, _, _, rfl, ⟨rows, rfl, hl, hr⟩, rfl⟩ := h
    obtain ⟨us, rfl, hu, ho⟩ := rows_tys rows hr
    exact ⟨.mk k v us, by simp [Ty.enc], hk, hv, by rw [hu]; exact small (of_decide_eq_true (by kernel_rfl)) hl, ho⟩

/-- An argument that is a type. -/
theorem arg_ty {v : Value} {d : DataW H} {p : List MemPlace} (hv : ∃ cs : Array Value, v = .agg cs) (h : DataW.Trod enc Tryd.prog W base sp hd 24 v d p) (hw : ∀ n ∈ d.weights Tryd.prog 24, n ≤ reachBytes) :
    ∃ q : Ty, RepV (memOf W) [] (.agg q.enc) v ∧ q.ok := by
  obtain ⟨cs, rfl⟩ := hv
  obtain ⟨fuel, hf⟩ := h
  obtain ⟨row, ⟨q, rfl, ho⟩, hrd⟩ := rd_ty fuel fuel (by omega) _ _ hf hw
  refine ⟨q, ?_, ho⟩
  have := RepV.agg (M := memOf W) (μ := []) (cs := q.enc) (us := cs.toList) (by simpa [Value.cells] using hrd.1) fun j a u e1 e2 => (hrd.2 j a u e1 (by simpa [Value.cells] using e2)).2
  simpa using this
end

end Go.Ae

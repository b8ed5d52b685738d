/- The data: types, expressions, programs, and how they lie in memory. .. (AeNND0, AeNNK0, AeNNF1, AeNNF2, AeNNF3, AeNNF4, AeNNF5, AeNNF9, AeNND1) -/
import Derived.Test.YtcmlbbgbfgikaaaDoorT4
import Derived.Test.YtcmlbbgbfgikaaaDoorProg
set_option linter.unusedSimpArgs false
set_option linter.unusedVariables false
/- The data: types, expressions, programs, and how they lie in memory. -/
namespace Go.Ae

abbrev I (n : Int) : AV := .sc (.int .i64 n)
abbrev B (b : Bool) : AV := .sc (.bool b)
abbrev S (s : ByteArray) : AV := .sc (.string s)

inductive Ty where
  | mk (kind vals : Int) (args : List Ty)

noncomputable instance : DecidableEq Ty := fun _ _ => Classical.propDecidable _

mutual
def Ty.enc : Ty → List AV
  | .mk k v l => [I k, I v, .sl 3 (Ty.encs l) false]
def Ty.encs : List Ty → List (List AV)
  | [] => []
  | t :: ts => t.enc :: Ty.encs ts
end

@[simp] theorem Ty.encs_length : ∀ l : List Ty, (Ty.encs l).length = l.length
  | [] => rfl
  | _ :: l => by simp [Ty.encs, Ty.encs_length l]

theorem Ty.encs_get : ∀ (l : List Ty) (i : Nat), (Ty.encs l)[i]? = (l[i]?).map Ty.enc
  | [], i => by simp [Ty.encs]
  | t :: l, 0 => by simp [Ty.encs]
  | t :: l, i + 1 => by simp [Ty.encs, Ty.encs_get l i]

inductive Expr where
  | mk (kind n vals : Int) (ty : Ty) (args : List Expr)

noncomputable instance : DecidableEq Expr := fun _ _ => Classical.propDecidable _

mutual
def Expr.enc : Expr → List AV
  | .mk k n v (.mk tk tv tl) l => [I k, I n, I v, I tk, I tv, .sl 3 (Ty.encs tl) false, .sl 7 (Expr.encs l) false]
def Expr.encs : List Expr → List (List AV)
  | [] => []
  | e :: es => e.enc :: Expr.encs es
end

@[simp] theorem Expr.encs_length : ∀ l : List Expr, (Expr.encs l).length = l.length
  | [] => rfl
  | _ :: l => by simp [Expr.encs, Expr.encs_length l]

theorem Expr.encs_get : ∀ (l : List Expr) (i : Nat), (Expr.encs l)[i]? = (l[i]?).map Expr.enc
  | [], i => by simp [Expr.encs]
  | t :: l, 0 => by simp [Expr.encs]
  | t :: l, i + 1 => by simp [Expr.encs, Expr.encs_get l i]

/-- A number of Go's. -/
def ir (n : Int) : Prop := -9223372036854775808 ≤ n ∧ n ≤ 9223372036854775807

mutual
def Ty.ok : Ty → Prop
  | .mk k v l => ir k ∧ ir v ∧ l.length ≤ 281474976710656 ∧ Ty.oks l
def Ty.oks : List Ty → Prop
  | [] => True
  | t :: ts => t.ok ∧ Ty.oks ts
end

mutual
def Expr.ok : Expr → Prop
  | .mk k n v t l => ir k ∧ ir n ∧ ir v ∧ t.ok ∧ l.length ≤ 281474976710656 ∧ Expr.oks l
def Expr.oks : List Expr → Prop
  | [] => True
  | t :: ts => t.ok ∧ Expr.oks ts
end

theorem Ty.oks_mem : ∀ {l : List Ty}, Ty.oks l → ∀ t ∈ l, t.ok
  | [], _, t, h => by simp at h
  | x :: l, hx, t, h => by
    simp only [Ty.oks] at hx
    rcases List.mem_cons.1 h with rfl | h
    · exact hx.1
    · exact Ty.oks_mem hx.2 t h
theorem Expr.oks_mem : ∀ {l : List Expr}, Expr.oks l → ∀ t ∈ l, t.ok
  | [], _, t, h => by simp at h
  | x :: l, hx, t, h => by
    simp only [Expr.oks] at hx
    rcases List.mem_cons.1 h with rfl | h
    · exact hx.1
    · exact Expr.oks_mem hx.2 t h

theorem drop_get {α : Type} {l : List α} {i : Nat} {x : α} {r : List α} (h : l.drop i = x :: r) : l[i]? = some x := by
  rw [← List.head?_drop, h]; rfl
theorem drop_next {α : Type} {l : List α} {i : Nat} {x : α} {r : List α} (h : l.drop i = x :: r) : l.drop (i + 1) = r := by
  rw [← List.tail_drop, h]; rfl
theorem drop_lt {α : Type} {l : List α} {i : Nat} {x : α} {r : List α} (h : l.drop i = x :: r) : i < l.length := by
  have := congrArg List.length h; simp at this; omega
theorem drop_end {α : Type} {l : List α} {i : Nat} (h : l.drop i = []) : l.length ≤ i := by
  have := congrArg List.length h; simp at this; omega

end Go.Ae

/- Which cells of a type are slices, and how many cells their elements have. -/
namespace Go.Ae

def KT : Kinds := [
  (26, [none, none, some 3]), (24, [some 3]), (27, [some 7]), (22, [some 1]), (32, [some 1]), (23, [some 14]),
  (29, [none, none, none, none, none, some 3, some 7]),
  (83, [none, none, none, some 3, none, none, some 3, none, none, none, none, none, some 3, some 7]),
  (31, [some 1, some 14, none, none, none, none, none, some 3, some 7]),
  (36, [some 1, none, none, none]),
  (63, [some 7])]

end Go.Ae

/- Equality of types. -/
namespace Go.Ae
open Go.Proofs

theorem eqTy_loop_0 (k v k2 v2 : Int) (us ws : List Ty) (hn : us.length ≤ 281474976710656) : ∀ (us' ws' : List Ty) (i : Nat), us.drop i = us' → ws.drop i = ws' → us'.length = ws'.length →
    (∀ x ∈ us', ∀ y, SoundCall Tryd.prog 23 [.agg x.enc, .agg y.enc] [] (B (decide (x = y))) []) →
    Lp Tryd.prog 46 0 (loopN Tryd.f23 0) ⟨lookT [(2, .lp 0 0), (3, .lp 1 0), (29, I (us.length : Int)), (30, I (i : Int))], [.cells [I k, I v, .sl 3 (Ty.encs us) false] [], .cells [I k2, I v2, .sl 3 (Ty.encs ws) false] []]⟩
      (if us' = ws' then .exit 0 else .ret) (if us' = ws' then ⟨lookT [], []⟩ else ⟨lookT [(4, B false)], []⟩)
  | [], ws', i, h1, h2, hl, _ => by
    cases ws' with
    | cons y ws' => simp at hl
    | nil =>
      have hi := drop_end h1
      rw [if_pos rfl, if_pos rfl]
      exact Lp.last KT [.reg [] [(0, .bit false)]] [.keep []] (by kernel_rfl) (q (decide ((↑i : Int) < (↑(List.length us) : Int)) = false) ob0) (by intro h; cases h)
  | .mk k1 v1 xs :: us', ws', i, h1, h2, hl, hs => by
    cases ws' with
    | nil => simp at hl
    | cons y ws' =>
      obtain ⟨k3, v3, ys⟩ := y
      have hi := drop_lt h1
      have hx : (Ty.encs us)[i]? = some (Ty.mk k1 v1 xs).enc := by rw [Ty.encs_get, drop_get h1]; rfl
      have hy : (Ty.encs ws)[i]? = some (Ty.mk k3 v3 ys).enc := by rw [Ty.encs_get, drop_get h2]; rfl
      have hc := hs (.mk k1 v1 xs) (by simp) (.mk k3 v3 ys)
      have ih := eqTy_loop_0 k v k2 v2 us ws hn us' ws' (i + 1) (drop_next h1) (drop_next h2) (by simpa using hl) (fun x hx => hs x (by simp [hx]))
      simp only [Int.natCast_add] at ih
      clear hs h1 h2
      by_cases he : Ty.mk k1 v1 xs = Ty.mk k3 v3 ys
      · rw [decide_eq_true he] at hc
        simp only [he, List.cons.injEq, true_and]
        exact Lp.next KT [.reg [] [(0, .bit true)], .reg [] [], .reg [] [(3, .row i (Ty.enc (Ty.mk k1 v1 xs))), (8, .row i (Ty.enc (Ty.mk k3 v3 ys))), (10, .call (B true) [])], .reg [] [(0, .int ((↑i : Int) + 1))]] [.keep [(2, []), (3, []), (29, []), (30, [])]] (by kernel_rfl) (q (decide ((↑i : Int) < (↑(List.length us) : Int)) = true) (q ((↑i : Int) = (↑i : Int)) (q ((Ty.encs us)[i]? = some (Ty.enc (Ty.mk k1 v1 xs))) (q ((↑i : Int) = (↑i : Int)) (q ((Ty.encs ws)[i]? = some (Ty.enc (Ty.mk k3 v3 ys))) (ob1 (hc) (qw ((↑i : Int) + 1) ob0))))))) (ih)
      · rw [decide_eq_false he] at hc
        simp only [List.cons.injEq, he, false_and, if_false]
        clear ih
        exact Lp.last KT [.reg [] [(0, .bit true)], .reg [] [], .reg [] [(3, .row i (Ty.enc (Ty.mk k1 v1 xs))), (8, .row i (Ty.enc (Ty.mk k3 v3 ys))), (10, .call (B false) [])], .reg [] []] [.keep [(4, [])]] (by kernel_rfl) (q (decide ((↑i : Int) < (↑(List.length us) : Int)) = true) (q ((↑i : Int) = (↑i : Int)) (q ((Ty.encs us)[i]? = some (Ty.enc (Ty.mk k1 v1 xs))) (q ((↑i : Int) = (↑i : Int)) (q ((Ty.encs ws)[i]? = some (Ty.enc (Ty.mk k3 v3 ys))) (ob1 (hc) ob0)))))) (by intro h; cases h)

theorem eqTy_0 : ∀ (a b : Ty), a.ok → SoundCall Tryd.prog 23 [.agg a.enc, .agg b.enc] [] (B (decide (a = b))) []
  | .mk k v us, .mk k2 v2 ws, hok => by
    simp only [Ty.ok] at hok
    obtain ⟨-, -, hn, hoks⟩ := hok
    have hr : ∀ x ∈ us, ∀ y, SoundCall Tryd.prog 23 [.agg x.enc, .agg y.enc] [] (B (decide (x = y))) [] := fun x hx y => eqTy_0 x y (Ty.oks_mem hoks x hx)
    by_cases h1 : k = k2
    · by_cases h2 : v = v2
      · by_cases h3 : us.length = ws.length
        · have hl := eqTy_loop_0 k v k2 v2 us ws hn us ws 0 rfl rfl h3 hr
          by_cases h4 : us = ws
          · simp only [if_pos h4] at hl
            exact Fn.go KT Tryd.func23 [.reg [] [], .reg [] [(4, .bit false), (10, .bit false), (15, .int (↑(List.length us) : Int)), (18, .int (↑(List.length ws) : Int)), (19, .bit false)], .reg [] [(2, .int (↑(List.length us) : Int))], .loop [.keep [(2, []), (3, []), (29, []), (30, [])]] (Exit.exit 0) { tm := lookT [], st := [] }, .reg [] []] [] [] (B true) ([]) (by kernel_rfl) (q ((k != k2) = false) (q ((v != v2) = false) (q ((↑(List.length (Ty.encs us)) : Int) = (↑(List.length us) : Int)) (q ((↑(List.length (Ty.encs ws)) : Int) = (↑(List.length ws) : Int)) (q (((↑(List.length us) : Int) != (↑(List.length ws) : Int)) = false) (q ((↑(List.length (Ty.encs us)) : Int) = (↑(List.length us) : Int)) (ob1 (hl) ob0)))))))
          · simp only [if_neg h4] at hl
            exact Fn.go KT Tryd.func23 [.reg [] [], .reg [] [(4, .bit false), (10, .bit false), (15, .int (↑(List.length us) : Int)), (18, .int (↑(List.length ws) : Int)), (19, .bit false)], .reg [] [(2, .int (↑(List.length us) : Int))], .loop [.keep [(2, []), (3, []), (29, []), (30, [])]] Exit.ret { tm := lookT [(4, B false)], st := [] }] [] [] (B false) ([]) (by kernel_rfl) (q ((k != k2) = false) (q ((v != v2) = false) (q ((↑(List.length (Ty.encs us)) : Int) = (↑(List.length us) : Int)) (q ((↑(List.length (Ty.encs ws)) : Int) = (↑(List.length ws) : Int)) (q (((↑(List.length us) : Int) != (↑(List.length ws) : Int)) = false) (q ((↑(List.length (Ty.encs us)) : Int) = (↑(List.length us) : Int)) (ob1 (hl) ob0)))))))
        · have h4 : ¬us = ws := fun h => h3 (by rw [h])
          exact Fn.go KT Tryd.func23 [.reg [] [], .reg [] [(4, .bit false), (10, .bit false), (15, .int (↑(List.length us) : Int)), (18, .int (↑(List.length ws) : Int)), (19, .bit true)], .reg [] []] [] [] (B false) ([]) (by kernel_rfl) (q ((k != k2) = false) (q ((v != v2) = false) (q ((↑(List.length (Ty.encs us)) : Int) = (↑(List.length us) : Int)) (q ((↑(List.length (Ty.encs ws)) : Int) = (↑(List.length ws) : Int)) (q (((↑(List.length us) : Int) != (↑(List.length ws) : Int)) = true) ob0)))))
      · exact Fn.go KT Tryd.func23 [.reg [] [], .reg [] [(4, .bit false), (10, .bit true)], .reg [] []] [] [] (B false) ([]) (by kernel_rfl) (q ((k != k2) = false) (q ((v != v2) = true) ob0))
    · exact Fn.go KT Tryd.func23 [.reg [] [], .reg [] [(4, .bit true)], .reg [] []] [] [] (B false) ([]) (by kernel_rfl) (q ((k != k2) = true) ob0)

end Go.Ae

/- source: types. -/
namespace Go.Ae
open Go.Proofs

mutual
def tyC : Ty → Int → Bool × Int
  | .mk k v l, n =>
    if n - 1 < 0 then (false, n - 1)
    else if k = 0 then (decide (1 ≤ v) && decide (v ≤ 4) && decide (l.length = 0), n - 1)
    else if k = 1 then (if v = 0 ∧ l.length = 2 then tyCs l (n - 1) else (false, n - 1))
    else if k = 2 then (decide (v = 0) && decide (l.length = 0), n - 1)
    else (false, n - 1)
def tyCs : List Ty → Int → Bool × Int
  | [], n => (true, n)
  | t :: l, n => if (tyC t n).1 = true then tyCs l (tyC t n).2 else (false, (tyC t n).2)
end

mutual
theorem tyC_bound : ∀ (t : Ty) (n : Int), 0 ≤ n → -1 ≤ (tyC t n).2 ∧ (tyC t n).2 ≤ n ∧ ((tyC t n).1 = true → 0 ≤ (tyC t n).2)
  | .mk k v l, n, h => by
    simp only [tyC]
    split
    · exact ⟨by simp; omega, by simp; omega, by simp⟩
    · split
      · exact ⟨by simp; omega, by simp; omega, fun _ => by simp; omega⟩
      · split
        · split
          · have := tyCs_bound l (n - 1) (by omega)
            exact ⟨this.1, by omega, this.2.2⟩
          · exact ⟨by simp; omega, by simp; omega, by simp⟩
        · split
          · exact ⟨by simp; omega, by simp; omega, fun _ => by simp; omega⟩
          · exact ⟨by simp; omega, by simp; omega, by simp⟩
theorem tyCs_bound : ∀ (l : List Ty) (n : Int), 0 ≤ n → -1 ≤ (tyCs l n).2 ∧ (tyCs l n).2 ≤ n ∧ ((tyCs l n).1 = true → 0 ≤ (tyCs l n).2)
  | [], n, h => by exact ⟨by simp [tyCs]; omega, by simp [tyCs], by simp [tyCs]; omega⟩
  | t :: l, n, h => by
    have h1 := tyC_bound t n h
    simp only [tyCs]
    split
    · rename_i hc
      have h2 := tyCs_bound l (tyC t n).2 (h1.2.2 hc)
      exact ⟨h2.1, by omega, h2.2.2⟩
    · exact ⟨h1.1, h1.2.1, by simp⟩
end

theorem tyC_two (k v n : Int) (a b : Ty) : tyC (.mk k v [a, b]) n = if n - 1 < 0 then (false, n - 1) else if k = 0 then (false, n - 1) else if k = 1 then
    (if v = 0 then (if (tyC a (n - 1)).1 = true then tyC b (tyC a (n - 1)).2 else (false, (tyC a (n - 1)).2)) else (false, n - 1)) else (false, n - 1) := by
  rw [tyC]
  simp only [List.length_cons, List.length_nil]
  split
  · rfl
  · split
    · simp
    · split
      · by_cases hv : v = 0
        · simp only [hv, tyCs]
          simp only [true_and, if_true]
          split
          · rcases h : tyC b (tyC a (n - 1)).2 with ⟨x, y⟩
            cases x <;> rfl
          · rfl
        · simp [hv]
      · split
        · simp
        · rfl

theorem ty_ : ∀ (t : Ty) (n : Int), t.ok → 0 ≤ n → n ≤ 1000 → SoundCall Tryd.prog 34 [.agg [B true], .agg t.enc, .lp 0 0] [.cells [I n] []] (B (tyC t n).1) [.cells [I (tyC t n).2] []]
  | .mk k v [], n, hok, h1, h2 => by
    rcases dsp (n - 1 < 0) with ⟨hb1, hb1'⟩ | ⟨hb1, hb1'⟩
    · skip
      exact Fn.go KT Tryd.func34 [.reg [] [], .reg [] [(3, .int (n - 1))], .reg [] [(3, .bit true)], .reg [] []] [] [] (B false) ([.cells [I (n - 1)] []]) (by kernel_rfl) (qw (n - 1) (q (decide (n - 1 < 0) = true) ob0)) (by (simp [tyC, *])) (by (simp [tyC, *]))
    · skip
      rcases bsp (k) (0) with ⟨hb2, hb2'⟩ | ⟨hb2, hb2'⟩
      · skip
        rcases dsp (1 ≤ v) with ⟨hb3, hb3'⟩ | ⟨hb3, hb3'⟩
        · skip
          rcases dsp (v ≤ 4) with ⟨hb4, hb4'⟩ | ⟨hb4, hb4'⟩
          · skip
            exact Fn.go KT Tryd.func34 [.reg [] [], .reg [] [(3, .int (n - 1))], .reg [] [(3, .bit false)], .reg [] [(2, .bit true)], .reg [] [(2, .bit true), (6, .bit true)]] [] [] (B true) ([.cells [I (n - 1)] []]) (by kernel_rfl) (qw (n - 1) (q (decide (n - 1 < 0) = false) (q ((k == 0) = true) (q (decide (1 ≤ v) = true) (q (decide (v ≤ 4) = true) ob0))))) (by (simp [tyC, *])) (by (simp [tyC, *]))
          · skip
            exact Fn.go KT Tryd.func34 [.reg [] [], .reg [] [(3, .int (n - 1))], .reg [] [(3, .bit false)], .reg [] [(2, .bit true)], .reg [] [(2, .bit true), (6, .bit false)]] [] [] (B false) ([.cells [I (n - 1)] []]) (by kernel_rfl) (qw (n - 1) (q (decide (n - 1 < 0) = false) (q ((k == 0) = true) (q (decide (1 ≤ v) = true) (q (decide (v ≤ 4) = false) ob0))))) (by (simp [tyC, *])) (by (simp [tyC, *]))
        · skip
          exact Fn.go KT Tryd.func34 [.reg [] [], .reg [] [(3, .int (n - 1))], .reg [] [(3, .bit false)], .reg [] [(2, .bit true)], .reg [] [(2, .bit false)]] [] [] (B false) ([.cells [I (n - 1)] []]) (by kernel_rfl) (qw (n - 1) (q (decide (n - 1 < 0) = false) (q ((k == 0) = true) (q (decide (1 ≤ v) = false) ob0)))) (by (simp [tyC, *])) (by (simp [tyC, *]))
      · skip
        rcases bsp (k) (1) with ⟨hb3, hb3'⟩ | ⟨hb3, hb3'⟩
        · skip
          rcases bsp (v) (0) with ⟨hb4, hb4'⟩ | ⟨hb4, hb4'⟩
          · skip
            exact Fn.go KT Tryd.func34 [.reg [] [], .reg [] [(3, .int (n - 1))], .reg [] [(3, .bit false)], .reg [] [(2, .bit false)], .reg [] [(2, .bit true)], .reg [] [(2, .bit true)]] [] [] (B false) ([.cells [I (n - 1)] []]) (by kernel_rfl) (qw (n - 1) (q (decide (n - 1 < 0) = false) (q ((k == 0) = false) (q ((k == 1) = true) (q ((v == 0) = true) ob0))))) (by (simp [tyC, *])) (by (simp [tyC, *]))
          · skip
            exact Fn.go KT Tryd.func34 [.reg [] [], .reg [] [(3, .int (n - 1))], .reg [] [(3, .bit false)], .reg [] [(2, .bit false)], .reg [] [(2, .bit true)], .reg [] [(2, .bit false)]] [] [] (B false) ([.cells [I (n - 1)] []]) (by kernel_rfl) (qw (n - 1) (q (decide (n - 1 < 0) = false) (q ((k == 0) = false) (q ((k == 1) = true) (q ((v == 0) = false) ob0))))) (by (simp [tyC, *])) (by (simp [tyC, *]))
        · skip
          rcases bsp (k) (2) with ⟨hb4, hb4'⟩ | ⟨hb4, hb4'⟩
          · skip
            rcases bsp (v) (0) with ⟨hb5, hb5'⟩ | ⟨hb5, hb5'⟩
            · skip
              exact Fn.go KT Tryd.func34 [.reg [] [], .reg [] [(3, .int (n - 1))], .reg [] [(3, .bit false)], .reg [] [(2, .bit false)], .reg [] [(2, .bit false)], .reg [] [(5, .bit true), (10, .bit true)]] [] [] (B true) ([.cells [I (n - 1)] []]) (by kernel_rfl) (qw (n - 1) (q (decide (n - 1 < 0) = false) (q ((k == 0) = false) (q ((k == 1) = false) (q ((k == 2) = true) (q ((v == 0) = true) ob0)))))) (by (simp [tyC, *])) (by (simp [tyC, *]))
            · skip
              exact Fn.go KT Tryd.func34 [.reg [] [], .reg [] [(3, .int (n - 1))], .reg [] [(3, .bit false)], .reg [] [(2, .bit false)], .reg [] [(2, .bit false)], .reg [] [(5, .bit true), (10, .bit false)]] [] [] (B false) ([.cells [I (n - 1)] []]) (by kernel_rfl) (qw (n - 1) (q (decide (n - 1 < 0) = false) (q ((k == 0) = false) (q ((k == 1) = false) (q ((k == 2) = true) (q ((v == 0) = false) ob0)))))) (by (simp [tyC, *])) (by (simp [tyC, *]))
          · skip
            exact Fn.go KT Tryd.func34 [.reg [] [], .reg [] [(3, .int (n - 1))], .reg [] [(3, .bit false)], .reg [] [(2, .bit false)], .reg [] [(2, .bit false)], .reg [] [(5, .bit false)]] [] [] (B false) ([.cells [I (n - 1)] []]) (by kernel_rfl) (qw (n - 1) (q (decide (n - 1 < 0) = false) (q ((k == 0) = false) (q ((k == 1) = false) (q ((k == 2) = false) ob0))))) (by (simp [tyC, *])) (by (simp [tyC, *]))
  | .mk k v [a], n, hok, h1, h2 => by
    rcases dsp (n - 1 < 0) with ⟨hb1, hb1'⟩ | ⟨hb1, hb1'⟩
    · skip
      exact Fn.go KT Tryd.func34 [.reg [] [], .reg [] [(3, .int (n - 1))], .reg [] [(3, .bit true)], .reg [] []] [] [] (B false) ([.cells [I (n - 1)] []]) (by kernel_rfl) (qw (n - 1) (q (decide (n - 1 < 0) = true) ob0)) (by (simp [tyC, *])) (by (simp [tyC, *]))
    · skip
      rcases bsp (k) (0) with ⟨hb2, hb2'⟩ | ⟨hb2, hb2'⟩
      · skip
        rcases dsp (1 ≤ v) with ⟨hb3, hb3'⟩ | ⟨hb3, hb3'⟩
        · skip
          rcases dsp (v ≤ 4) with ⟨hb4, hb4'⟩ | ⟨hb4, hb4'⟩
          · skip
            exact Fn.go KT Tryd.func34 [.reg [] [], .reg [] [(3, .int (n - 1))], .reg [] [(3, .bit false)], .reg [] [(2, .bit true)], .reg [] [(2, .bit true), (6, .bit true)]] [] [] (B false) ([.cells [I (n - 1)] []]) (by kernel_rfl) (qw (n - 1) (q (decide (n - 1 < 0) = false) (q ((k == 0) = true) (q (decide (1 ≤ v) = true) (q (decide (v ≤ 4) = true) ob0))))) (by (simp [tyC, *])) (by (simp [tyC, *]))
          · skip
            exact Fn.go KT Tryd.func34 [.reg [] [], .reg [] [(3, .int (n - 1))], .reg [] [(3, .bit false)], .reg [] [(2, .bit true)], .reg [] [(2, .bit true), (6, .bit false)]] [] [] (B false) ([.cells [I (n - 1)] []]) (by kernel_rfl) (qw (n - 1) (q (decide (n - 1 < 0) = false) (q ((k == 0) = true) (q (decide (1 ≤ v) = true) (q (decide (v ≤ 4) = false) ob0))))) (by (simp [tyC, *])) (by (simp [tyC, *]))
        · skip
          exact Fn.go KT Tryd.func34 [.reg [] [], .reg [] [(3, .int (n - 1))], .reg [] [(3, .bit false)], .reg [] [(2, .bit true)], .reg [] [(2, .bit false)]] [] [] (B false) ([.cells [I (n - 1)] []]) (by kernel_rfl) (qw (n - 1) (q (decide (n - 1 < 0) = false) (q ((k == 0) = true) (q (decide (1 ≤ v) = false) ob0)))) (by (simp [tyC, *])) (by (simp [tyC, *]))
      · skip
        rcases bsp (k) (1) with ⟨hb3, hb3'⟩ | ⟨hb3, hb3'⟩
        · skip
          rcases bsp (v) (0) with ⟨hb4, hb4'⟩ | ⟨hb4, hb4'⟩
          · skip
            exact Fn.go KT Tryd.func34 [.reg [] [], .reg [] [(3, .int (n - 1))], .reg [] [(3, .bit false)], .reg [] [(2, .bit false)], .reg [] [(2, .bit true)], .reg [] [(2, .bit true)]] [] [] (B false) ([.cells [I (n - 1)] []]) (by kernel_rfl) (qw (n - 1) (q (decide (n - 1 < 0) = false) (q ((k == 0) = false) (q ((k == 1) = true) (q ((v == 0) = true) ob0))))) (by (simp [tyC, *])) (by (simp [tyC, *]))
          · skip
            exact Fn.go KT Tryd.func34 [.reg [] [], .reg [] [(3, .int (n - 1))], .reg [] [(3, .bit false)], .reg [] [(2, .bit false)], .reg [] [(2, .bit true)], .reg [] [(2, .bit false)]] [] [] (B false) ([.cells [I (n - 1)] []]) (by kernel_rfl) (qw (n - 1) (q (decide (n - 1 < 0) = false) (q ((k == 0) = false) (q ((k == 1) = true) (q ((v == 0) = false) ob0))))) (by (simp [tyC, *])) (by (simp [tyC, *]))
        · skip
          rcases bsp (k) (2) with ⟨hb4, hb4'⟩ | ⟨hb4, hb4'⟩
          · skip
            rcases bsp (v) (0) with ⟨hb5, hb5'⟩ | ⟨hb5, hb5'⟩
            · skip
              exact Fn.go KT Tryd.func34 [.reg [] [], .reg [] [(3, .int (n - 1))], .reg [] [(3, .bit false)], .reg [] [(2, .bit false)], .reg [] [(2, .bit false)], .reg [] [(5, .bit true), (10, .bit true)]] [] [] (B false) ([.cells [I (n - 1)] []]) (by kernel_rfl) (qw (n - 1) (q (decide (n - 1 < 0) = false) (q ((k == 0) = false) (q ((k == 1) = false) (q ((k == 2) = true) (q ((v == 0) = true) ob0)))))) (by (simp [tyC, *])) (by (simp [tyC, *]))
            · skip
              exact Fn.go KT Tryd.func34 [.reg [] [], .reg [] [(3, .int (n - 1))], .reg [] [(3, .bit false)], .reg [] [(2, .bit false)], .reg [] [(2, .bit false)], .reg [] [(5, .bit true), (10, .bit false)]] [] [] (B false) ([.cells [I (n - 1)] []]) (by kernel_rfl) (qw (n - 1) (q (decide (n - 1 < 0) = false) (q ((k == 0) = false) (q ((k == 1) = false) (q ((k == 2) = true) (q ((v == 0) = false) ob0)))))) (by (simp [tyC, *])) (by (simp [tyC, *]))
          · skip
            exact Fn.go KT Tryd.func34 [.reg [] [], .reg [] [(3, .int (n - 1))], .reg [] [(3, .bit false)], .reg [] [(2, .bit false)], .reg [] [(2, .bit false)], .reg [] [(5, .bit false)]] [] [] (B false) ([.cells [I (n - 1)] []]) (by kernel_rfl) (qw (n - 1) (q (decide (n - 1 < 0) = false) (q ((k == 0) = false) (q ((k == 1) = false) (q ((k == 2) = false) ob0))))) (by (simp [tyC, *])) (by (simp [tyC, *]))
  | .mk k v [.mk ka va la, .mk kb vb lb], n, hok, h1, h2 => by
    have hoa : (Ty.mk ka va la).ok := hok.2.2.2.1
    have hob : (Ty.mk kb vb lb).ok := hok.2.2.2.2.1
    by_cases h3 : n - 1 < 0
    · exact Fn.go KT Tryd.func34 [.reg [] [], .reg [] [(3, .int (n - 1))], .reg [] [(3, .bit true)], .reg [] []] [] [] (B false) ([.cells [I (n - 1)] []]) (by kernel_rfl) (qw (n - 1) (q (decide (n - 1 < 0) = true) ob0)) (by (rw [tyC_two]; simp [*])) (by (rw [tyC_two]; simp [*]))
    · have ba := tyC_bound (.mk ka va la) (n - 1) (by omega)
      have ha := ty_ (.mk ka va la) (n - 1) hoa (by omega) (by omega)
      by_cases h4 : (tyC (.mk ka va la) (n - 1)).1 = true
      · have hb := ty_ (.mk kb vb lb) (tyC (.mk ka va la) (n - 1)).2 hob (ba.2.2 h4) (by omega)
        rw [h4] at ha
        clear hok hoa hob ba
        rcases bsp (k) (0) with ⟨hb1, hb1'⟩ | ⟨hb1, hb1'⟩
        · skip
          rcases dsp (1 ≤ v) with ⟨hb2, hb2'⟩ | ⟨hb2, hb2'⟩
          · skip
            rcases dsp (v ≤ 4) with ⟨hb3, hb3'⟩ | ⟨hb3, hb3'⟩
            · skip
              exact Fn.go KT Tryd.func34 [.reg [] [], .reg [] [(3, .int (n - 1))], .reg [] [(3, .bit false)], .reg [] [(2, .bit true)], .reg [] [(2, .bit true), (6, .bit true)]] [] [] (B false) ([.cells [I (n - 1)] []]) (by kernel_rfl) (qw (n - 1) (q (decide (n - 1 < 0) = false) (q ((k == 0) = true) (q (decide (1 ≤ v) = true) (q (decide (v ≤ 4) = true) ob0))))) (by (rw [tyC_two]; simp [*])) (by (rw [tyC_two]; simp [*]))
            · skip
              exact Fn.go KT Tryd.func34 [.reg [] [], .reg [] [(3, .int (n - 1))], .reg [] [(3, .bit false)], .reg [] [(2, .bit true)], .reg [] [(2, .bit true), (6, .bit false)]] [] [] (B false) ([.cells [I (n - 1)] []]) (by kernel_rfl) (qw (n - 1) (q (decide (n - 1 < 0) = false) (q ((k == 0) = true) (q (decide (1 ≤ v) = true) (q (decide (v ≤ 4) = false) ob0))))) (by (rw [tyC_two]; simp [*])) (by (rw [tyC_two]; simp [*]))
          · skip
            exact Fn.go KT Tryd.func34 [.reg [] [], .reg [] [(3, .int (n - 1))], .reg [] [(3, .bit false)], .reg [] [(2, .bit true)], .reg [] [(2, .bit false)]] [] [] (B false) ([.cells [I (n - 1)] []]) (by kernel_rfl) (qw (n - 1) (q (decide (n - 1 < 0) = false) (q ((k == 0) = true) (q (decide (1 ≤ v) = false) ob0)))) (by (rw [tyC_two]; simp [*])) (by (rw [tyC_two]; simp [*]))
        · skip
          rcases bsp (k) (1) with ⟨hb2, hb2'⟩ | ⟨hb2, hb2'⟩
          · skip
            rcases bsp (v) (0) with ⟨hb3, hb3'⟩ | ⟨hb3, hb3'⟩
            · skip
              rcases Bool.eq_false_or_eq_true (Prod.fst (tyC (Ty.mk kb vb lb) (Prod.snd (tyC (Ty.mk ka va la) (n - 1))))) with hb4 | hb4
              · have hb4' := hb4
                try simp only [decide_eq_true_eq, decide_eq_false_iff_not, beq_iff_eq, bne_iff_ne, ne_eq, beq_eq_false_iff_ne, bne_eq_false_iff_eq, Bool.not_eq_true'] at hb4'
                exact Fn.go KT Tryd.func34 [.reg [] [], .reg [] [(3, .int (n - 1))], .reg [] [(3, .bit false)], .reg [] [(2, .bit false)], .reg [] [(2, .bit true)], .reg [] [(2, .bit true), (13, .row 0 [I ka, I va, AV.sl 3 (Ty.encs la) false]), (16, .call (B true) [.cells [I (Prod.snd (tyC (Ty.mk ka va la) (n - 1)))] []]), (22, .row 1 [I kb, I vb, AV.sl 3 (Ty.encs lb) false]), (25, .call (B true) [.cells [I (Prod.snd (tyC (Ty.mk kb vb lb) (Prod.snd (tyC (Ty.mk ka va la) (n - 1)))))] []])]] [] [] (B true) ([.cells [I (Prod.snd (tyC (Ty.mk kb vb lb) (Prod.snd (tyC (Ty.mk ka va la) (n - 1)))))] []]) (by kernel_rfl) (qw (n - 1) (q (decide (n - 1 < 0) = false) (q ((k == 0) = false) (q ((k == 1) = true) (q ((v == 0) = true) (q ((0 : Int) = (↑(0 : Nat) : Int)) (q ([[I ka, I va, AV.sl 3 (Ty.encs la) false], [I kb, I vb, AV.sl 3 (Ty.encs lb) false]][0]? = some [I ka, I va, AV.sl 3 (Ty.encs la) false]) (ob1 (ha) (q ((1 : Int) = (↑(1 : Nat) : Int)) (q ([[I ka, I va, AV.sl 3 (Ty.encs la) false], [I kb, I vb, AV.sl 3 (Ty.encs lb) false]][1]? = some [I kb, I vb, AV.sl 3 (Ty.encs lb) false]) (ob1 (SoundCall.to (hb) (pf (B (Prod.fst (tyC (Ty.mk kb vb lb) (Prod.snd (tyC (Ty.mk ka va la) (n - 1))))) = B true)) rfl) ob0))))))))))) (by (rw [tyC_two]; simp [*])) (by (rw [tyC_two]; simp [*]))
              · have hb4' := hb4
                try simp only [decide_eq_true_eq, decide_eq_false_iff_not, beq_iff_eq, bne_iff_ne, ne_eq, beq_eq_false_iff_ne, bne_eq_false_iff_eq, Bool.not_eq_true'] at hb4'
                exact Fn.go KT Tryd.func34 [.reg [] [], .reg [] [(3, .int (n - 1))], .reg [] [(3, .bit false)], .reg [] [(2, .bit false)], .reg [] [(2, .bit true)], .reg [] [(2, .bit true), (13, .row 0 [I ka, I va, AV.sl 3 (Ty.encs la) false]), (16, .call (B true) [.cells [I (Prod.snd (tyC (Ty.mk ka va la) (n - 1)))] []]), (22, .row 1 [I kb, I vb, AV.sl 3 (Ty.encs lb) false]), (25, .call (B false) [.cells [I (Prod.snd (tyC (Ty.mk kb vb lb) (Prod.snd (tyC (Ty.mk ka va la) (n - 1)))))] []])]] [] [] (B false) ([.cells [I (Prod.snd (tyC (Ty.mk kb vb lb) (Prod.snd (tyC (Ty.mk ka va la) (n - 1)))))] []]) (by kernel_rfl) (qw (n - 1) (q (decide (n - 1 < 0) = false) (q ((k == 0) = false) (q ((k == 1) = true) (q ((v == 0) = true) (q ((0 : Int) = (↑(0 : Nat) : Int)) (q ([[I ka, I va, AV.sl 3 (Ty.encs la) false], [I kb, I vb, AV.sl 3 (Ty.encs lb) false]][0]? = some [I ka, I va, AV.sl 3 (Ty.encs la) false]) (ob1 (ha) (q ((1 : Int) = (↑(1 : Nat) : Int)) (q ([[I ka, I va, AV.sl 3 (Ty.encs la) false], [I kb, I vb, AV.sl 3 (Ty.encs lb) false]][1]? = some [I kb, I vb, AV.sl 3 (Ty.encs lb) false]) (ob1 (SoundCall.to (hb) (pf (B (Prod.fst (tyC (Ty.mk kb vb lb) (Prod.snd (tyC (Ty.mk ka va la) (n - 1))))) = B false)) rfl) ob0))))))))))) (by (rw [tyC_two]; simp [*])) (by (rw [tyC_two]; simp [*]))
            · skip
              exact Fn.go KT Tryd.func34 [.reg [] [], .reg [] [(3, .int (n - 1))], .reg [] [(3, .bit false)], .reg [] [(2, .bit false)], .reg [] [(2, .bit true)], .reg [] [(2, .bit false)]] [] [] (B false) ([.cells [I (n - 1)] []]) (by kernel_rfl) (qw (n - 1) (q (decide (n - 1 < 0) = false) (q ((k == 0) = false) (q ((k == 1) = true) (q ((v == 0) = false) ob0))))) (by (rw [tyC_two]; simp [*])) (by (rw [tyC_two]; simp [*]))
          · skip
            rcases bsp (k) (2) with ⟨hb3, hb3'⟩ | ⟨hb3, hb3'⟩
            · skip
              rcases bsp (v) (0) with ⟨hb4, hb4'⟩ | ⟨hb4, hb4'⟩
              · skip
                exact Fn.go KT Tryd.func34 [.reg [] [], .reg [] [(3, .int (n - 1))], .reg [] [(3, .bit false)], .reg [] [(2, .bit false)], .reg [] [(2, .bit false)], .reg [] [(5, .bit true), (10, .bit true)]] [] [] (B false) ([.cells [I (n - 1)] []]) (by kernel_rfl) (qw (n - 1) (q (decide (n - 1 < 0) = false) (q ((k == 0) = false) (q ((k == 1) = false) (q ((k == 2) = true) (q ((v == 0) = true) ob0)))))) (by (rw [tyC_two]; simp [*])) (by (rw [tyC_two]; simp [*]))
              · skip
                exact Fn.go KT Tryd.func34 [.reg [] [], .reg [] [(3, .int (n - 1))], .reg [] [(3, .bit false)], .reg [] [(2, .bit false)], .reg [] [(2, .bit false)], .reg [] [(5, .bit true), (10, .bit false)]] [] [] (B false) ([.cells [I (n - 1)] []]) (by kernel_rfl) (qw (n - 1) (q (decide (n - 1 < 0) = false) (q ((k == 0) = false) (q ((k == 1) = false) (q ((k == 2) = true) (q ((v == 0) = false) ob0)))))) (by (rw [tyC_two]; simp [*])) (by (rw [tyC_two]; simp [*]))
            · skip
              exact Fn.go KT Tryd.func34 [.reg [] [], .reg [] [(3, .int (n - 1))], .reg [] [(3, .bit false)], .reg [] [(2, .bit false)], .reg [] [(2, .bit false)], .reg [] [(5, .bit false)]] [] [] (B false) ([.cells [I (n - 1)] []]) (by kernel_rfl) (qw (n - 1) (q (decide (n - 1 < 0) = false) (q ((k == 0) = false) (q ((k == 1) = false) (q ((k == 2) = false) ob0))))) (by (rw [tyC_two]; simp [*])) (by (rw [tyC_two]; simp [*]))
      · rw [Bool.not_eq_true] at h4
        rw [h4] at ha
        clear hok hoa hob ba
        rcases bsp (k) (0) with ⟨hb1, hb1'⟩ | ⟨hb1, hb1'⟩
        · skip
          rcases dsp (1 ≤ v) with ⟨hb2, hb2'⟩ | ⟨hb2, hb2'⟩
          · skip
            rcases dsp (v ≤ 4) with ⟨hb3, hb3'⟩ | ⟨hb3, hb3'⟩
            · skip
              exact Fn.go KT Tryd.func34 [.reg [] [], .reg [] [(3, .int (n - 1))], .reg [] [(3, .bit false)], .reg [] [(2, .bit true)], .reg [] [(2, .bit true), (6, .bit true)]] [] [] (B false) ([.cells [I (n - 1)] []]) (by kernel_rfl) (qw (n - 1) (q (decide (n - 1 < 0) = false) (q ((k == 0) = true) (q (decide (1 ≤ v) = true) (q (decide (v ≤ 4) = true) ob0))))) (by (rw [tyC_two]; simp [*])) (by (rw [tyC_two]; simp [*]))
            · skip
              exact Fn.go KT Tryd.func34 [.reg [] [], .reg [] [(3, .int (n - 1))], .reg [] [(3, .bit false)], .reg [] [(2, .bit true)], .reg [] [(2, .bit true), (6, .bit false)]] [] [] (B false) ([.cells [I (n - 1)] []]) (by kernel_rfl) (qw (n - 1) (q (decide (n - 1 < 0) = false) (q ((k == 0) = true) (q (decide (1 ≤ v) = true) (q (decide (v ≤ 4) = false) ob0))))) (by (rw [tyC_two]; simp [*])) (by (rw [tyC_two]; simp [*]))
          · skip
            exact Fn.go KT Tryd.func34 [.reg [] [], .reg [] [(3, .int (n - 1))], .reg [] [(3, .bit false)], .reg [] [(2, .bit true)], .reg [] [(2, .bit false)]] [] [] (B false) ([.cells [I (n - 1)] []]) (by kernel_rfl) (qw (n - 1) (q (decide (n - 1 < 0) = false) (q ((k == 0) = true) (q (decide (1 ≤ v) = false) ob0)))) (by (rw [tyC_two]; simp [*])) (by (rw [tyC_two]; simp [*]))
        · skip
          rcases bsp (k) (1) with ⟨hb2, hb2'⟩ | ⟨hb2, hb2'⟩
          · skip
            rcases bsp (v) (0) with ⟨hb3, hb3'⟩ | ⟨hb3, hb3'⟩
            · skip
              exact Fn.go KT Tryd.func34 [.reg [] [], .reg [] [(3, .int (n - 1))], .reg [] [(3, .bit false)], .reg [] [(2, .bit false)], .reg [] [(2, .bit true)], .reg [] [(2, .bit true), (13, .row 0 [I ka, I va, AV.sl 3 (Ty.encs la) false]), (16, .call (B false) [.cells [I (Prod.snd (tyC (Ty.mk ka va la) (n - 1)))] []])]] [] [] (B false) ([.cells [I (Prod.snd (tyC (Ty.mk ka va la) (n - 1)))] []]) (by kernel_rfl) (qw (n - 1) (q (decide (n - 1 < 0) = false) (q ((k == 0) = false) (q ((k == 1) = true) (q ((v == 0) = true) (q ((0 : Int) = (↑(0 : Nat) : Int)) (q ([[I ka, I va, AV.sl 3 (Ty.encs la) false], [I kb, I vb, AV.sl 3 (Ty.encs lb) false]][0]? = some [I ka, I va, AV.sl 3 (Ty.encs la) false]) (ob1 (ha) ob0)))))))) (by (rw [tyC_two]; simp [*])) (by (rw [tyC_two]; simp [*]))
            · skip
              exact Fn.go KT Tryd.func34 [.reg [] [], .reg [] [(3, .int (n - 1))], .reg [] [(3, .bit false)], .reg [] [(2, .bit false)], .reg [] [(2, .bit true)], .reg [] [(2, .bit false)]] [] [] (B false) ([.cells [I (n - 1)] []]) (by kernel_rfl) (qw (n - 1) (q (decide (n - 1 < 0) = false) (q ((k == 0) = false) (q ((k == 1) = true) (q ((v == 0) = false) ob0))))) (by (rw [tyC_two]; simp [*])) (by (rw [tyC_two]; simp [*]))
          · skip
            rcases bsp (k) (2) with ⟨hb3, hb3'⟩ | ⟨hb3, hb3'⟩
            · skip
              rcases bsp (v) (0) with ⟨hb4, hb4'⟩ | ⟨hb4, hb4'⟩
              · skip
                exact Fn.go KT Tryd.func34 [.reg [] [], .reg [] [(3, .int (n - 1))], .reg [] [(3, .bit false)], .reg [] [(2, .bit false)], .reg [] [(2, .bit false)], .reg [] [(5, .bit true), (10, .bit true)]] [] [] (B false) ([.cells [I (n - 1)] []]) (by kernel_rfl) (qw (n - 1) (q (decide (n - 1 < 0) = false) (q ((k == 0) = false) (q ((k == 1) = false) (q ((k == 2) = true) (q ((v == 0) = true) ob0)))))) (by (rw [tyC_two]; simp [*])) (by (rw [tyC_two]; simp [*]))
              · skip
                exact Fn.go KT Tryd.func34 [.reg [] [], .reg [] [(3, .int (n - 1))], .reg [] [(3, .bit false)], .reg [] [(2, .bit false)], .reg [] [(2, .bit false)], .reg [] [(5, .bit true), (10, .bit false)]] [] [] (B false) ([.cells [I (n - 1)] []]) (by kernel_rfl) (qw (n - 1) (q (decide (n - 1 < 0) = false) (q ((k == 0) = false) (q ((k == 1) = false) (q ((k == 2) = true) (q ((v == 0) = false) ob0)))))) (by (rw [tyC_two]; simp [*])) (by (rw [tyC_two]; simp [*]))
            · skip
              exact Fn.go KT Tryd.func34 [.reg [] [], .reg [] [(3, .int (n - 1))], .reg [] [(3, .bit false)], .reg [] [(2, .bit false)], .reg [] [(2, .bit false)], .reg [] [(5, .bit false)]] [] [] (B false) ([.cells [I (n - 1)] []]) (by kernel_rfl) (qw (n - 1) (q (decide (n - 1 < 0) = false) (q ((k == 0) = false) (q ((k == 1) = false) (q ((k == 2) = false) ob0))))) (by (rw [tyC_two]; simp [*])) (by (rw [tyC_two]; simp [*]))
  | .mk k v (a :: b :: c :: l), n, hok, h1, h2 => by
    have hl : l.length ≤ 281474976710656 := by have := hok.2.2.1; simp at this; omega
    clear hok
    rcases dsp (n - 1 < 0) with ⟨hb1, hb1'⟩ | ⟨hb1, hb1'⟩
    · skip
      exact Fn.go KT Tryd.func34 [.reg [] [], .reg [] [(3, .int (n - 1))], .reg [] [(3, .bit true)], .reg [] []] [] [] (B false) ([.cells [I (n - 1)] []]) (by kernel_rfl) (qw (n - 1) (q (decide (n - 1 < 0) = true) ob0)) (by (simp [tyC, *])) (by (simp [tyC, *]))
    · skip
      rcases bsp (k) (0) with ⟨hb2, hb2'⟩ | ⟨hb2, hb2'⟩
      · skip
        rcases dsp (1 ≤ v) with ⟨hb3, hb3'⟩ | ⟨hb3, hb3'⟩
        · skip
          rcases dsp (v ≤ 4) with ⟨hb4, hb4'⟩ | ⟨hb4, hb4'⟩
          · skip
            exact Fn.go KT Tryd.func34 [.reg [] [], .reg [] [(3, .int (n - 1))], .reg [] [(3, .bit false)], .reg [] [(2, .bit true)], .reg [] [(2, .bit true), (6, .bit true), (11, .int ((↑(List.length l) : Int) + 1 + 1 + 1))]] [] [] (B false) ([.cells [I (n - 1)] []]) (by kernel_rfl) (qw (n - 1) (q (decide (n - 1 < 0) = false) (q ((k == 0) = true) (q (decide (1 ≤ v) = true) (q (decide (v ≤ 4) = true) (q ((↑(List.length (Ty.enc a :: Ty.enc b :: Ty.enc c :: Ty.encs l)) : Int) = (↑(List.length l) : Int) + 1 + 1 + 1) ob0)))))) (by (simp [tyC, *])) (by (simp [tyC, *]))
          · skip
            exact Fn.go KT Tryd.func34 [.reg [] [], .reg [] [(3, .int (n - 1))], .reg [] [(3, .bit false)], .reg [] [(2, .bit true)], .reg [] [(2, .bit true), (6, .bit false)]] [] [] (B false) ([.cells [I (n - 1)] []]) (by kernel_rfl) (qw (n - 1) (q (decide (n - 1 < 0) = false) (q ((k == 0) = true) (q (decide (1 ≤ v) = true) (q (decide (v ≤ 4) = false) ob0))))) (by (simp [tyC, *])) (by (simp [tyC, *]))
        · skip
          exact Fn.go KT Tryd.func34 [.reg [] [], .reg [] [(3, .int (n - 1))], .reg [] [(3, .bit false)], .reg [] [(2, .bit true)], .reg [] [(2, .bit false)]] [] [] (B false) ([.cells [I (n - 1)] []]) (by kernel_rfl) (qw (n - 1) (q (decide (n - 1 < 0) = false) (q ((k == 0) = true) (q (decide (1 ≤ v) = false) ob0)))) (by (simp [tyC, *])) (by (simp [tyC, *]))
      · skip
        rcases bsp (k) (1) with ⟨hb3, hb3'⟩ | ⟨hb3, hb3'⟩
        · skip
          rcases bsp (v) (0) with ⟨hb4, hb4'⟩ | ⟨hb4, hb4'⟩
          · skip
            exact Fn.go KT Tryd.func34 [.reg [] [], .reg [] [(3, .int (n - 1))], .reg [] [(3, .bit false)], .reg [] [(2, .bit false)], .reg [] [(2, .bit true)], .reg [] [(2, .bit true), (6, .int ((↑(List.length l) : Int) + 1 + 1 + 1))]] [] [] (B false) ([.cells [I (n - 1)] []]) (by kernel_rfl) (qw (n - 1) (q (decide (n - 1 < 0) = false) (q ((k == 0) = false) (q ((k == 1) = true) (q ((v == 0) = true) (q ((↑(List.length (Ty.enc a :: Ty.enc b :: Ty.enc c :: Ty.encs l)) : Int) = (↑(List.length l) : Int) + 1 + 1 + 1) ob0)))))) (by (simp [tyC, *])) (by (simp [tyC, *]))
          · skip
            exact Fn.go KT Tryd.func34 [.reg [] [], .reg [] [(3, .int (n - 1))], .reg [] [(3, .bit false)], .reg [] [(2, .bit false)], .reg [] [(2, .bit true)], .reg [] [(2, .bit false)]] [] [] (B false) ([.cells [I (n - 1)] []]) (by kernel_rfl) (qw (n - 1) (q (decide (n - 1 < 0) = false) (q ((k == 0) = false) (q ((k == 1) = true) (q ((v == 0) = false) ob0))))) (by (simp [tyC, *])) (by (simp [tyC, *]))
        · skip
          rcases bsp (k) (2) with ⟨hb4, hb4'⟩ | ⟨hb4, hb4'⟩
          · skip
            rcases bsp (v) (0) with ⟨hb5, hb5'⟩ | ⟨hb5, hb5'⟩
            · skip
              exact Fn.go KT Tryd.func34 [.reg [] [], .reg [] [(3, .int (n - 1))], .reg [] [(3, .bit false)], .reg [] [(2, .bit false)], .reg [] [(2, .bit false)], .reg [] [(5, .bit true), (10, .bit true), (15, .int ((↑(List.length l) : Int) + 1 + 1 + 1))]] [] [] (B false) ([.cells [I (n - 1)] []]) (by kernel_rfl) (qw (n - 1) (q (decide (n - 1 < 0) = false) (q ((k == 0) = false) (q ((k == 1) = false) (q ((k == 2) = true) (q ((v == 0) = true) (q ((↑(List.length (Ty.enc a :: Ty.enc b :: Ty.enc c :: Ty.encs l)) : Int) = (↑(List.length l) : Int) + 1 + 1 + 1) ob0))))))) (by (simp [tyC, *])) (by (simp [tyC, *]))
            · skip
              exact Fn.go KT Tryd.func34 [.reg [] [], .reg [] [(3, .int (n - 1))], .reg [] [(3, .bit false)], .reg [] [(2, .bit false)], .reg [] [(2, .bit false)], .reg [] [(5, .bit true), (10, .bit false)]] [] [] (B false) ([.cells [I (n - 1)] []]) (by kernel_rfl) (qw (n - 1) (q (decide (n - 1 < 0) = false) (q ((k == 0) = false) (q ((k == 1) = false) (q ((k == 2) = true) (q ((v == 0) = false) ob0)))))) (by (simp [tyC, *])) (by (simp [tyC, *]))
          · skip
            exact Fn.go KT Tryd.func34 [.reg [] [], .reg [] [(3, .int (n - 1))], .reg [] [(3, .bit false)], .reg [] [(2, .bit false)], .reg [] [(2, .bit false)], .reg [] [(5, .bit false)]] [] [] (B false) ([.cells [I (n - 1)] []]) (by kernel_rfl) (qw (n - 1) (q (decide (n - 1 < 0) = false) (q ((k == 0) = false) (q ((k == 1) = false) (q ((k == 2) = false) ob0))))) (by (simp [tyC, *])) (by (simp [tyC, *]))
termination_by t => SizeOf.sizeOf t

end Go.Ae

/- source: types, sizes, names. -/
namespace Go.Ae
open Go.Proofs

theorem isTy_ (t : Ty) (hok : t.ok) : SoundCall Tryd.prog 21 [.agg [B true], .agg t.enc] [] (B (tyC t 20).1) [] := by
  have h := ty_ t 20 hok (by omega) (by omega)
  obtain ⟨k, v, l⟩ := t
  clear hok
  by_cases hb : (tyC (.mk k v l) 20).1 = true
  · rw [hb] at h ⊢
    exact Fn.go KT Tryd.func21 [.reg [] [], .reg [] [], .reg [] [(2, .call (B true) [.cells [I (Prod.snd (tyC (Ty.mk k v l) 20))] []])]] [] [] (B true) ([]) (by kernel_rfl) (ob1 (h) ob0)
  · rw [Bool.not_eq_true] at hb
    rw [hb] at h ⊢
    exact Fn.go KT Tryd.func21 [.reg [] [], .reg [] [], .reg [] [(2, .call (B false) [.cells [I (Prod.snd (tyC (Ty.mk k v l) 20))] []])]] [] [] (B false) ([]) (by kernel_rfl) (ob1 (h) ob0)

theorem fin_0 (k : Int) : SoundCall Tryd.prog 35 [I k] [] (.agg [I 0, I k, .sl 3 [] false]) [] := by
  exact Fn.go KT Tryd.func35 [.reg [] [], .reg [] []] [.tidO 0 [none, none, some 3]] [none, none, some 3] (AV.agg [I 0, I k, AV.sl 3 [] false]) ([]) (by kernel_rfl) ob0

end Go.Ae

/- source.size. -/
namespace Go.Ae
open Go.Proofs

mutual
def szC : Expr → Int → Int → Bool × Int
  | .mk _ _ _ _ l, d, n => if n - 1 < 0 then (false, n - 1) else if d = 0 then (false, n - 1) else szCs l (d - 1) (n - 1)
def szCs : List Expr → Int → Int → Bool × Int
  | [], _, n => (true, n)
  | e :: l, d, n => if (szC e d n).1 = true then szCs l d (szC e d n).2 else (false, (szC e d n).2)
end

mutual
theorem szC_bound : ∀ (e : Expr) (d n : Int), 0 ≤ n → -1 ≤ (szC e d n).2 ∧ (szC e d n).2 ≤ n ∧ ((szC e d n).1 = true → 0 ≤ (szC e d n).2)
  | .mk _ _ _ _ l, d, n, h => by
    simp only [szC]
    split
    · exact ⟨by simp; omega, by simp; omega, by simp⟩
    · split
      · exact ⟨by simp; omega, by simp; omega, by simp⟩
      · have := szCs_bound l (d - 1) (n - 1) (by omega)
        exact ⟨this.1, by omega, this.2.2⟩
theorem szCs_bound : ∀ (l : List Expr) (d n : Int), 0 ≤ n → -1 ≤ (szCs l d n).2 ∧ (szCs l d n).2 ≤ n ∧ ((szCs l d n).1 = true → 0 ≤ (szCs l d n).2)
  | [], d, n, h => by exact ⟨by simp [szCs]; omega, by simp [szCs], by simp [szCs]; omega⟩
  | t :: l, d, n, h => by
    have h1 := szC_bound t d n h
    simp only [szCs]
    split
    · rename_i hc
      have h2 := szCs_bound l d (szC t d n).2 (h1.2.2 hc)
      exact ⟨h2.1, by omega, h2.2.2⟩
    · exact ⟨h1.1, h1.2.1, by simp⟩
end

theorem szCs_cons (e : Expr) (l : List Expr) (d n : Int) : szCs (e :: l) d n = if (szC e d n).1 = true then szCs l d (szC e d n).2 else (false, (szC e d n).2) := by rw [szCs]

theorem size_loop (us : List Expr) (d : Int) (hn : us.length ≤ 281474976710656) (h1 : 1 ≤ d) (h2 : d ≤ 1000) : ∀ (us' : List Expr) (i : Nat) (n : Int), us.drop i = us' → 0 ≤ n → n ≤ 100000 →
    (∀ x ∈ us', ∀ n, 0 ≤ n → n ≤ 100000 → SoundCall Tryd.prog 19 [.agg x.enc, I (d - 1), .lp 0 0] [.cells [I n] []] (B (szC x (d - 1) n).1) [.cells [I (szC x (d - 1) n).2] []]) →
    Lp Tryd.prog 36 1 (loopN Tryd.f19 0) ⟨lookT [(1, I d), (2, .lp 0 0), (23, .sl 7 (Expr.encs us) false), (24, I (us.length : Int)), (25, I (i : Int))], [.cells [I n] []]⟩
      (if (szCs us' (d - 1) n).1 = true then .exit 0 else .ret) (if (szCs us' (d - 1) n).1 = true then ⟨lookT [], [.cells [I (szCs us' (d - 1) n).2] []]⟩ else ⟨lookT [(6, B false)], [.cells [I (szCs us' (d - 1) n).2] []]⟩)
  | [], i, n, hd, hn0, hn1, _ => by
    have hi := drop_end hd
    simp only [szCs, if_true]
    exact Lp.last KT [.reg [] [(0, .bit false)]] [.keep []] (by kernel_rfl) (q (decide ((↑i : Int) < (↑(List.length us) : Int)) = false) ob0) (by intro h; cases h)
  | .mk k1 m1 v1 (.mk tk tv tl) xs :: us', i, n, hd, hn0, hn1, hs => by
    have hi := drop_lt hd
    have hx : (Expr.encs us)[i]? = some (Expr.mk k1 m1 v1 (.mk tk tv tl) xs).enc := by rw [Expr.encs_get, drop_get hd]; rfl
    have hc := hs (.mk k1 m1 v1 (.mk tk tv tl) xs) (by simp) n hn0 hn1
    have hb := szC_bound (.mk k1 m1 v1 (.mk tk tv tl) xs) (d - 1) n hn0
    have hd' := drop_next hd
    rw [szCs_cons]
    by_cases he : (szC (.mk k1 m1 v1 (.mk tk tv tl) xs) (d - 1) n).1 = true
    · have ih := size_loop us d hn h1 h2 us' (i + 1) _ hd' (hb.2.2 he) (by omega) (fun x hx => hs x (by simp [hx]))
      rw [if_pos he]
      rw [he] at hc
      simp only [Int.natCast_add] at ih
      clear hs hb hd hd'
      exact Lp.next KT [.reg [] [(0, .bit true)], .reg [] [(0, .row i (Expr.enc (Expr.mk k1 m1 v1 (Ty.mk tk tv tl) xs)))], .reg [] [(2, .int (d - 1)), (4, .call (B true) [.cells [I (Prod.snd (szC (Expr.mk k1 m1 v1 (Ty.mk tk tv tl) xs) (d - 1) n))] []])], .reg [] [(0, .int ((↑i : Int) + 1))]] [.keep [(1, []), (2, []), (23, []), (24, []), (25, [])]] (by kernel_rfl) (q (decide ((↑i : Int) < (↑(List.length us) : Int)) = true) (q ((↑i : Int) = (↑i : Int)) (q ((Expr.encs us)[i]? = some (Expr.enc (Expr.mk k1 m1 v1 (Ty.mk tk tv tl) xs))) (qw (d - 1) (ob1 (hc) (qw ((↑i : Int) + 1) ob0)))))) (ih)
    · rw [if_neg he]
      rw [Bool.not_eq_true] at he
      rw [he] at hc
      simp only [Bool.false_eq_true, if_false]
      clear hs hb hd hd'
      exact Lp.last KT [.reg [] [(0, .bit true)], .reg [] [(0, .row i (Expr.enc (Expr.mk k1 m1 v1 (Ty.mk tk tv tl) xs)))], .reg [] [(2, .int (d - 1)), (4, .call (B false) [.cells [I (Prod.snd (szC (Expr.mk k1 m1 v1 (Ty.mk tk tv tl) xs) (d - 1) n))] []])], .reg [] []] [.keep [(6, [])]] (by kernel_rfl) (q (decide ((↑i : Int) < (↑(List.length us) : Int)) = true) (q ((↑i : Int) = (↑i : Int)) (q ((Expr.encs us)[i]? = some (Expr.enc (Expr.mk k1 m1 v1 (Ty.mk tk tv tl) xs))) (qw (d - 1) (ob1 (hc) ob0))))) (by intro h; cases h)

theorem size_ : ∀ (e : Expr) (d n : Int), e.ok → 0 ≤ d → d ≤ 1000 → 0 ≤ n → n ≤ 100000 → SoundCall Tryd.prog 19 [.agg e.enc, I d, .lp 0 0] [.cells [I n] []] (B (szC e d n).1) [.cells [I (szC e d n).2] []]
  | .mk k m v (.mk tk tv tl) l, d, n, hok, h1, h2, h3, h4 => by
    have hl : l.length ≤ 281474976710656 := hok.2.2.2.2.1
    have hr : ∀ x ∈ l, ∀ d n, 0 ≤ d → d ≤ 1000 → 0 ≤ n → n ≤ 100000 → SoundCall Tryd.prog 19 [.agg x.enc, I d, .lp 0 0] [.cells [I n] []] (B (szC x d n).1) [.cells [I (szC x d n).2] []] := fun x hx d n => size_ x d n (Expr.oks_mem hok.2.2.2.2.2 x hx)
    clear hok
    rw [szC]
    by_cases h5 : n - 1 < 0
    · rw [if_pos h5]
      exact Fn.go KT Tryd.func19 [.reg [] [], .reg [] [(3, .int (n - 1))], .reg [] [(3, .bit true)], .reg [] []] [] [] (B false) ([.cells [I (n - 1)] []]) (by kernel_rfl) (qw (n - 1) (q (decide (n - 1 < 0) = true) ob0))
    · rw [if_neg h5]
      by_cases h6 : d = 0
      · rw [if_pos h6]
        exact Fn.go KT Tryd.func19 [.reg [] [], .reg [] [(3, .int (n - 1))], .reg [] [(3, .bit false), (6, .bit true)], .reg [] []] [] [] (B false) ([.cells [I (n - 1)] []]) (by kernel_rfl) (qw (n - 1) (q (decide (n - 1 < 0) = false) (q ((d == 0) = true) ob0)))
      · rw [if_neg h6]
        have lp := size_loop l d hl (by omega) h2 l 0 (n - 1) rfl (by omega) (by omega) (fun x hx n h => hr x hx (d - 1) n (by omega) (by omega) h)
        clear hr
        by_cases he : (szCs l (d - 1) (n - 1)).1 = true
        · simp only [if_pos he] at lp
          exact Fn.go KT Tryd.func19 [.reg [] [], .reg [] [(3, .int (n - 1))], .reg [] [(3, .bit false), (6, .bit false)], .reg [] [(2, .int (↑(List.length l) : Int))], .loop [.keep [(1, []), (2, []), (23, []), (24, []), (25, [])]] (Exit.exit 0) { tm := lookT [], st := [.cells [I (Prod.snd (szCs l (d - 1) (n - 1)))] []] }, .reg [] []] [] [] (B true) ([.cells [I (Prod.snd (szCs l (d - 1) (n - 1)))] []]) (by kernel_rfl) (qw (n - 1) (q (decide (n - 1 < 0) = false) (q ((d == 0) = false) (q ((↑(List.length (Expr.encs l)) : Int) = (↑(List.length l) : Int)) (ob1 (lp) ob0)))))
        · simp only [if_neg he] at lp
          exact Fn.go KT Tryd.func19 [.reg [] [], .reg [] [(3, .int (n - 1))], .reg [] [(3, .bit false), (6, .bit false)], .reg [] [(2, .int (↑(List.length l) : Int))], .loop [.keep [(1, []), (2, []), (23, []), (24, []), (25, [])]] Exit.ret { tm := lookT [(6, B false)], st := [.cells [I (Prod.snd (szCs l (d - 1) (n - 1)))] []] }] [] [] (B false) ([.cells [I (Prod.snd (szCs l (d - 1) (n - 1)))] []]) (by kernel_rfl) (qw (n - 1) (q (decide (n - 1 < 0) = false) (q ((d == 0) = false) (q ((↑(List.length (Expr.encs l)) : Int) = (↑(List.length l) : Int)) (ob1 (lp) ob0)))))

end Go.Ae

/- Names. -/
namespace Go.Ae
open Go.Proofs

abbrev U8 (n : Int) : AV := .sc (.int .u8 n)

def letC (n : Int) : Bool := (decide (97 ≤ n) && decide (n ≤ 122)) || (decide (48 ≤ n) && decide (n ≤ 57)) || decide (n = 95)

theorem letter_ (n : Int) : SoundCall Tryd.prog 33 [U8 n] [] (B (letC n)) [] := by
  rcases dsp (97 ≤ n) with ⟨hb1, hb1'⟩ | ⟨hb1, hb1'⟩
  · skip
    rcases dsp (n ≤ 122) with ⟨hb2, hb2'⟩ | ⟨hb2, hb2'⟩
    · skip
      exact Fn.go KT Tryd.func33 [.reg [] [], .reg [] [(1, .bit true), (4, .bit true)]] [] [] (B true) ([]) (by kernel_rfl) (q (decide (97 ≤ n) = true) (q (decide (n ≤ 122) = true) ob0)) (by (congr 1; simp [letC]; omega)) (by first | rfl | (simp [*]; done))
    · skip
      exact Fn.go KT Tryd.func33 [.reg [] [], .reg [] [(1, .bit true), (4, .bit false), (8, .bit true), (11, .bit false), (16, .bit false)]] [] [] (B false) ([]) (by kernel_rfl) (q (decide (97 ≤ n) = true) (q (decide (n ≤ 122) = false) (q (decide (48 ≤ n) = true) (q (decide (n ≤ 57) = false) (q ((n == 95) = false) ob0))))) (by (congr 1; simp [letC]; omega)) (by first | rfl | (simp [*]; done))
  · skip
    rcases dsp (48 ≤ n) with ⟨hb2, hb2'⟩ | ⟨hb2, hb2'⟩
    · skip
      rcases dsp (n ≤ 57) with ⟨hb3, hb3'⟩ | ⟨hb3, hb3'⟩
      · skip
        exact Fn.go KT Tryd.func33 [.reg [] [], .reg [] [(1, .bit false), (8, .bit true), (11, .bit true)]] [] [] (B true) ([]) (by kernel_rfl) (q (decide (97 ≤ n) = false) (q (decide (48 ≤ n) = true) (q (decide (n ≤ 57) = true) ob0))) (by (congr 1; simp [letC]; omega)) (by first | rfl | (simp [*]; done))
      · skip
        rcases bsp (n) (95) with ⟨hb4, hb4'⟩ | ⟨hb4, hb4'⟩
        · skip
          exact Fn.go KT Tryd.func33 [.reg [] [], .reg [] [(1, .bit false), (8, .bit true), (11, .bit false), (16, .bit true)]] [] [] (B true) ([]) (by kernel_rfl) (q (decide (97 ≤ n) = false) (q (decide (48 ≤ n) = true) (q (decide (n ≤ 57) = false) (q ((n == 95) = true) ob0)))) (by (congr 1; simp [letC]; omega)) (by first | rfl | (simp [*]; done))
        · skip
          exact Fn.go KT Tryd.func33 [.reg [] [], .reg [] [(1, .bit false), (8, .bit true), (11, .bit false), (16, .bit false)]] [] [] (B false) ([]) (by kernel_rfl) (q (decide (97 ≤ n) = false) (q (decide (48 ≤ n) = true) (q (decide (n ≤ 57) = false) (q ((n == 95) = false) ob0)))) (by (congr 1; simp [letC]; omega)) (by first | rfl | (simp [*]; done))
    · skip
      exact Fn.go KT Tryd.func33 [.reg [] [], .reg [] [(1, .bit false), (8, .bit false), (16, .bit false)]] [] [] (B false) ([]) (by kernel_rfl) (q (decide (97 ≤ n) = false) (q (decide (48 ≤ n) = false) (q ((n == 95) = false) ob0))) (by (congr 1; simp [letC]; omega)) (by first | rfl | (simp [*]; done))

def letL : List UInt8 → Bool
  | [] => true
  | c :: l => letC (c.toNat : Int) && letL l

def nameC (l : List UInt8) : Bool := match l with
  | [] => false
  | c :: r => decide ((c :: r).length ≤ 24) && (decide (97 ≤ (c.toNat : Int)) && decide ((c.toNat : Int) ≤ 122)) && letL (c :: r)

theorem bytes_get (s : ByteArray) (k : Nat) : s[k]? = s.data.toList[k]? := by
  simp only [getElem?_def, ByteArray.size, Array.length_toList]
  rfl
theorem bytes_len (s : ByteArray) : s.size = s.data.toList.length := rfl

theorem isName_loop (s : ByteArray) (hn : s.size ≤ 24) : ∀ (l : List UInt8) (i : Nat), s.data.toList.drop i = l →
    Lp Tryd.prog 33 0 (loopN Tryd.f20 0) ⟨lookT [(0, S s), (3, I (i : Int))], []⟩
      (bif letL l then .exit 0 else .ret) (bif letL l then ⟨lookT [], []⟩ else ⟨lookT [(2, B false)], []⟩)
  | [], i, hd => by
    have hi : s.size ≤ i := drop_end hd
    simp only [letL, cond_true]
    exact Lp.last KT [.reg [] [(3, .bit false)]] [.keep []] (by kernel_rfl) (q (decide ((↑i : Int) < (↑(ByteArray.size s) : Int)) = false) ob0) (by intro h; cases h)
  | c :: l, i, hd => by
    have hi : i < s.size := drop_lt hd
    have hx : s[i]? = some c := by rw [bytes_get]; exact drop_get hd
    have hc := letter_ (c.toNat : Int)
    have ih := isName_loop s hn l (i + 1) (drop_next hd)
    simp only [letL]
    simp only [Int.natCast_add] at ih
    clear hd
    cases he : letC (c.toNat : Int) with
    | true =>
      rw [he] at hc
      simp only [Bool.true_and]
      exact Lp.next KT [.reg [] [(3, .bit true)], .reg [] [(2, .byte i c), (3, .call (B true) [])], .reg [] [(1, .int ((↑i : Int) + 1))]] [.keep [(0, []), (3, [])]] (by kernel_rfl) (q (decide ((↑i : Int) < (↑(ByteArray.size s) : Int)) = true) (q ((↑i : Int) = (↑i : Int)) (q (s[i]? = some c) (ob1 (hc) (qw ((↑i : Int) + 1) ob0))))) (ih)
    | false =>
      rw [he] at hc
      simp only [Bool.false_and, cond_false]
      exact Lp.last KT [.reg [] [(3, .bit true)], .reg [] [(2, .byte i c), (3, .call (B false) [])], .reg [] []] [.keep [(2, [])]] (by kernel_rfl) (q (decide ((↑i : Int) < (↑(ByteArray.size s) : Int)) = true) (q ((↑i : Int) = (↑i : Int)) (q (s[i]? = some c) (ob1 (hc) ob0)))) (by intro h; cases h)

theorem isName_ (s : ByteArray) (hs : s.size ≤ 281474976710656) : SoundCall Tryd.prog 20 [S s] [] (B (nameC s.data.toList)) [] := by
  cases hl : s.data.toList with
  | nil =>
    have h0 : s.size = 0 := by rw [bytes_len, hl]; rfl
    exact Fn.go KT Tryd.func20 [.reg [] [], .reg [] [(2, .bit true)], .reg [] []] [] [] (B false) ([]) (by kernel_rfl) (q (((↑(ByteArray.size s) : Int) == 0) = true) ob0)
  | cons c l =>
    have h0 : s.size = l.length + 1 := by rw [bytes_len, hl]; rfl
    have hx : s[0]? = some c := by rw [bytes_get, hl]; rfl
    by_cases h1 : s.size ≤ 24
    · have lp := isName_loop s h1 (c :: l) 0 hl
      have h2 : (c :: l).length ≤ 24 := by simp; omega
      cases he : letL (c :: l) with
      | true =>
        simp only [he, cond_true] at lp
        rcases bsp ((↑(ByteArray.size s) : Int)) (0) with ⟨hb1, hb1'⟩ | ⟨hb1, hb1'⟩
        · skip
          exfalso; first | contradiction | omega | (simp_all; done)
        · skip
          rcases dsp ((↑(UInt8.toNat c) : Int) < 97) with ⟨hb2, hb2'⟩ | ⟨hb2, hb2'⟩
          · skip
            exact Fn.go KT Tryd.func20 [.reg [] [], .reg [] [(2, .bit false), (6, .bit false), (10, .byte 0 c), (11, .bit true)], .reg [] []] [] [] (B false) ([]) (by kernel_rfl) (q (((↑(ByteArray.size s) : Int) == 0) = false) (q (decide (24 < (↑(ByteArray.size s) : Int)) = false) (q ((0 : Int) = (↑(0 : Nat) : Int)) (q (s[0]? = some c) (q (decide ((↑(UInt8.toNat c) : Int) < 97) = true) ob0))))) (by (congr 1; simp only [nameC, he, decide_eq_true h2, Bool.and_true, Bool.true_and]; simp; omega)) (by first | rfl | (simp [*]; done))
          · skip
            rcases dsp (122 < (↑(UInt8.toNat c) : Int)) with ⟨hb3, hb3'⟩ | ⟨hb3, hb3'⟩
            · skip
              exact Fn.go KT Tryd.func20 [.reg [] [], .reg [] [(2, .bit false), (6, .bit false), (10, .byte 0 c), (11, .bit false), (15, .byte 0 c), (16, .bit true)], .reg [] []] [] [] (B false) ([]) (by kernel_rfl) (q (((↑(ByteArray.size s) : Int) == 0) = false) (q (decide (24 < (↑(ByteArray.size s) : Int)) = false) (q ((0 : Int) = (↑(0 : Nat) : Int)) (q (s[0]? = some c) (q (decide ((↑(UInt8.toNat c) : Int) < 97) = false) (q ((0 : Int) = (↑(0 : Nat) : Int)) (q (s[0]? = some c) (q (decide (122 < (↑(UInt8.toNat c) : Int)) = true) ob0)))))))) (by (congr 1; simp only [nameC, he, decide_eq_true h2, Bool.and_true, Bool.true_and]; simp; omega)) (by first | rfl | (simp [*]; done))
            · skip
              exact Fn.go KT Tryd.func20 [.reg [] [], .reg [] [(2, .bit false), (6, .bit false), (10, .byte 0 c), (11, .bit false), (15, .byte 0 c), (16, .bit false)], .reg [] [], .loop [.keep [(0, []), (3, [])]] (Exit.exit 0) { tm := lookT [], st := [] }, .reg [] []] [] [] (B true) ([]) (by kernel_rfl) (q (((↑(ByteArray.size s) : Int) == 0) = false) (q (decide (24 < (↑(ByteArray.size s) : Int)) = false) (q ((0 : Int) = (↑(0 : Nat) : Int)) (q (s[0]? = some c) (q (decide ((↑(UInt8.toNat c) : Int) < 97) = false) (q ((0 : Int) = (↑(0 : Nat) : Int)) (q (s[0]? = some c) (q (decide (122 < (↑(UInt8.toNat c) : Int)) = false) (ob1 (lp) ob0))))))))) (by (congr 1; simp only [nameC, he, decide_eq_true h2, Bool.and_true, Bool.true_and]; simp; omega)) (by first | rfl | (simp [*]; done))
      | false =>
        simp only [he, cond_false] at lp
        rcases bsp ((↑(ByteArray.size s) : Int)) (0) with ⟨hb1, hb1'⟩ | ⟨hb1, hb1'⟩
        · skip
          exfalso; first | contradiction | omega | (simp_all; done)
        · skip
          rcases dsp ((↑(UInt8.toNat c) : Int) < 97) with ⟨hb2, hb2'⟩ | ⟨hb2, hb2'⟩
          · skip
            exact Fn.go KT Tryd.func20 [.reg [] [], .reg [] [(2, .bit false), (6, .bit false), (10, .byte 0 c), (11, .bit true)], .reg [] []] [] [] (B false) ([]) (by kernel_rfl) (q (((↑(ByteArray.size s) : Int) == 0) = false) (q (decide (24 < (↑(ByteArray.size s) : Int)) = false) (q ((0 : Int) = (↑(0 : Nat) : Int)) (q (s[0]? = some c) (q (decide ((↑(UInt8.toNat c) : Int) < 97) = true) ob0))))) (by (simp only [nameC, he, Bool.and_false])) (by first | rfl | (simp [*]; done))
          · skip
            rcases dsp (122 < (↑(UInt8.toNat c) : Int)) with ⟨hb3, hb3'⟩ | ⟨hb3, hb3'⟩
            · skip
              exact Fn.go KT Tryd.func20 [.reg [] [], .reg [] [(2, .bit false), (6, .bit false), (10, .byte 0 c), (11, .bit false), (15, .byte 0 c), (16, .bit true)], .reg [] []] [] [] (B false) ([]) (by kernel_rfl) (q (((↑(ByteArray.size s) : Int) == 0) = false) (q (decide (24 < (↑(ByteArray.size s) : Int)) = false) (q ((0 : Int) = (↑(0 : Nat) : Int)) (q (s[0]? = some c) (q (decide ((↑(UInt8.toNat c) : Int) < 97) = false) (q ((0 : Int) = (↑(0 : Nat) : Int)) (q (s[0]? = some c) (q (decide (122 < (↑(UInt8.toNat c) : Int)) = true) ob0)))))))) (by (simp only [nameC, he, Bool.and_false])) (by first | rfl | (simp [*]; done))
            · skip
              exact Fn.go KT Tryd.func20 [.reg [] [], .reg [] [(2, .bit false), (6, .bit false), (10, .byte 0 c), (11, .bit false), (15, .byte 0 c), (16, .bit false)], .reg [] [], .loop [.keep [(0, []), (3, [])]] Exit.ret { tm := lookT [(2, B false)], st := [] }] [] [] (B false) ([]) (by kernel_rfl) (q (((↑(ByteArray.size s) : Int) == 0) = false) (q (decide (24 < (↑(ByteArray.size s) : Int)) = false) (q ((0 : Int) = (↑(0 : Nat) : Int)) (q (s[0]? = some c) (q (decide ((↑(UInt8.toNat c) : Int) < 97) = false) (q ((0 : Int) = (↑(0 : Nat) : Int)) (q (s[0]? = some c) (q (decide (122 < (↑(UInt8.toNat c) : Int)) = false) (ob1 (lp) ob0))))))))) (by (simp only [nameC, he, Bool.and_false])) (by first | rfl | (simp [*]; done))
    · have h2 : ¬ (c :: l).length ≤ 24 := by simp; omega
      rcases bsp ((↑(ByteArray.size s) : Int)) (0) with ⟨hb1, hb1'⟩ | ⟨hb1, hb1'⟩
      · skip
        exfalso; first | contradiction | omega | (simp_all; done)
      · skip
        exact Fn.go KT Tryd.func20 [.reg [] [], .reg [] [(2, .bit false), (6, .bit true)], .reg [] []] [] [] (B false) ([]) (by kernel_rfl) (q (((↑(ByteArray.size s) : Int) == 0) = false) (q (decide (24 < (↑(ByteArray.size s) : Int)) = true) ob0)) (by (simp only [nameC, decide_eq_false h2, Bool.false_and])) (by first | rfl | (simp [*]; done))

end Go.Ae

/- The fields of expressions; scopes. -/
namespace Go.Ae
open Go.Proofs

def onlyC : Expr → Bool → Bool → Bool → Int → Bool
  | .mk _ n v (.mk tk tv tl) l, bn, bv, bt, g => (bn || decide (n = 0)) && (bv || decide (v = 0)) && (bt || (decide (tk = 0) && decide (tv = 0) && decide ((tl.length : Int) = 0))) && (decide (g < 0) || decide ((l.length : Int) = g))

theorem only_ (k n v tk tv : Int) (tl : List Ty) (l : List Expr) (bn bv bt : Bool) (g : Int) : SoundCall Tryd.prog 36 [.agg (Expr.mk k n v (.mk tk tv tl) l).enc, B bn, B bv, B bt, I g] [] (B (onlyC (.mk k n v (.mk tk tv tl) l) bn bv bt g)) [] := by
  cases bn <;> cases bv <;> cases bt
  · rcases bsp (n) (0) with ⟨hb1, hb1'⟩ | ⟨hb1, hb1'⟩
    · skip
      rcases bsp (v) (0) with ⟨hb2, hb2'⟩ | ⟨hb2, hb2'⟩
      · skip
        rcases bsp (tk) (0) with ⟨hb3, hb3'⟩ | ⟨hb3, hb3'⟩
        · skip
          rcases bsp (tv) (0) with ⟨hb4, hb4'⟩ | ⟨hb4, hb4'⟩
          · skip
            rcases bsp ((↑(List.length tl) : Int)) (0) with ⟨hb5, hb5'⟩ | ⟨hb5, hb5'⟩
            · skip
              rcases dsp (g < 0) with ⟨hb6, hb6'⟩ | ⟨hb6, hb6'⟩
              · skip
                exact Fn.go KT Tryd.func36 [.reg [] [], .reg [] [(4, .bit true), (11, .bit true), (20, .bit true), (25, .bit true), (31, .int (↑(List.length tl) : Int)), (32, .bit true), (38, .bit true)]] [] [] (B true) ([]) (by kernel_rfl) (q ((n == 0) = true) (q ((v == 0) = true) (q ((tk == 0) = true) (q ((tv == 0) = true) (q ((↑(List.length (Ty.encs tl)) : Int) = (↑(List.length tl) : Int)) (q (((↑(List.length tl) : Int) == 0) = true) (q (decide (g < 0) = true) ob0))))))) (by (simp_all [onlyC])) (by first | rfl | (simp [*]; done))
              · skip
                rcases bsp ((↑(List.length l) : Int)) (g) with ⟨hb7, hb7'⟩ | ⟨hb7, hb7'⟩
                · skip
                  exact Fn.go KT Tryd.func36 [.reg [] [], .reg [] [(4, .bit true), (11, .bit true), (20, .bit true), (25, .bit true), (31, .int (↑(List.length tl) : Int)), (32, .bit true), (38, .bit false), (42, .int (↑(List.length l) : Int)), (44, .bit true)]] [] [] (B true) ([]) (by kernel_rfl) (q ((n == 0) = true) (q ((v == 0) = true) (q ((tk == 0) = true) (q ((tv == 0) = true) (q ((↑(List.length (Ty.encs tl)) : Int) = (↑(List.length tl) : Int)) (q (((↑(List.length tl) : Int) == 0) = true) (q (decide (g < 0) = false) (q ((↑(List.length (Expr.encs l)) : Int) = (↑(List.length l) : Int)) (q (((↑(List.length l) : Int) == g) = true) ob0))))))))) (by (simp_all [onlyC])) (by first | rfl | (simp [*]; done))
                · skip
                  exact Fn.go KT Tryd.func36 [.reg [] [], .reg [] [(4, .bit true), (11, .bit true), (20, .bit true), (25, .bit true), (31, .int (↑(List.length tl) : Int)), (32, .bit true), (38, .bit false), (42, .int (↑(List.length l) : Int)), (44, .bit false)]] [] [] (B false) ([]) (by kernel_rfl) (q ((n == 0) = true) (q ((v == 0) = true) (q ((tk == 0) = true) (q ((tv == 0) = true) (q ((↑(List.length (Ty.encs tl)) : Int) = (↑(List.length tl) : Int)) (q (((↑(List.length tl) : Int) == 0) = true) (q (decide (g < 0) = false) (q ((↑(List.length (Expr.encs l)) : Int) = (↑(List.length l) : Int)) (q (((↑(List.length l) : Int) == g) = false) ob0))))))))) (by (simp_all [onlyC])) (by first | rfl | (simp [*]; done))
            · skip
              exact Fn.go KT Tryd.func36 [.reg [] [], .reg [] [(4, .bit true), (11, .bit true), (20, .bit true), (25, .bit true), (31, .int (↑(List.length tl) : Int)), (32, .bit false)]] [] [] (B false) ([]) (by kernel_rfl) (q ((n == 0) = true) (q ((v == 0) = true) (q ((tk == 0) = true) (q ((tv == 0) = true) (q ((↑(List.length (Ty.encs tl)) : Int) = (↑(List.length tl) : Int)) (q (((↑(List.length tl) : Int) == 0) = false) ob0)))))) (by (simp_all [onlyC])) (by first | rfl | (simp [*]; done))
          · skip
            exact Fn.go KT Tryd.func36 [.reg [] [], .reg [] [(4, .bit true), (11, .bit true), (20, .bit true), (25, .bit false)]] [] [] (B false) ([]) (by kernel_rfl) (q ((n == 0) = true) (q ((v == 0) = true) (q ((tk == 0) = true) (q ((tv == 0) = false) ob0)))) (by (simp_all [onlyC])) (by first | rfl | (simp [*]; done))
        · skip
          exact Fn.go KT Tryd.func36 [.reg [] [], .reg [] [(4, .bit true), (11, .bit true), (20, .bit false)]] [] [] (B false) ([]) (by kernel_rfl) (q ((n == 0) = true) (q ((v == 0) = true) (q ((tk == 0) = false) ob0))) (by (simp_all [onlyC])) (by first | rfl | (simp [*]; done))
      · skip
        exact Fn.go KT Tryd.func36 [.reg [] [], .reg [] [(4, .bit true), (11, .bit false)]] [] [] (B false) ([]) (by kernel_rfl) (q ((n == 0) = true) (q ((v == 0) = false) ob0)) (by (simp_all [onlyC])) (by first | rfl | (simp [*]; done))
    · skip
      exact Fn.go KT Tryd.func36 [.reg [] [], .reg [] [(4, .bit false)]] [] [] (B false) ([]) (by kernel_rfl) (q ((n == 0) = false) ob0) (by (simp_all [onlyC])) (by first | rfl | (simp [*]; done))
  · rcases bsp (n) (0) with ⟨hb1, hb1'⟩ | ⟨hb1, hb1'⟩
    · skip
      rcases bsp (v) (0) with ⟨hb2, hb2'⟩ | ⟨hb2, hb2'⟩
      · skip
        rcases dsp (g < 0) with ⟨hb3, hb3'⟩ | ⟨hb3, hb3'⟩
        · skip
          exact Fn.go KT Tryd.func36 [.reg [] [], .reg [] [(4, .bit true), (11, .bit true), (38, .bit true)]] [] [] (B true) ([]) (by kernel_rfl) (q ((n == 0) = true) (q ((v == 0) = true) (q (decide (g < 0) = true) ob0))) (by (simp_all [onlyC])) (by first | rfl | (simp [*]; done))
        · skip
          rcases bsp ((↑(List.length l) : Int)) (g) with ⟨hb4, hb4'⟩ | ⟨hb4, hb4'⟩
          · skip
            exact Fn.go KT Tryd.func36 [.reg [] [], .reg [] [(4, .bit true), (11, .bit true), (38, .bit false), (42, .int (↑(List.length l) : Int)), (44, .bit true)]] [] [] (B true) ([]) (by kernel_rfl) (q ((n == 0) = true) (q ((v == 0) = true) (q (decide (g < 0) = false) (q ((↑(List.length (Expr.encs l)) : Int) = (↑(List.length l) : Int)) (q (((↑(List.length l) : Int) == g) = true) ob0))))) (by (simp_all [onlyC])) (by first | rfl | (simp [*]; done))
          · skip
            exact Fn.go KT Tryd.func36 [.reg [] [], .reg [] [(4, .bit true), (11, .bit true), (38, .bit false), (42, .int (↑(List.length l) : Int)), (44, .bit false)]] [] [] (B false) ([]) (by kernel_rfl) (q ((n == 0) = true) (q ((v == 0) = true) (q (decide (g < 0) = false) (q ((↑(List.length (Expr.encs l)) : Int) = (↑(List.length l) : Int)) (q (((↑(List.length l) : Int) == g) = false) ob0))))) (by (simp_all [onlyC])) (by first | rfl | (simp [*]; done))
      · skip
        exact Fn.go KT Tryd.func36 [.reg [] [], .reg [] [(4, .bit true), (11, .bit false)]] [] [] (B false) ([]) (by kernel_rfl) (q ((n == 0) = true) (q ((v == 0) = false) ob0)) (by (simp_all [onlyC])) (by first | rfl | (simp [*]; done))
    · skip
      exact Fn.go KT Tryd.func36 [.reg [] [], .reg [] [(4, .bit false)]] [] [] (B false) ([]) (by kernel_rfl) (q ((n == 0) = false) ob0) (by (simp_all [onlyC])) (by first | rfl | (simp [*]; done))
  · rcases bsp (n) (0) with ⟨hb1, hb1'⟩ | ⟨hb1, hb1'⟩
    · skip
      rcases bsp (tk) (0) with ⟨hb2, hb2'⟩ | ⟨hb2, hb2'⟩
      · skip
        rcases bsp (tv) (0) with ⟨hb3, hb3'⟩ | ⟨hb3, hb3'⟩
        · skip
          rcases bsp ((↑(List.length tl) : Int)) (0) with ⟨hb4, hb4'⟩ | ⟨hb4, hb4'⟩
          · skip
            rcases dsp (g < 0) with ⟨hb5, hb5'⟩ | ⟨hb5, hb5'⟩
            · skip
              exact Fn.go KT Tryd.func36 [.reg [] [], .reg [] [(4, .bit true), (20, .bit true), (25, .bit true), (31, .int (↑(List.length tl) : Int)), (32, .bit true), (38, .bit true)]] [] [] (B true) ([]) (by kernel_rfl) (q ((n == 0) = true) (q ((tk == 0) = true) (q ((tv == 0) = true) (q ((↑(List.length (Ty.encs tl)) : Int) = (↑(List.length tl) : Int)) (q (((↑(List.length tl) : Int) == 0) = true) (q (decide (g < 0) = true) ob0)))))) (by (simp_all [onlyC])) (by first | rfl | (simp [*]; done))
            · skip
              rcases bsp ((↑(List.length l) : Int)) (g) with ⟨hb6, hb6'⟩ | ⟨hb6, hb6'⟩
              · skip
                exact Fn.go KT Tryd.func36 [.reg [] [], .reg [] [(4, .bit true), (20, .bit true), (25, .bit true), (31, .int (↑(List.length tl) : Int)), (32, .bit true), (38, .bit false), (42, .int (↑(List.length l) : Int)), (44, .bit true)]] [] [] (B true) ([]) (by kernel_rfl) (q ((n == 0) = true) (q ((tk == 0) = true) (q ((tv == 0) = true) (q ((↑(List.length (Ty.encs tl)) : Int) = (↑(List.length tl) : Int)) (q (((↑(List.length tl) : Int) == 0) = true) (q (decide (g < 0) = false) (q ((↑(List.length (Expr.encs l)) : Int) = (↑(List.length l) : Int)) (q (((↑(List.length l) : Int) == g) = true) ob0)))))))) (by (simp_all [onlyC])) (by first | rfl | (simp [*]; done))
              · skip
                exact Fn.go KT Tryd.func36 [.reg [] [], .reg [] [(4, .bit true), (20, .bit true), (25, .bit true), (31, .int (↑(List.length tl) : Int)), (32, .bit true), (38, .bit false), (42, .int (↑(List.length l) : Int)), (44, .bit false)]] [] [] (B false) ([]) (by kernel_rfl) (q ((n == 0) = true) (q ((tk == 0) = true) (q ((tv == 0) = true) (q ((↑(List.length (Ty.encs tl)) : Int) = (↑(List.length tl) : Int)) (q (((↑(List.length tl) : Int) == 0) = true) (q (decide (g < 0) = false) (q ((↑(List.length (Expr.encs l)) : Int) = (↑(List.length l) : Int)) (q (((↑(List.length l) : Int) == g) = false) ob0)))))))) (by (simp_all [onlyC])) (by first | rfl | (simp [*]; done))
          · skip
            exact Fn.go KT Tryd.func36 [.reg [] [], .reg [] [(4, .bit true), (20, .bit true), (25, .bit true), (31, .int (↑(List.length tl) : Int)), (32, .bit false)]] [] [] (B false) ([]) (by kernel_rfl) (q ((n == 0) = true) (q ((tk == 0) = true) (q ((tv == 0) = true) (q ((↑(List.length (Ty.encs tl)) : Int) = (↑(List.length tl) : Int)) (q (((↑(List.length tl) : Int) == 0) = false) ob0))))) (by (simp_all [onlyC])) (by first | rfl | (simp [*]; done))
        · skip
          exact Fn.go KT Tryd.func36 [.reg [] [], .reg [] [(4, .bit true), (20, .bit true), (25, .bit false)]] [] [] (B false) ([]) (by kernel_rfl) (q ((n == 0) = true) (q ((tk == 0) = true) (q ((tv == 0) = false) ob0))) (by (simp_all [onlyC])) (by first | rfl | (simp [*]; done))
      · skip
        exact Fn.go KT Tryd.func36 [.reg [] [], .reg [] [(4, .bit true), (20, .bit false)]] [] [] (B false) ([]) (by kernel_rfl) (q ((n == 0) = true) (q ((tk == 0) = false) ob0)) (by (simp_all [onlyC])) (by first | rfl | (simp [*]; done))
    · skip
      exact Fn.go KT Tryd.func36 [.reg [] [], .reg [] [(4, .bit false)]] [] [] (B false) ([]) (by kernel_rfl) (q ((n == 0) = false) ob0) (by (simp_all [onlyC])) (by first | rfl | (simp [*]; done))
  · rcases bsp (n) (0) with ⟨hb1, hb1'⟩ | ⟨hb1, hb1'⟩
    · skip
      rcases dsp (g < 0) with ⟨hb2, hb2'⟩ | ⟨hb2, hb2'⟩
      · skip
        exact Fn.go KT Tryd.func36 [.reg [] [], .reg [] [(4, .bit true), (38, .bit true)]] [] [] (B true) ([]) (by kernel_rfl) (q ((n == 0) = true) (q (decide (g < 0) = true) ob0)) (by (simp_all [onlyC])) (by first | rfl | (simp [*]; done))
      · skip
        rcases bsp ((↑(List.length l) : Int)) (g) with ⟨hb3, hb3'⟩ | ⟨hb3, hb3'⟩
        · skip
          exact Fn.go KT Tryd.func36 [.reg [] [], .reg [] [(4, .bit true), (38, .bit false), (42, .int (↑(List.length l) : Int)), (44, .bit true)]] [] [] (B true) ([]) (by kernel_rfl) (q ((n == 0) = true) (q (decide (g < 0) = false) (q ((↑(List.length (Expr.encs l)) : Int) = (↑(List.length l) : Int)) (q (((↑(List.length l) : Int) == g) = true) ob0)))) (by (simp_all [onlyC])) (by first | rfl | (simp [*]; done))
        · skip
          exact Fn.go KT Tryd.func36 [.reg [] [], .reg [] [(4, .bit true), (38, .bit false), (42, .int (↑(List.length l) : Int)), (44, .bit false)]] [] [] (B false) ([]) (by kernel_rfl) (q ((n == 0) = true) (q (decide (g < 0) = false) (q ((↑(List.length (Expr.encs l)) : Int) = (↑(List.length l) : Int)) (q (((↑(List.length l) : Int) == g) = false) ob0)))) (by (simp_all [onlyC])) (by first | rfl | (simp [*]; done))
    · skip
      exact Fn.go KT Tryd.func36 [.reg [] [], .reg [] [(4, .bit false)]] [] [] (B false) ([]) (by kernel_rfl) (q ((n == 0) = false) ob0) (by (simp_all [onlyC])) (by first | rfl | (simp [*]; done))
  · rcases bsp (v) (0) with ⟨hb1, hb1'⟩ | ⟨hb1, hb1'⟩
    · skip
      rcases bsp (tk) (0) with ⟨hb2, hb2'⟩ | ⟨hb2, hb2'⟩
      · skip
        rcases bsp (tv) (0) with ⟨hb3, hb3'⟩ | ⟨hb3, hb3'⟩
        · skip
          rcases bsp ((↑(List.length tl) : Int)) (0) with ⟨hb4, hb4'⟩ | ⟨hb4, hb4'⟩
          · skip
            rcases dsp (g < 0) with ⟨hb5, hb5'⟩ | ⟨hb5, hb5'⟩
            · skip
              exact Fn.go KT Tryd.func36 [.reg [] [], .reg [] [(11, .bit true), (20, .bit true), (25, .bit true), (31, .int (↑(List.length tl) : Int)), (32, .bit true), (38, .bit true)]] [] [] (B true) ([]) (by kernel_rfl) (q ((v == 0) = true) (q ((tk == 0) = true) (q ((tv == 0) = true) (q ((↑(List.length (Ty.encs tl)) : Int) = (↑(List.length tl) : Int)) (q (((↑(List.length tl) : Int) == 0) = true) (q (decide (g < 0) = true) ob0)))))) (by (simp_all [onlyC])) (by first | rfl | (simp [*]; done))
            · skip
              rcases bsp ((↑(List.length l) : Int)) (g) with ⟨hb6, hb6'⟩ | ⟨hb6, hb6'⟩
              · skip
                exact Fn.go KT Tryd.func36 [.reg [] [], .reg [] [(11, .bit true), (20, .bit true), (25, .bit true), (31, .int (↑(List.length tl) : Int)), (32, .bit true), (38, .bit false), (42, .int (↑(List.length l) : Int)), (44, .bit true)]] [] [] (B true) ([]) (by kernel_rfl) (q ((v == 0) = true) (q ((tk == 0) = true) (q ((tv == 0) = true) (q ((↑(List.length (Ty.encs tl)) : Int) = (↑(List.length tl) : Int)) (q (((↑(List.length tl) : Int) == 0) = true) (q (decide (g < 0) = false) (q ((↑(List.length (Expr.encs l)) : Int) = (↑(List.length l) : Int)) (q (((↑(List.length l) : Int) == g) = true) ob0)))))))) (by (simp_all [onlyC])) (by first | rfl | (simp [*]; done))
              · skip
                exact Fn.go KT Tryd.func36 [.reg [] [], .reg [] [(11, .bit true), (20, .bit true), (25, .bit true), (31, .int (↑(List.length tl) : Int)), (32, .bit true), (38, .bit false), (42, .int (↑(List.length l) : Int)), (44, .bit false)]] [] [] (B false) ([]) (by kernel_rfl) (q ((v == 0) = true) (q ((tk == 0) = true) (q ((tv == 0) = true) (q ((↑(List.length (Ty.encs tl)) : Int) = (↑(List.length tl) : Int)) (q (((↑(List.length tl) : Int) == 0) = true) (q (decide (g < 0) = false) (q ((↑(List.length (Expr.encs l)) : Int) = (↑(List.length l) : Int)) (q (((↑(List.length l) : Int) == g) = false) ob0)))))))) (by (simp_all [onlyC])) (by first | rfl | (simp [*]; done))
          · skip
            exact Fn.go KT Tryd.func36 [.reg [] [], .reg [] [(11, .bit true), (20, .bit true), (25, .bit true), (31, .int (↑(List.length tl) : Int)), (32, .bit false)]] [] [] (B false) ([]) (by kernel_rfl) (q ((v == 0) = true) (q ((tk == 0) = true) (q ((tv == 0) = true) (q ((↑(List.length (Ty.encs tl)) : Int) = (↑(List.length tl) : Int)) (q (((↑(List.length tl) : Int) == 0) = false) ob0))))) (by (simp_all [onlyC])) (by first | rfl | (simp [*]; done))
        · skip
          exact Fn.go KT Tryd.func36 [.reg [] [], .reg [] [(11, .bit true), (20, .bit true), (25, .bit false)]] [] [] (B false) ([]) (by kernel_rfl) (q ((v == 0) = true) (q ((tk == 0) = true) (q ((tv == 0) = false) ob0))) (by (simp_all [onlyC])) (by first | rfl | (simp [*]; done))
      · skip
        exact Fn.go KT Tryd.func36 [.reg [] [], .reg [] [(11, .bit true), (20, .bit false)]] [] [] (B false) ([]) (by kernel_rfl) (q ((v == 0) = true) (q ((tk == 0) = false) ob0)) (by (simp_all [onlyC])) (by first | rfl | (simp [*]; done))
    · skip
      exact Fn.go KT Tryd.func36 [.reg [] [], .reg [] [(11, .bit false)]] [] [] (B false) ([]) (by kernel_rfl) (q ((v == 0) = false) ob0) (by (simp_all [onlyC])) (by first | rfl | (simp [*]; done))
  · rcases bsp (v) (0) with ⟨hb1, hb1'⟩ | ⟨hb1, hb1'⟩
    · skip
      rcases dsp (g < 0) with ⟨hb2, hb2'⟩ | ⟨hb2, hb2'⟩
      · skip
        exact Fn.go KT Tryd.func36 [.reg [] [], .reg [] [(11, .bit true), (38, .bit true)]] [] [] (B true) ([]) (by kernel_rfl) (q ((v == 0) = true) (q (decide (g < 0) = true) ob0)) (by (simp_all [onlyC])) (by first | rfl | (simp [*]; done))
      · skip
        rcases bsp ((↑(List.length l) : Int)) (g) with ⟨hb3, hb3'⟩ | ⟨hb3, hb3'⟩
        · skip
          exact Fn.go KT Tryd.func36 [.reg [] [], .reg [] [(11, .bit true), (38, .bit false), (42, .int (↑(List.length l) : Int)), (44, .bit true)]] [] [] (B true) ([]) (by kernel_rfl) (q ((v == 0) = true) (q (decide (g < 0) = false) (q ((↑(List.length (Expr.encs l)) : Int) = (↑(List.length l) : Int)) (q (((↑(List.length l) : Int) == g) = true) ob0)))) (by (simp_all [onlyC])) (by first | rfl | (simp [*]; done))
        · skip
          exact Fn.go KT Tryd.func36 [.reg [] [], .reg [] [(11, .bit true), (38, .bit false), (42, .int (↑(List.length l) : Int)), (44, .bit false)]] [] [] (B false) ([]) (by kernel_rfl) (q ((v == 0) = true) (q (decide (g < 0) = false) (q ((↑(List.length (Expr.encs l)) : Int) = (↑(List.length l) : Int)) (q (((↑(List.length l) : Int) == g) = false) ob0)))) (by (simp_all [onlyC])) (by first | rfl | (simp [*]; done))
    · skip
      exact Fn.go KT Tryd.func36 [.reg [] [], .reg [] [(11, .bit false)]] [] [] (B false) ([]) (by kernel_rfl) (q ((v == 0) = false) ob0) (by (simp_all [onlyC])) (by first | rfl | (simp [*]; done))
  · rcases bsp (tk) (0) with ⟨hb1, hb1'⟩ | ⟨hb1, hb1'⟩
    · skip
      rcases bsp (tv) (0) with ⟨hb2, hb2'⟩ | ⟨hb2, hb2'⟩
      · skip
        rcases bsp ((↑(List.length tl) : Int)) (0) with ⟨hb3, hb3'⟩ | ⟨hb3, hb3'⟩
        · skip
          rcases dsp (g < 0) with ⟨hb4, hb4'⟩ | ⟨hb4, hb4'⟩
          · skip
            exact Fn.go KT Tryd.func36 [.reg [] [], .reg [] [(20, .bit true), (25, .bit true), (31, .int (↑(List.length tl) : Int)), (32, .bit true), (38, .bit true)]] [] [] (B true) ([]) (by kernel_rfl) (q ((tk == 0) = true) (q ((tv == 0) = true) (q ((↑(List.length (Ty.encs tl)) : Int) = (↑(List.length tl) : Int)) (q (((↑(List.length tl) : Int) == 0) = true) (q (decide (g < 0) = true) ob0))))) (by (simp_all [onlyC])) (by first | rfl | (simp [*]; done))
          · skip
            rcases bsp ((↑(List.length l) : Int)) (g) with ⟨hb5, hb5'⟩ | ⟨hb5, hb5'⟩
            · skip
              exact Fn.go KT Tryd.func36 [.reg [] [], .reg [] [(20, .bit true), (25, .bit true), (31, .int (↑(List.length tl) : Int)), (32, .bit true), (38, .bit false), (42, .int (↑(List.length l) : Int)), (44, .bit true)]] [] [] (B true) ([]) (by kernel_rfl) (q ((tk == 0) = true) (q ((tv == 0) = true) (q ((↑(List.length (Ty.encs tl)) : Int) = (↑(List.length tl) : Int)) (q (((↑(List.length tl) : Int) == 0) = true) (q (decide (g < 0) = false) (q ((↑(List.length (Expr.encs l)) : Int) = (↑(List.length l) : Int)) (q (((↑(List.length l) : Int) == g) = true) ob0))))))) (by (simp_all [onlyC])) (by first | rfl | (simp [*]; done))
            · skip
              exact Fn.go KT Tryd.func36 [.reg [] [], .reg [] [(20, .bit true), (25, .bit true), (31, .int (↑(List.length tl) : Int)), (32, .bit true), (38, .bit false), (42, .int (↑(List.length l) : Int)), (44, .bit false)]] [] [] (B false) ([]) (by kernel_rfl) (q ((tk == 0) = true) (q ((tv == 0) = true) (q ((↑(List.length (Ty.encs tl)) : Int) = (↑(List.length tl) : Int)) (q (((↑(List.length tl) : Int) == 0) = true) (q (decide (g < 0) = false) (q ((↑(List.length (Expr.encs l)) : Int) = (↑(List.length l) : Int)) (q (((↑(List.length l) : Int) == g) = false) ob0))))))) (by (simp_all [onlyC])) (by first | rfl | (simp [*]; done))
        · skip
          exact Fn.go KT Tryd.func36 [.reg [] [], .reg [] [(20, .bit true), (25, .bit true), (31, .int (↑(List.length tl) : Int)), (32, .bit false)]] [] [] (B false) ([]) (by kernel_rfl) (q ((tk == 0) = true) (q ((tv == 0) = true) (q ((↑(List.length (Ty.encs tl)) : Int) = (↑(List.length tl) : Int)) (q (((↑(List.length tl) : Int) == 0) = false) ob0)))) (by (simp_all [onlyC])) (by first | rfl | (simp [*]; done))
      · skip
        exact Fn.go KT Tryd.func36 [.reg [] [], .reg [] [(20, .bit true), (25, .bit false)]] [] [] (B false) ([]) (by kernel_rfl) (q ((tk == 0) = true) (q ((tv == 0) = false) ob0)) (by (simp_all [onlyC])) (by first | rfl | (simp [*]; done))
    · skip
      exact Fn.go KT Tryd.func36 [.reg [] [], .reg [] [(20, .bit false)]] [] [] (B false) ([]) (by kernel_rfl) (q ((tk == 0) = false) ob0) (by (simp_all [onlyC])) (by first | rfl | (simp [*]; done))
  · rcases dsp (g < 0) with ⟨hb1, hb1'⟩ | ⟨hb1, hb1'⟩
    · skip
      exact Fn.go KT Tryd.func36 [.reg [] [], .reg [] [(38, .bit true)]] [] [] (B true) ([]) (by kernel_rfl) (q (decide (g < 0) = true) ob0) (by (simp_all [onlyC])) (by first | rfl | (simp [*]; done))
    · skip
      rcases bsp ((↑(List.length l) : Int)) (g) with ⟨hb2, hb2'⟩ | ⟨hb2, hb2'⟩
      · skip
        exact Fn.go KT Tryd.func36 [.reg [] [], .reg [] [(38, .bit false), (42, .int (↑(List.length l) : Int)), (44, .bit true)]] [] [] (B true) ([]) (by kernel_rfl) (q (decide (g < 0) = false) (q ((↑(List.length (Expr.encs l)) : Int) = (↑(List.length l) : Int)) (q (((↑(List.length l) : Int) == g) = true) ob0))) (by (simp_all [onlyC])) (by first | rfl | (simp [*]; done))
      · skip
        exact Fn.go KT Tryd.func36 [.reg [] [], .reg [] [(38, .bit false), (42, .int (↑(List.length l) : Int)), (44, .bit false)]] [] [] (B false) ([]) (by kernel_rfl) (q (decide (g < 0) = false) (q ((↑(List.length (Expr.encs l)) : Int) = (↑(List.length l) : Int)) (q (((↑(List.length l) : Int) == g) = false) ob0))) (by (simp_all [onlyC])) (by first | rfl | (simp [*]; done))

def emptyC : Ty → Bool
  | .mk k v l => decide (k = 0) && decide (v = 0) && decide ((l.length : Int) = 0)

theorem encs_append : ∀ (l r : List Ty), Ty.encs (l ++ r) = Ty.encs l ++ Ty.encs r
  | [], r => rfl
  | t :: l, r => by simp [Ty.encs, encs_append l r]

theorem under_ (a : Ty) (us : List Ty) (h : us.length ≤ 1000) : SoundCall Tryd.prog 54 [.sl 3 (Ty.encs us) false, .agg a.enc] [] (.sl 3 (Ty.encs (us ++ [a])) false) [] := by
  obtain ⟨ka, va, la⟩ := a
  exact Fn.go KT Tryd.func54 [.reg [] [], .reg [] [(1, .int (↑(List.length us) : Int)), (2, .int ((↑(List.length us) : Int) + 1)), (3, .nat 0)]] [.frz 1] [some 3] (AV.sl 3 ([] ++ Ty.encs us ++ [[I ka, I va, AV.sl 3 (Ty.encs la) false]]) false) ([]) (by kernel_rfl) (q ((↑(List.length (Ty.encs us)) : Int) = (↑(List.length us) : Int)) (qw ((↑(List.length us) : Int) + 1) (q ((0 : Int) = (↑(0 : Nat) : Int)) (q ((↑0 : Int) ≤ (↑(List.length us) : Int) + 1) (q (((↑(List.length us) : Int) + 1) * (↑40 : Int) ≤ 281474976710656) (q (Fits (0 + List.length (Ty.encs us)) 0 40) (q (Fits (List.length ([] ++ Ty.encs us) + 1) (List.length ([] ++ Ty.encs us)) 40) ob0))))))) (by (rw [encs_append]; rfl)) (by first | rfl | (simp [*]; done))

end Go.Ae

/- The data: programs. What source.Lang.Type returns. -/
namespace Go.Ae
open Go.Proofs

structure Def where
  name : ByteArray
  param : Ty
  result : Ty
  body : Expr

def Def.enc (d : Def) : List AV := S d.name :: (d.param.enc ++ (d.result.enc ++ d.body.enc))
def Def.encs : List Def → List (List AV)
  | [] => []
  | d :: l => d.enc :: Def.encs l
@[simp] theorem Def.encs_length : ∀ l : List Def, (Def.encs l).length = l.length
  | [] => rfl
  | _ :: l => by simp [Def.encs, Def.encs_length l]
theorem Def.encs_get : ∀ (l : List Def) (i : Nat), (Def.encs l)[i]? = (l[i]?).map Def.enc
  | [], i => by simp [Def.encs]
  | t :: l, 0 => by simp [Def.encs]
  | t :: l, i + 1 => by simp [Def.encs, Def.encs_get l i]

def strs : List ByteArray → List (List AV)
  | [] => []
  | d :: l => [S d] :: strs l
@[simp] theorem strs_length : ∀ l : List ByteArray, (strs l).length = l.length
  | [] => rfl
  | _ :: l => by simp [strs, strs_length l]
theorem strs_get : ∀ (l : List ByteArray) (i : Nat), (strs l)[i]? = (l[i]?).map fun s => [S s]
  | [], i => by simp [strs]
  | t :: l, 0 => by simp [strs]
  | t :: l, i + 1 => by simp [strs, strs_get l i]

structure Prog where
  events : List ByteArray
  defs : List Def
  main : Expr

def Prog.enc (p : Prog) : List AV := .sl 1 (strs p.events) false :: .sl 14 (Def.encs p.defs) false :: p.main.enc

def Def.ok (d : Def) : Prop := d.name.size ≤ 281474976710656 ∧ d.param.ok ∧ d.result.ok ∧ d.body.ok
def Prog.ok (p : Prog) : Prop := p.events.length ≤ 281474976710656 ∧ (∀ s ∈ p.events, s.size ≤ 281474976710656) ∧ p.defs.length ≤ 281474976710656 ∧ (∀ d ∈ p.defs, d.ok) ∧ p.main.ok

def tyZ : Ty := .mk 0 0 []
def tyF (k : Int) : Ty := .mk 0 k []
def tyI : Ty := .mk 2 0 []

/-- A function of type f applied to a value of type x. -/
noncomputable def appC (f x : Ty) : Ty × Bool :=
  match f with
  | .mk fk _ (t :: u :: _) => if fk = 1 ∧ t = x then (u, true) else (tyZ, false)
  | _ => (tyZ, false)

theorem appC_ne {fk fv : Int} {fl : List Ty} {x : Ty} (h : fk ≠ 1) : appC (.mk fk fv fl) x = (tyZ, false) := by
  match fl with
  | [] => rfl
  | [_] => rfl
  | _ :: _ :: _ => simp [appC, h]
theorem appC_two {fv : Int} {t u x : Ty} : appC (.mk 1 fv [t, u]) x = if t = x then (u, true) else (tyZ, false) := by simp [appC]

/-- EAdd and ELess, of an expression that has this type. -/
def addC (k n : Int) : Ty × Bool → Ty × Bool
  | (.mk xk _ _, b) => if b && decide (xk = 2) then (if k = 11 then (tyI, decide (n = 1) || decide (n = -1)) else (tyF 2, decide (-1000 ≤ n) && decide (n ≤ 1000))) else (tyZ, false)

/-- What source.Lang.Type returns; the scope's innermost type is the last one. -/
noncomputable def tImp (p : Prog) : Expr → List Ty → Ty × Bool
  | .mk k n v ty l, sc =>
    if k = 0 then (tyF v, onlyC (.mk k n v ty l) true true false 0 && decide (1 ≤ v) && decide (v ≤ 4) && decide (0 ≤ n) && decide (n < v))
    else if k = 8 then (tyF v, onlyC (.mk k n v ty l) false true false 0 && decide (1 ≤ v) && decide (v ≤ 4))
    else if k = 1 then
      (if onlyC (.mk k n v ty l) true false false 0 && decide (0 ≤ n) && decide (n < (sc.length : Int)) then
        (match sc[sc.length - 1 - n.toNat]? with
        | some t => (t, true)
        | none => (tyZ, false)) else (tyZ, false))
    else if k = 2 then
      (if onlyC (.mk k n v ty l) true false false 0 && decide (0 ≤ n) && decide (n < (p.defs.length : Int)) then
        (match p.defs[n.toNat]? with
        | some d => (.mk 1 0 [d.param, d.result], (tyC (.mk 1 0 [d.param, d.result]) 20).1)
        | none => (tyZ, false)) else (tyZ, false))
    else if k = 7 then
      (match l with
      | [a] => if onlyC (.mk k n v ty [a]) true false false 1 && decide (0 ≤ n) && decide (n < (p.events.length : Int)) then tImp p a sc else (tyZ, false)
      | _ => (tyZ, false))
    else if k = 3 then
      (match l with
      | [a, b] => if onlyC (.mk k n v ty [a, b]) false false false 2 then
          (let f := tImp p a sc
           let x := tImp p b sc
           if f.2 && x.2 then appC f.1 x.1 else (tyZ, false))
        else (tyZ, false)
      | _ => (tyZ, false))
    else if k = 4 then
      (match l with
      | [a] => if onlyC (.mk k n v ty [a]) false false true 1 && (tyC ty 20).1 then
          (let b := tImp p a (sc ++ [ty])
           if b.2 && (tyC (.mk 1 0 [ty, b.1]) 20).1 then (.mk 1 0 [ty, b.1], true) else (tyZ, false))
        else (tyZ, false)
      | _ => (tyZ, false))
    else if k = 5 then
      (match l with
      | [a, b] => if onlyC (.mk k n v ty [a, b]) false false false 2 then
          (let x := tImp p a sc
           if x.2 then tImp p b (sc ++ [x.1]) else (tyZ, false))
        else (tyZ, false)
      | _ => (tyZ, false))
    else if k = 6 then
      (match l with
      | a :: b :: r => if onlyC (.mk k n v ty (a :: b :: r)) false false false (-1) then
          (let x := tImp p a sc
           if x.2 then (match x.1 with
            | .mk xk xv _ => if xk = 0 ∧ xv = ((b :: r).length : Int) then
                (let f := tImp p b sc
                 (f.1, r.attach.foldl (fun ok c => ok && (tImp p c.1 sc).2 && decide (f.1 = (tImp p c.1 sc).1)) f.2))
              else (tyZ, false)) else (tyZ, false))
        else (tyZ, false)
      | _ => (tyZ, false))
    else if k = 9 then (tyI, onlyC (.mk k n v ty l) true false false 0 && decide (-1000 ≤ n) && decide (n ≤ 1000))
    else if k = 10 then (tyI, onlyC (.mk k n v ty l) false false false 0)
    else if k = 11 ∨ k = 12 then
      (match l with
      | [a] => if onlyC (.mk k n v ty [a]) true false false 1 then addC k n (tImp p a sc) else (tyZ, false)
      | _ => (tyZ, false))
    else (tyZ, false)
termination_by e => SizeOf.sizeOf e
decreasing_by all_goals (simp_wf; first | omega | (have := List.sizeOf_lt_of_mem c.2; omega))

end Go.Ae

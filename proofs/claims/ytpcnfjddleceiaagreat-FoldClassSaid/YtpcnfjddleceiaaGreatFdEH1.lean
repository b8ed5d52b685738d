/- fold.good, fold.class, fold.Class. -/
import Derived.Test.YtpcnfjddleceiaaGreatFdEH0
namespace Go.Ae
open Go.Proofs

def goodC : Option Int → List Int → Bool
  | _, [] => true
  | prev, t :: l => !(decide (t < -2000) || decide (t > 2000) || (match prev with
    | some p => decide (p ≥ t)
    | none => false)) && goodC (some t) l

theorem good_loop0 (us : List Int) (hn : us.length ≤ 140737488351232) : ∀ (us' : List Int) (i : Nat) (p : Int), us.drop (i + 1) = us' → us[i]? = some p →
    Lp Tryz.prog 35 0 (loopN Tryz.f9 0) ⟨lookT [(0, .sl 1 (ints us) false), (5, .sl 1 (ints us) false), (6, I (us.length : Int)), (7, I ((i : Int) + 1))], []⟩
      (if goodC (some p) us' = true then .exit 0 else .ret) (if goodC (some p) us' = true then ⟨lookT [(0, .sl 1 (ints us) false)], []⟩ else ⟨lookT [(2, B false)], []⟩)
  | [], i, p, hd, _ => by
    have hi := drop_end hd
    simp only [goodC, if_true]
    exact Lp.last KT [.reg [] [(0, .bit false)]] [.keep [(0, [])]] (by kernel_rfl) (q (decide ((↑i : Int) + 1 < (↑(List.length us) : Int)) = false) ob0) (by intro h; cases h)
  | t :: us', i, p, hd, hp => by
    have hi := drop_lt hd
    have hx : (ints us)[i + 1]? = some [I t] := by rw [ints_get, drop_get hd]; rfl
    have hy : (ints us)[i]? = some [I p] := by rw [ints_get, hp]; rfl
    have ih := good_loop0 us hn us' (i + 1) t (drop_next hd) (drop_get hd)
    simp only [Int.natCast_add, Int.natCast_one] at ih
    clear hd hp
    by_cases h1 : t < -2000
    · simp only [goodC, decide_eq_true h1, Bool.true_or, Bool.not_true, Bool.false_and, Bool.false_eq_true, if_false]
      clear ih
      exact Lp.last KT [.reg [] [(0, .bit true)], .reg [] [(1, .row (i + 1) [I t])], .reg [] [(1, .bit true)], .reg [] []] [.keep [(2, [])]] (by kernel_rfl) (q (decide ((↑i : Int) + 1 < (↑(List.length us) : Int)) = true) (q ((↑i : Int) + 1 = (↑(i + 1) : Int)) (q ((ints us)[i + 1]? = some [I t]) (q (decide (t < -2000) = true) ob0)))) (by intro h; cases h)
    · by_cases h2 : t > 2000
      · simp only [goodC, decide_eq_true h2, Bool.true_or, Bool.or_true, Bool.not_true, Bool.false_and, Bool.false_eq_true, if_false]
        clear ih
        exact Lp.last KT [.reg [] [(0, .bit true)], .reg [] [(1, .row (i + 1) [I t])], .reg [] [(1, .bit false), (4, .bit true)], .reg [] []] [.keep [(2, [])]] (by kernel_rfl) (q (decide ((↑i : Int) + 1 < (↑(List.length us) : Int)) = true) (q ((↑i : Int) + 1 = (↑(i + 1) : Int)) (q ((ints us)[i + 1]? = some [I t]) (q (decide (t < -2000) = false) (q (decide (2000 < t) = true) ob0))))) (by intro h; cases h)
      · by_cases h3 : p ≥ t
        · simp only [goodC, decide_eq_true h3, Bool.or_true, Bool.not_true, Bool.false_and, Bool.false_eq_true, if_false]
          clear ih
          exact Lp.last KT [.reg [] [(0, .bit true)], .reg [] [(1, .row (i + 1) [I t])], .reg [] [(1, .bit false), (4, .bit false), (8, .bit true), (12, .int ((↑i : Int) + 1 - 1)), (13, .row i [I p]), (16, .bit true)], .reg [] []] [.keep [(2, [])]] (by kernel_rfl) (q (decide ((↑i : Int) + 1 < (↑(List.length us) : Int)) = true) (q ((↑i : Int) + 1 = (↑(i + 1) : Int)) (q ((ints us)[i + 1]? = some [I t]) (q (decide (t < -2000) = false) (q (decide (2000 < t) = false) (q (decide (0 < (↑i : Int) + 1) = true) (qw ((↑i : Int) + 1 - 1) (q ((↑i : Int) + 1 - 1 = (↑i : Int)) (q ((ints us)[i]? = some [I p]) (q (decide (t ≤ p) = true) ob0)))))))))) (by intro h; cases h)
        · simp only [goodC, decide_eq_false h1, decide_eq_false h2, decide_eq_false h3, Bool.or_false, Bool.not_false, Bool.true_and]
          exact Lp.next KT [.reg [] [(0, .bit true)], .reg [] [(1, .row (i + 1) [I t])], .reg [] [(1, .bit false), (4, .bit false), (8, .bit true), (12, .int ((↑i : Int) + 1 - 1)), (13, .row i [I p]), (16, .bit false)], .reg [] [(0, .int ((↑i : Int) + 1 + 1))]] [.keep [(0, []), (5, []), (6, []), (7, [])]] (by kernel_rfl) (q (decide ((↑i : Int) + 1 < (↑(List.length us) : Int)) = true) (q ((↑i : Int) + 1 = (↑(i + 1) : Int)) (q ((ints us)[i + 1]? = some [I t]) (q (decide (t < -2000) = false) (q (decide (2000 < t) = false) (q (decide (0 < (↑i : Int) + 1) = true) (qw ((↑i : Int) + 1 - 1) (q ((↑i : Int) + 1 - 1 = (↑i : Int)) (q ((ints us)[i]? = some [I p]) (q (decide (t ≤ p) = false) (qw ((↑i : Int) + 1 + 1) ob0))))))))))) (ih)

theorem good_loop (us : List Int) (hn : us.length ≤ 140737488351232) :
    Lp Tryz.prog 35 0 (loopN Tryz.f9 0) ⟨lookT [(0, .sl 1 (ints us) false), (5, .sl 1 (ints us) false), (6, I (us.length : Int)), (7, I 0)], []⟩
      (if goodC none us = true then .exit 0 else .ret) (if goodC none us = true then ⟨lookT [(0, .sl 1 (ints us) false)], []⟩ else ⟨lookT [(2, B false)], []⟩) := by
  cases us with
  | nil =>
    simp only [goodC, if_true]
    exact Lp.last KT [.reg [] []] [.keep [(0, [])]] (by kernel_rfl) ob0 (by intro h; cases h)
  | cons t us' =>
    have hx : (ints (t :: us'))[0]? = some [I t] := rfl
    have ih := good_loop0 (t :: us') hn us' 0 t rfl rfl
    have hi : 0 < (t :: us').length := by simp
    generalize ht : t :: us' = us at *
    have hg : goodC none us = (!(decide (t < -2000) || decide (t > 2000) || false) && goodC (some t) us') := by rw [← ht]; rfl
    clear ht
    rw [hg]
    simp only [Int.natCast_zero] at ih
    by_cases h1 : t < -2000
    · simp only [decide_eq_true h1, Bool.true_or, Bool.not_true, Bool.false_and, Bool.false_eq_true, if_false]
      clear ih
      exact Lp.last KT [.reg [] [(0, .bit true)], .reg [] [(1, .row 0 [I t])], .reg [] [(1, .bit true)], .reg [] []] [.keep [(2, [])]] (by kernel_rfl) (q (decide (0 < (↑(List.length us) : Int)) = true) (q (0 = (↑0 : Int)) (q ((ints us)[0]? = some [I t]) (q (decide (t < -2000) = true) ob0)))) (by intro h; cases h)
    · by_cases h2 : t > 2000
      · simp only [decide_eq_true h2, Bool.true_or, Bool.or_true, Bool.not_true, Bool.false_and, Bool.false_eq_true, if_false]
        clear ih
        exact Lp.last KT [.reg [] [(0, .bit true)], .reg [] [(1, .row 0 [I t])], .reg [] [(1, .bit false), (4, .bit true)], .reg [] []] [.keep [(2, [])]] (by kernel_rfl) (q (decide (0 < (↑(List.length us) : Int)) = true) (q (0 = (↑0 : Int)) (q ((ints us)[0]? = some [I t]) (q (decide (t < -2000) = false) (q (decide (2000 < t) = true) ob0))))) (by intro h; cases h)
      · simp only [decide_eq_false h1, decide_eq_false h2, Bool.or_false, Bool.not_false, Bool.true_and]
        exact Lp.next KT [.reg [] [(0, .bit true)], .reg [] [(1, .row 0 [I t])], .reg [] [(1, .bit false), (4, .bit false)], .reg [] []] [.keep [(0, []), (5, []), (6, []), (7, [])]] (by kernel_rfl) (q (decide (0 < (↑(List.length us) : Int)) = true) (q (0 = (↑0 : Int)) (q ((ints us)[0]? = some [I t]) (q (decide (t < -2000) = false) (q (decide (2000 < t) = false) ob0))))) (ih)

theorem good_ (us : List Int) (hn : us.length ≤ 140737488351232) : SoundCall Tryz.prog 9 [.sl 1 (ints us) false] [] (B (goodC none us && decide (us.length ≤ 3))) [] := by
  have lp := good_loop us hn
  cases h : goodC none us with
  | true =>
    simp only [h, if_true] at lp
    by_cases h3 : us.length ≤ 3
    · simp only [decide_eq_true h3, Bool.and_true]
      exact Fn.go KT Tryz.func9 [.reg [] [], .reg [] [(1, .int (↑(List.length us) : Int))], .loop [.keep [(0, []), (5, []), (6, []), (7, [])]] (Exit.exit 0) { tm := lookT [(0, AV.sl 1 (ints us) false)], st := [] }, .reg [] [(1, .int (↑(List.length us) : Int)), (2, .bit true)]] [] [] (B true) ([]) (by kernel_rfl) (q ((↑(List.length (ints us)) : Int) = (↑(List.length us) : Int)) (ob1 (lp) (q ((↑(List.length (ints us)) : Int) = (↑(List.length us) : Int)) (q (decide ((↑(List.length us) : Int) ≤ 3) = true) ob0))))
    · simp only [decide_eq_false h3, Bool.and_false]
      exact Fn.go KT Tryz.func9 [.reg [] [], .reg [] [(1, .int (↑(List.length us) : Int))], .loop [.keep [(0, []), (5, []), (6, []), (7, [])]] (Exit.exit 0) { tm := lookT [(0, AV.sl 1 (ints us) false)], st := [] }, .reg [] [(1, .int (↑(List.length us) : Int)), (2, .bit false)]] [] [] (B false) ([]) (by kernel_rfl) (q ((↑(List.length (ints us)) : Int) = (↑(List.length us) : Int)) (ob1 (lp) (q ((↑(List.length (ints us)) : Int) = (↑(List.length us) : Int)) (q (decide ((↑(List.length us) : Int) ≤ 3) = false) ob0))))
  | false =>
    simp only [h, Bool.false_eq_true, if_false] at lp
    simp only [Bool.false_and]
    exact Fn.go KT Tryz.func9 [.reg [] [], .reg [] [(1, .int (↑(List.length us) : Int))], .loop [.keep [(0, []), (5, []), (6, []), (7, [])]] Exit.ret { tm := lookT [(2, B false)], st := [] }] [] [] (B false) ([]) (by kernel_rfl) (q ((↑(List.length (ints us)) : Int) = (↑(List.length us) : Int)) (ob1 (lp) ob0))

def clC (n : Int) : List Int → Int → Int
  | [], k => k
  | t :: l, k => if t ≤ n then clC n l (k + 1) else clC n l k

theorem clC_bound (n : Int) : ∀ (l : List Int) (k : Int), k ≤ clC n l k ∧ clC n l k ≤ k + l.length
  | [], k => by simp [clC]
  | t :: l, k => by
    have h1 := clC_bound n l (k + 1)
    have h2 := clC_bound n l k
    simp only [clC, List.length_cons, Int.natCast_add, Int.natCast_one]
    split <;> omega

theorem class_loop (us : List Int) (n : Int) (hn : us.length ≤ 1000) : ∀ (us' : List Int) (i : Nat) (k : Int), us.drop i = us' → 0 ≤ k → k ≤ i →
    Lp Tryz.prog 21 0 (loopN Tryz.f10 0) ⟨lookT [(1, I n), (5, I k), (8, .sl 1 (ints us) false), (9, I (us.length : Int)), (10, I (i : Int))], []⟩
      (.exit 0) ⟨lookT [(5, I (clC n us' k))], []⟩
  | [], i, k, hd, h0, h1 => by
    have hi := drop_end hd
    simp only [clC]
    exact Lp.last KT [.reg [] [(0, .bit false)]] [.keep [(5, [])]] (by kernel_rfl) (q (decide ((↑i : Int) < (↑(List.length us) : Int)) = false) ob0) (by intro h; cases h)
  | t :: us', i, k, hd, h0, h1 => by
    have hi := drop_lt hd
    have hx : (ints us)[i]? = some [I t] := by rw [ints_get, drop_get hd]; rfl
    simp only [clC]
    by_cases h : t ≤ n
    · rw [if_pos h]
      have ih := class_loop us n hn us' (i + 1) (k + 1) (drop_next hd) (by omega) (by omega)
      simp only [Int.natCast_add, Int.natCast_one] at ih
      clear hd
      exact Lp.next KT [.reg [] [(0, .bit true)], .reg [] [(0, .row i [I t])], .reg [] [(2, .bit true)], .reg [] [(1, .int (k + 1))], .reg [] [(0, .int ((↑i : Int) + 1))]] [.keep [(1, []), (5, []), (8, []), (9, []), (10, [])]] (by kernel_rfl) (q (decide ((↑i : Int) < (↑(List.length us) : Int)) = true) (q ((↑i : Int) = (↑i : Int)) (q ((ints us)[i]? = some [I t]) (q (decide (t ≤ n) = true) (qw (k + 1) (qw ((↑i : Int) + 1) ob0)))))) (ih)
    · rw [if_neg h]
      have ih := class_loop us n hn us' (i + 1) k (drop_next hd) (by omega) (by omega)
      simp only [Int.natCast_add, Int.natCast_one] at ih
      clear hd
      exact Lp.next KT [.reg [] [(0, .bit true)], .reg [] [(0, .row i [I t])], .reg [] [(2, .bit false)], .reg [] [(0, .int ((↑i : Int) + 1))]] [.keep [(1, []), (5, []), (8, []), (9, []), (10, [])]] (by kernel_rfl) (q (decide ((↑i : Int) < (↑(List.length us) : Int)) = true) (q ((↑i : Int) = (↑i : Int)) (q ((ints us)[i]? = some [I t]) (q (decide (t ≤ n) = false) (qw ((↑i : Int) + 1) ob0))))) (ih)

theorem class_ (us : List Int) (n : Int) (hn : us.length ≤ 1000) : SoundCall Tryz.prog 10 [.sl 1 (ints us) false, I n] [] (I (clC n us 0)) [] := by
  have lp := class_loop us n hn us 0 0 rfl (by omega) (by omega)
  exact Fn.go KT Tryz.func10 [.reg [] [], .reg [] [], .reg [] [(1, .int (↑(List.length us) : Int))], .loop [.keep [(1, []), (5, []), (8, []), (9, []), (10, [])]] (Exit.exit 0) { tm := lookT [(5, I (clC n us 0))], st := [] }, .reg [] []] [] [] (I (clC n us 0)) ([]) (by kernel_rfl) (q ((↑(List.length (ints us)) : Int) = (↑(List.length us) : Int)) (ob1 (lp) ob0))

theorem Class_ (us : List Int) (n : Int) (hn : us.length ≤ 140737488351232) :
    SoundCall Tryz.prog 5 [.sl 1 (ints us) false, I n] [] (if (goodC none us && decide (us.length ≤ 3)) = true then .tup [I (clC n us 0), I 0] else .tup [I 0, I 2]) [] := by
  have hg := good_ us hn
  cases h : (goodC none us && decide (us.length ≤ 3)) with
  | true =>
    rw [h] at hg
    have h3 : us.length ≤ 3 := by simp only [Bool.and_eq_true, decide_eq_true_eq] at h; exact h.2
    have hc := class_ us n (by omega)
    simp only [if_true]
    clear hn h
    exact Fn.go KT Tryz.func5 [.reg [] [], .reg [] [(1, .call (B true) [])], .reg [] [(2, .call (I (clC n us 0)) [])]] [] [] (AV.tup [I (clC n us 0), I 0]) ([]) (by kernel_rfl) (ob1 (hg) (ob1 (hc) ob0))
  | false =>
    rw [h] at hg
    simp only [Bool.false_eq_true, if_false]
    clear h
    exact Fn.go KT Tryz.func5 [.reg [] [], .reg [] [(1, .call (B false) [])], .reg [] []] [] [] (AV.tup [I 0, I 2]) ([]) (by kernel_rfl) (ob1 (hg) ob0)

end Go.Ae

/- The law FoldClasses returns true. -/
import Derived.Test.YtpcnfjddleceiabFcEG2
namespace Go.Ae
open Go.Proofs

def atC (m : Int) : List Int → Int → Int
  | [], k => k
  | t :: l, k => if t = m then atC m l 1 else atC m l k

theorem atC_mem (m : Int) : ∀ (l : List Int) (k : Int), atC m l k = if m ∈ l then 1 else k
  | [], k => by simp [atC]
  | t :: l, k => by
    simp only [atC, List.mem_cons]
    by_cases h : t = m
    · rw [if_pos h, atC_mem m l 1]
      simp [h.symm]
    · rw [if_neg h, atC_mem m l k]
      have : ¬ m = t := fun e => h e.symm
      simp [this]

theorem goodC_gt : ∀ (l : List Int) (p : Int), goodC (some p) l = true → ∀ x ∈ l, p < x
  | [], p, _ => by simp
  | t :: l, p, h => by
    simp only [goodC, Bool.and_eq_true, Bool.not_eq_true', Bool.or_eq_false_iff, decide_eq_false_iff_not] at h
    have h2 := goodC_gt l t h.2
    intro x hx
    rcases List.mem_cons.1 hx with rfl | hx
    · omega
    · have := h2 x hx; omega

theorem clC_shift (n : Int) : ∀ (l : List Int) (k : Int), clC n l (k + 1) = clC n l k + 1
  | [], k => rfl
  | t :: l, k => by
    simp only [clC]
    split
    · exact clC_shift n l (k + 1)
    · exact clC_shift n l k

theorem clC_next (n : Int) : ∀ (l : List Int) (prev : Option Int) (k : Int), goodC prev l = true → clC (n + 1) l k = clC n l k + (if n + 1 ∈ l then 1 else 0)
  | [], _, k, _ => by simp [clC]
  | t :: l, prev, k, h => by
    have hl : goodC (some t) l = true := by
      simp only [goodC, Bool.and_eq_true] at h
      exact h.2
    have hg := goodC_gt l t hl
    have ih := fun k => clC_next n l (some t) k hl
    simp only [clC, List.mem_cons]
    by_cases h1 : t ≤ n
    · rw [if_pos (by omega), if_pos h1, ih]
      by_cases h2 : n + 1 ∈ l
      · rw [if_pos h2, if_pos (.inr h2)]
      · rw [if_neg h2, if_neg (fun e => e.elim (fun e => by omega) h2)]
    · have hno : n + 1 ∉ l := fun hm => by have := hg _ hm; omega
      rw [if_neg h1]
      by_cases h2 : t = n + 1
      · rw [if_pos (by omega), if_pos (.inl h2.symm), ih, if_neg hno, clC_shift]
        omega
      · rw [if_neg (by omega), ih, if_neg hno, if_neg (fun e => e.elim (fun e => h2 e.symm) hno)]

theorem law_loop (us : List Int) (n c d : Int) (hn : us.length ≤ 3) (h1 : -1099511627776 < n) (h2 : n < 1099511627776) : ∀ (us' : List Int) (i : Nat) (k : Int), us.drop i = us' →
    Lp Try.prog 73 0 (loopN Try.f3 0) ⟨lookT [(0, .sl 1 (ints us) false), (1, I n), (5, I c), (7, I d), (9, I k), (44, .sl 1 (ints us) false), (45, I (us.length : Int)), (46, I (i : Int))], []⟩
      (.exit 0) ⟨lookT [(0, .sl 1 (ints us) false), (5, I c), (7, I d), (9, I (atC (n + 1) us' k))], []⟩
  | [], i, k, hd => by
    have hi := drop_end hd
    simp only [atC]
    exact Lp.last KT [.reg [] [(0, .bit false)]] [.keep [(0, []), (5, []), (7, []), (9, [])]] (by kernel_rfl) (q (decide ((↑i : Int) < (↑(List.length us) : Int)) = false) ob0) (by intro h; cases h)
  | t :: us', i, k, hd => by
    have hi := drop_lt hd
    have hx : (ints us)[i]? = some [I t] := by rw [ints_get, drop_get hd]; rfl
    have ih := fun k => law_loop us n c d hn h1 h2 us' (i + 1) k (drop_next hd)
    simp only [Int.natCast_add, Int.natCast_one] at ih
    clear hd
    simp only [atC]
    by_cases h : t = n + 1
    · rw [if_pos h]
      replace ih := ih 1
      exact Lp.next KT [.reg [] [(0, .bit true)], .reg [] [(0, .row i [I t])], .reg [] [(2, .int (n + 1)), (3, .bit true)], .reg [] [], .reg [] [(0, .int ((↑i : Int) + 1))]] [.keep [(0, []), (1, []), (5, []), (7, []), (9, []), (44, []), (45, []), (46, [])]] (by kernel_rfl) (q (decide ((↑i : Int) < (↑(List.length us) : Int)) = true) (q ((↑i : Int) = (↑i : Int)) (q ((ints us)[i]? = some [I t]) (qw (n + 1) (q ((t == n + 1) = true) (qw ((↑i : Int) + 1) ob0)))))) (ih)
    · rw [if_neg h]
      replace ih := ih k
      exact Lp.next KT [.reg [] [(0, .bit true)], .reg [] [(0, .row i [I t])], .reg [] [(2, .int (n + 1)), (3, .bit false)], .reg [] [(0, .int ((↑i : Int) + 1))]] [.keep [(0, []), (1, []), (5, []), (7, []), (9, []), (44, []), (45, []), (46, [])]] (by kernel_rfl) (q (decide ((↑i : Int) < (↑(List.length us) : Int)) = true) (q ((↑i : Int) = (↑i : Int)) (q ((ints us)[i]? = some [I t]) (qw (n + 1) (q ((t == n + 1) = false) (qw ((↑i : Int) + 1) ob0)))))) (ih)

theorem law_ (us : List Int) (n : Int) (hn : us.length ≤ 140737488351232) (hr : ir n) : SoundCall Try.prog 3 [.sl 1 (ints us) false, I n] [] (B true) [] := by
  have ha := alive_
  by_cases h1 : n ≥ 1099511627776
  · exact Fn.go KT Try.func3 [.reg [] [], .reg [] [(1, .bit true)], .reg [] [(0, .call (B true) [])]] [] [] (B true) ([]) (by kernel_rfl) (q (decide (1099511627776 ≤ n) = true) (ob1 (ha) ob0))
  · by_cases h2 : n ≤ -1099511627776
    · exact Fn.go KT Try.func3 [.reg [] [], .reg [] [(1, .bit false), (4, .bit true)], .reg [] [(0, .call (B true) [])]] [] [] (B true) ([]) (by kernel_rfl) (q (decide (1099511627776 ≤ n) = false) (q (decide (n ≤ -1099511627776) = true) (ob1 (ha) ob0)))
    · have hc := Class_ us n hn
      have hd := Class_ us (n + 1) hn
      cases h : (goodC none us && decide (us.length ≤ 3)) with
      | false =>
        rw [h] at hc hd
        simp only [Bool.false_eq_true, if_false] at hc hd
        clear h hr
        exact Fn.go KT Try.func3 [.reg [] [], .reg [] [(1, .bit false), (4, .bit false)], .reg [] [(2, .call (AV.tup [I 0, I 2]) [])], .reg [] [(2, .int (n + 1)), (3, .call (AV.tup [I 0, I 2]) [])], .reg [] [], .reg [] [(4, .call (B true) [])]] [] [] (B true) ([]) (by kernel_rfl) (q (decide (1099511627776 ≤ n) = false) (q (decide (n ≤ -1099511627776) = false) (ob1 (hc) (qw (n + 1) (ob1 (hd) (ob1 (ha) ob0))))))
      | true =>
        rw [h] at hc hd
        simp only [Bool.and_eq_true, decide_eq_true_eq] at h
        simp only [if_true] at hc hd
        have lp := law_loop us n (clC n us 0) (clC (n + 1) us 0) h.2 (by omega) (by omega) us 0 0 rfl
        have b1 := clC_bound n us 0
        have b2 := clC_bound (n + 1) us 0
        have b3 := clC_next n us none 0 h.1
        have b4 := atC_mem (n + 1) us 0
        rw [← b4] at b3
        have b5 : atC (n + 1) us 0 = 0 ∨ atC (n + 1) us 0 = 1 := by rw [b4]; split <;> simp
        have h3 := h.2
        clear h hr b4
        generalize atC (n + 1) us 0 = A at *
        generalize clC n us 0 = C at *
        generalize clC (n + 1) us 0 = D at *
        subst b3
        exact Fn.go KT Try.func3 [.reg [] [], .reg [] [(1, .bit false), (4, .bit false)], .reg [] [(2, .call (AV.tup [I C, I 0]) [])], .reg [] [(2, .int (n + 1)), (3, .call (AV.tup [I (C + A), I 0]) [])], .reg [] [], .reg [] [], .reg [] [(1, .int (↑(List.length us) : Int))], .loop [.keep [(0, []), (1, []), (5, []), (7, []), (9, []), (44, []), (45, []), (46, [])]] (Exit.exit 0) { tm := lookT [(0, AV.sl 1 (ints us) false), (5, I C), (7, I (C + A)), (9, I A)], st := [] }, .reg [] [(3, .int (C + A)), (4, .bit true), (7, .bit true), (12, .int (↑(List.length us) : Int)), (13, .bit true), (16, .call (B true) [])]] [] [] (B true) ([]) (by kernel_rfl) (q (decide (1099511627776 ≤ n) = false) (q (decide (n ≤ -1099511627776) = false) (ob1 (hc) (qw (n + 1) (ob1 (hd) (q ((↑(List.length (ints us)) : Int) = (↑(List.length us) : Int)) (ob1 (lp) (qw (C + A) (q ((C + A == C + A) = true) (q (decide (0 ≤ C) = true) (q ((↑(List.length (ints us)) : Int) = (↑(List.length us) : Int)) (q (decide (C + A ≤ (↑(List.length us) : Int)) = true) (ob1 (ha) ob0)))))))))))))

end Go.Ae

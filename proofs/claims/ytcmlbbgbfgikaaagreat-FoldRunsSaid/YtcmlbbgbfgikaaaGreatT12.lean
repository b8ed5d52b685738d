/- Part 12 of the proof: AeRRMA, AeRRG1, AeRRNF2, AeRRNF3, AeRRND1, AeRRNF11, AeRRNF12, AeRRNF13, AeRRNF14, AeRRNF15, AeRRNF16, AeRRNF17, AeRRNF18. -/
import Derived.Test.YtcmlbbgbfgikaaaGreatT11
import Derived.Test.YtcmlbbgbfgikaaaGreatProg
set_option linter.unusedSimpArgs false
set_option linter.unusedVariables false
namespace Go.Ae
open Go.Proofs

set_option maxHeartbeats 0 in
theorem alive_ : SoundCall Tryz.prog 5 [] [] (.sc (.bool true)) [] := closed2 [(18, [.roO 2 18 9 7])] 400 60 (by kernel_rfl)

end Go.Ae
namespace Go.Ae
open Go.Proofs
theorem far_ (n : Int) : SC 4 [I n] [] (B (decide (1000 < n) && decide (n ≤ 1048576))) [] := by
 rcases dsp (1000 < n) with ⟨hb1, hb1'⟩ | ⟨hb1, hb1'⟩
 ·skip
  rcases dsp (n ≤ 1048576) with ⟨hb2, hb2'⟩ | ⟨hb2, hb2'⟩
  ·skip
   exact gR Tryz.func4 [rG, rS [(1, .bit true), (4, .bit true)]] [] [] (B true) ([]) (qT (1000 < n) (qT (n ≤ 1048576) ob0))
  ·skip
   exact gR Tryz.func4 [rG, rS [(1, .bit true), (4, .bit false)]] [] [] (B false) ([]) (qT (1000 < n) (qF (n ≤ 1048576) ob0))
 ·skip
  exact gR Tryz.func4 [rG, rS [(1, .bit false)]] [] [] (B false) ([]) (qF (1000 < n) ob0)
theorem sameInts_loop (us ws : List Int) (hn : us.length ≤ 281474976710656) (hl : us.length = ws.length) : ∀ (us' ws' : List Int) (i : Nat), us.drop i = us' → ws.drop i = ws' →
  Lp Tryz.prog 26 0 (loopN Tryz.f9 0) ⟨lookT [(0, .sl 1 (ints us) false), (1, .sl 1 (ints ws) false), (12, I (us.length : Int)), (13, I (i : Int))], []⟩
   (bif decide (us' = ws') then .exit 0 else .ret) (bif decide (us' = ws') then ⟨lookT [], []⟩ else ⟨lookT [(4, B false)], []⟩)
 | [], ws', i, h1, h2 => by
  have hi := drop_end h1
  have : ws' = [] := by rw [← h2, List.drop_eq_nil_iff]; omega
  subst this
  clear h1 h2
  simp only [decide_true, cond_true]
  exact lL [rS [(0, .bit false)]] [.keep []] (qF ((i : Int) < (us.length : Int)) ob0)
 | u :: us', [], i, h1, h2 => by
  have := drop_lt h1
  have := drop_end h2
  omega
 | u :: us', w :: ws', i, h1, h2 => by
  have hi := drop_lt h1
  have hi2 := drop_lt h2
  have hx : (ints us)[i]? = some [I u] := by rw [ints_get, drop_get h1]; rfl
  have hy : (ints ws)[i]? = some [I w] := by rw [ints_get, drop_get h2]; rfl
  have ih := sameInts_loop us ws hn hl us' ws' (i + 1) (drop_next h1) (drop_next h2)
  clear h1 h2
  simp only [Int.natCast_add] at ih
  by_cases h : u = w
  ·subst h
   have e : decide (u :: us' = u :: ws') = decide (us' = ws') := by simp
   rw [e]
   exact lN [rS [(0, .bit true)], rG, rS [(2, oW hx), (6, oW hy), (8, .bit false)], rS [(0, .int ((i : Int) + 1))]] [.keep [(0, []), (1, []), (12, []), (13, [])]] (qT ((i : Int) < (us.length : Int)) (qI i (ob1 hx (qI i (ob1 hy (qU (u != u) (qw ((i : Int) + 1) ob0))))))) (ih)
  ·have e : decide (u :: us' = w :: ws') = false := by simp [h]
   rw [e]
   clear ih e
   simp only [cond_false]
   exact lL [rS [(0, .bit true)], rG, rS [(2, oW hx), (6, oW hy), (8, .bit true)], rG] [.keep [(4, [])]] (qT ((i : Int) < (us.length : Int)) (qI i (ob1 hx (qI i (ob1 hy (qV (u != w) ob0))))))
theorem sameInts_ (us ws : List Int) (hn : us.length ≤ 281474976710656) : SC 9 [.sl 1 (ints us) false, .sl 1 (ints ws) false] [] (B (decide (us = ws))) [] := by
 by_cases hl : us.length = ws.length
 ·have lp := sameInts_loop us ws hn hl us ws 0 rfl rfl
  by_cases h : us = ws
  ·rw [decide_eq_true h] at lp ⊢
   simp only [cond_true] at lp
   clear h
   exact gF Tryz.func9 [rG, rS [(1, .int (us.length : Int)), (3, .int (ws.length : Int)), (4, .bit false)], rS [(1, .int (us.length : Int))], oL [.keep [(0, []), (1, []), (12, []), (13, [])]] lp, rG] (qN ints us (qN ints ws (qU ((us.length : Int) != (ws.length : Int)) (qN ints us (ob1 (lp) ob0)))))
  ·rw [decide_eq_false h] at lp ⊢
   simp only [cond_false] at lp
   clear h
   exact gF Tryz.func9 [rG, rS [(1, .int (us.length : Int)), (3, .int (ws.length : Int)), (4, .bit false)], rS [(1, .int (us.length : Int))], oL [.keep [(0, []), (1, []), (12, []), (13, [])]] lp] (qN ints us (qN ints ws (qU ((us.length : Int) != (ws.length : Int)) (qN ints us (ob1 (lp) ob0)))))
 ·have h : us ≠ ws := fun e => hl (by rw [e])
  rw [decide_eq_false h]
  clear h
  exact gF Tryz.func9 [rG, rS [(1, .int (us.length : Int)), (3, .int (ws.length : Int)), (4, .bit true)], rG] (qN ints us (qN ints ws (qV ((us.length : Int) != (ws.length : Int)) ob0)))
section
variable (es : List ByteArray) (ds : List Def) (mk mn mv mtk mtv : Int) (mtl : List Ty) (ml : List Expr) (cuts ch is : List Int) (fuel : Int)
theorem law_far (hf : ir fuel) (h : 1000 < fuel ∧ fuel ≤ 1048576) :
  SC 3 [.agg (Prog.enc ⟨es, ds, .mk mk mn mv (.mk mtk mtv mtl) ml⟩), .sl 1 (ints cuts) false, .sl 1 (ints ch) false, .sl 1 (ints is) false, I fuel] [] (B true) [] := by
 have ha := alive_
 have hfar := far_ fuel
 rw [show (decide (1000 < fuel) && decide (fuel ≤ 1048576)) = true by simpa using h] at hfar
 exact gF Tryz.func3 [rG, rS [(1, oC hfar)], rS [(0, oC ha)]] (ob1 (hfar) (ob1 (ha) ob0))
theorem law_bad (hnf : ¬ (1000 < fuel ∧ fuel ≤ 1048576)) (es' : List ByteArray) (ds' : List Def) (qk qn qv qtk qtv : Int) (qtl : List Ty) (ql : List Expr)
  (e : Int) (he : e ≠ 0)
  (hF : SC 6 [.agg (Prog.enc ⟨es, ds, .mk mk mn mv (.mk mtk mtv mtl) ml⟩), .sl 1 (ints cuts) false] [] (.tup [.agg (Prog.enc ⟨es', ds', .mk qk qn qv (.mk qtk qtv qtl) ql⟩), I e]) [])
  (hW : SC 7 [.agg (Prog.enc ⟨es, ds, .mk mk mn mv (.mk mtk mtv mtl) ml⟩), .sl 1 (ints cuts) false, .sl 1 (ints ch) false, .sl 1 (ints is) false, I fuel] [] (.tup [.nil, .agg [.sl 1 [] false, I 0, I 0, I 0], I e]) []) :
  SC 3 [.agg (Prog.enc ⟨es, ds, .mk mk mn mv (.mk mtk mtv mtl) ml⟩), .sl 1 (ints cuts) false, .sl 1 (ints ch) false, .sl 1 (ints is) false, I fuel] [] (B true) [] := by
 have ha := alive_
 have hfar := far_ fuel
 rw [show (decide (1000 < fuel) && decide (fuel ≤ 1048576)) = false by simpa using hnf] at hfar
 exact gF Tryz.func3 [rG, rS [(1, oC hfar)], rS [(2, oC hF)], rS [(5, oC hW)], rS [(1, .bit true)], rS [(2, .bit true), (8, oC ha)]] (ob1 (hfar) (ob1 (hF) (ob1 (hW) (qV (e != 0) (qV (e == e) (ob1 (ha) ob0))))))
theorem law_err (hnf : ¬ (1000 < fuel ∧ fuel ≤ 1048576)) (es' : List ByteArray) (ds' : List Def) (qk qn qv qtk qtv : Int) (qtl : List Ty) (ql : List Expr)
  (f : Int) (he : f ≠ 0)
  (hF : SC 6 [.agg (Prog.enc ⟨es, ds, .mk mk mn mv (.mk mtk mtv mtl) ml⟩), .sl 1 (ints cuts) false] [] (.tup [.agg (Prog.enc ⟨es', ds', .mk qk qn qv (.mk qtk qtv qtl) ql⟩), I 0]) [])
  (hW : SC 7 [.agg (Prog.enc ⟨es, ds, .mk mk mn mv (.mk mtk mtv mtl) ml⟩), .sl 1 (ints cuts) false, .sl 1 (ints ch) false, .sl 1 (ints is) false, I fuel] [] (.tup [.nil, .agg [.sl 1 [] false, I 0, I 0, I 0], I f]) []) :
  SC 3 [.agg (Prog.enc ⟨es, ds, .mk mk mn mv (.mk mtk mtv mtl) ml⟩), .sl 1 (ints cuts) false, .sl 1 (ints ch) false, .sl 1 (ints is) false, I fuel] [] (B true) [] := by
 have ha := alive_
 have hfar := far_ fuel
 rw [show (decide (1000 < fuel) && decide (fuel ≤ 1048576)) = false by simpa using hnf] at hfar
 exact gF Tryz.func3 [rG, rS [(1, oC hfar)], rS [(2, oC hF)], rS [(5, oC hW)], rS [(4, .bit true)], rS [(2, .bit false), (5, .bit true), (8, oC ha)]] (ob1 (hfar) (ob1 (hF) (ob1 (hW) (qV (f != 0) (qU (0 == f) (qV (f != 0) (ob1 (ha) ob0)))))))
theorem law_fine (hnf : ¬ (1000 < fuel ∧ fuel ≤ 1048576)) (es' : List ByteArray) (ds' : List Def) (qk qn qv qtk qtv : Int) (qtl : List Ty) (ql : List Expr)
  (h0 : 0 ≤ fuel) (h1 : fuel ≤ 1000) (o ev t : List Int) (us v : Int) (hel : ev.length ≤ 4096) (htl : t.length ≤ 4294967296) (hol : o.length ≤ 4096)
 (hF : SC 6 [.agg (Prog.enc ⟨es, ds, .mk mk mn mv (.mk mtk mtv mtl) ml⟩), .sl 1 (ints cuts) false] [] (.tup [.agg (Prog.enc ⟨es', ds', .mk qk qn qv (.mk qtk qtv qtl) ql⟩), I 0]) [])
  (en en2 v2 : Int) (hen : en ≠ 0)
  (hW : SC 7 [.agg (Prog.enc ⟨es, ds, .mk mk mn mv (.mk mtk mtv mtl) ml⟩), .sl 1 (ints cuts) false, .sl 1 (ints ch) false, .sl 1 (ints is) false, I fuel] [] (.tup [.sl 1 (ints o) false, .agg [.sl 1 (ints ev) false, I us, I en, I v], I 0]) [])
  (hD : SC 8 [.agg (Prog.enc ⟨es', ds', .mk qk qn qv (.mk qtk qtv qtl) ql⟩), .sl 1 (ints o) false, I (4 * fuel + 8)] [] (.tup [.agg [.sl 1 (ints (ev ++ t)) false, I (o.length : Int), I en2, I v2], I 0]) []) :
  SC 3 [.agg (Prog.enc ⟨es, ds, .mk mk mn mv (.mk mtk mtv mtl) ml⟩), .sl 1 (ints cuts) false, .sl 1 (ints ch) false, .sl 1 (ints is) false, I fuel] [] (B true) [] := by
 have ha := alive_
 have hfar := far_ fuel
 rw [show (decide (1000 < fuel) && decide (fuel ≤ 1048576)) = false by simpa using hnf] at hfar
 have hS : SC 9 [.sl 1 (List.take ev.length (ints (ev ++ t))) false, .sl 1 (ints ev) false] [] (B true) [] := by
  have e : List.take ev.length (ints (ev ++ t)) = ints ev := by rw [ints_append]; exact List.take_left' (by simp)
  rw [e]
  have := sameInts_ ev ev (by omega)
  rwa [decide_eq_true rfl] at this
 have htl2 : (ev ++ t).length = ev.length + t.length := by simp
 exact gF Tryz.func3 [rG, rS [(1, oC hfar)], rS [(2, oC hF)], rS [(5, oC hW)], rG, rS [(3, .int (4 * fuel)), (4, .int (4 * fuel + 8)), (5, oC hD)], rS [(5, .int ((ev.length : Int) + (t.length : Int))), (8, .int (ev.length : Int)), (9, .bit false), (16, .int (ev.length : Int)), (17, .rows (List.take (List.length ev) (ints (ev ++ t)))), (20, oC hS), (27, .int (o.length : Int)), (28, .bit false)], rS [(2, .bit true), (25, oC ha)]] (ob1 (hfar) (ob1 (hF) (ob1 (hW) (qw (4 * fuel) (qw (4 * fuel + 8) (ob1 (hD) (q ((↑(List.length (ints (ev ++ t))) : Int) = (ev.length : Int) + (t.length : Int)) (qN ints ev (qF ((ev.length : Int) + (t.length : Int) < (ev.length : Int)) (qN ints ev (q ((0 : Int) ≤ Option.getD none (0 : Int)) (q (Option.getD none (0 : Int) ≤ Option.getD (some (ev.length : Int)) (↑(List.length (ints (ev ++ t))) : Int)) (q (Option.getD (some (ev.length : Int)) (↑(List.length (ints (ev ++ t))) : Int) ≤ (↑(List.length (ints (ev ++ t))) : Int)) (q (List.drop (Int.toNat (Option.getD none (0 : Int))) (List.take (Int.toNat (Option.getD (some (ev.length : Int)) (↑(List.length (ints (ev ++ t))) : Int))) (ints (ev ++ t))) = List.take (List.length ev) (ints (ev ++ t))) (ob1 (hS) (qN ints o (qU ((o.length : Int) != (o.length : Int)) (qV (en != 0) (ob1 (ha) ob0)))))))))))))))))))
theorem law_done (hnf : ¬ (1000 < fuel ∧ fuel ≤ 1048576)) (es' : List ByteArray) (ds' : List Def) (qk qn qv qtk qtv : Int) (qtl : List Ty) (ql : List Expr)
  (h0 : 0 ≤ fuel) (h1 : fuel ≤ 1000) (o ev t : List Int) (us v : Int) (hel : ev.length ≤ 4096) (htl : t.length ≤ 4294967296) (hol : o.length ≤ 4096)
 (hF : SC 6 [.agg (Prog.enc ⟨es, ds, .mk mk mn mv (.mk mtk mtv mtl) ml⟩), .sl 1 (ints cuts) false] [] (.tup [.agg (Prog.enc ⟨es', ds', .mk qk qn qv (.mk qtk qtv qtl) ql⟩), I 0]) [])
  (hW : SC 7 [.agg (Prog.enc ⟨es, ds, .mk mk mn mv (.mk mtk mtv mtl) ml⟩), .sl 1 (ints cuts) false, .sl 1 (ints ch) false, .sl 1 (ints is) false, I fuel] [] (.tup [.sl 1 (ints o) false, .agg [.sl 1 (ints ev) false, I us, I 0, I v], I 0]) [])
  (hD : SC 8 [.agg (Prog.enc ⟨es', ds', .mk qk qn qv (.mk qtk qtv qtl) ql⟩), .sl 1 (ints o) false, I (4 * fuel + 8)] [] (.tup [.agg [.sl 1 (ints ev) false, I (o.length : Int), I 0, I v], I 0]) []) :
  SC 3 [.agg (Prog.enc ⟨es, ds, .mk mk mn mv (.mk mtk mtv mtl) ml⟩), .sl 1 (ints cuts) false, .sl 1 (ints ch) false, .sl 1 (ints is) false, I fuel] [] (B true) [] := by
 have ha := alive_
 have hfar := far_ fuel
 rw [show (decide (1000 < fuel) && decide (fuel ≤ 1048576)) = false by simpa using hnf] at hfar
 have hS : SC 9 [.sl 1 (List.take ev.length (ints ev)) false, .sl 1 (ints ev) false] [] (B true) [] := by
  have e : List.take ev.length (ints ev) = ints ev := List.take_of_length_le (by simp)
  rw [e]
  have := sameInts_ ev ev (by omega)
  rwa [decide_eq_true rfl] at this
 exact gF Tryz.func3 [rG, rS [(1, oC hfar)], rS [(2, oC hF)], rS [(5, oC hW)], rG, rS [(3, .int (4 * fuel)), (4, .int (4 * fuel + 8)), (5, oC hD)], rS [(5, .int (ev.length : Int)), (8, .int (ev.length : Int)), (9, .bit false), (16, .int (ev.length : Int)), (17, .rows (List.take (List.length ev) (ints ev))), (20, oC hS), (27, .int (o.length : Int)), (28, .bit false)], rS [(12, .bit true), (17, .int (ev.length : Int)), (20, .int (ev.length : Int)), (21, .bit true), (25, oC ha)]] (ob1 (hfar) (ob1 (hF) (ob1 (hW) (qw (4 * fuel) (qw (4 * fuel + 8) (ob1 (hD) (qN ints ev (qN ints ev (qF ((ev.length : Int) < (ev.length : Int)) (qN ints ev (q ((0 : Int) ≤ Option.getD none (0 : Int)) (q (Option.getD none (0 : Int) ≤ Option.getD (some (ev.length : Int)) ((ints ev).length : Int)) (q (Option.getD (some (ev.length : Int)) ((ints ev).length : Int) ≤ ((ints ev).length : Int)) (q (List.drop (Int.toNat (Option.getD none (0 : Int))) (List.take (Int.toNat (Option.getD (some (ev.length : Int)) ((ints ev).length : Int))) (ints ev)) = List.take (List.length ev) (ints ev)) (ob1 (hS) (qN ints o (qU ((o.length : Int) != (o.length : Int)) (qV (v == v) (qN ints ev (qN ints ev (qV ((ev.length : Int) == (ev.length : Int)) (ob1 (ha) ob0))))))))))))))))))))))
end
end Go.Ae
namespace Go.Ae.N
open Go.Proofs
mutual
def tyC : Ty → Int → Bool × Int
 | .mk k v l, n =>
  if n - 1 < 0 then (false, n - 1)
  else if k = 0 then (decide (1 ≤ v) && decide (v ≤ 4) && decide (l.length = 0), n - 1)
  else if k = 1 then (if v = 0 ∧ l.length = 2 then tyCs l (n - 1) else (false, n - 1))
  else if k = 2 then (decide (v = 0) && decide (l.length = 0), n - 1)
  else (false, n - 1)
def tyCs : List Ty → Int → Bool × Int
 | [], n => (true, n)
 | t :: l, n => if (tyC t n).1 = true then tyCs l (tyC t n).2 else (false, (tyC t n).2)
end
mutual
theorem tyC_bound : ∀ (t : Ty) (n : Int), 0 ≤ n → -1 ≤ (tyC t n).2 ∧ (tyC t n).2 ≤ n ∧ ((tyC t n).1 = true → 0 ≤ (tyC t n).2)
 | .mk k v l, n, h => by
  simp only [tyC]
  split
  ·exact ⟨by simp; omega, by simp; omega, by simp⟩
  ·split
   ·exact ⟨by simp; omega, by simp; omega, fun _ => by simp; omega⟩
   ·split
    ·split
     ·have := tyCs_bound l (n - 1) (by omega)
      exact ⟨this.1, by omega, this.2.2⟩
     ·exact ⟨by simp; omega, by simp; omega, by simp⟩
    ·split
     ·exact ⟨by simp; omega, by simp; omega, fun _ => by simp; omega⟩
     ·exact ⟨by simp; omega, by simp; omega, by simp⟩
theorem tyCs_bound : ∀ (l : List Ty) (n : Int), 0 ≤ n → -1 ≤ (tyCs l n).2 ∧ (tyCs l n).2 ≤ n ∧ ((tyCs l n).1 = true → 0 ≤ (tyCs l n).2)
 | [], n, h => by exact ⟨by simp [tyCs]; omega, by simp [tyCs], by simp [tyCs]; omega⟩
 | t :: l, n, h => by
  have h1 := tyC_bound t n h
  simp only [tyCs]
  split
  ·rename_i hc
   have h2 := tyCs_bound l (tyC t n).2 (h1.2.2 hc)
   exact ⟨h2.1, by omega, h2.2.2⟩
  ·exact ⟨h1.1, h1.2.1, by simp⟩
end
theorem tyC_two (k v n : Int) (a b : Ty) : tyC (.mk k v [a, b]) n = if n - 1 < 0 then (false, n - 1) else if k = 0 then (false, n - 1) else if k = 1 then
  (if v = 0 then (if (tyC a (n - 1)).1 = true then tyC b (tyC a (n - 1)).2 else (false, (tyC a (n - 1)).2)) else (false, n - 1)) else (false, n - 1) := by
 rw [tyC]
 simp only [List.length_cons, List.length_nil]
 split
 ·rfl
 ·split
  ·simp
  ·split
   ·by_cases hv : v = 0
    ·simp only [hv, tyCs]
     simp only [true_and, if_true]
     split
     ·rcases h : tyC b (tyC a (n - 1)).2 with ⟨x, y⟩
      cases x <;> rfl
     ·rfl
    ·simp [hv]
   ·split
    ·simp
    ·rfl
theorem ty_ : ∀ (t : Ty) (n : Int), t.ok → 0 ≤ n → n ≤ 1000 → SC 93 [.agg [B true], .agg t.enc, .lp 0 0] [.cells [I n] []] (B (tyC t n).1) [.cells [I (tyC t n).2] []]
 | .mk k v [], n, hok, h1, h2 => by
  rcases dsp (n - 1 < 0) with ⟨hb1, hb1'⟩ | ⟨hb1, hb1'⟩
  ·skip
   exact gR Tryz.func93 [rG, rS [(3, .int (n - 1))], rS [(3, .bit true)], rG] [] [] (B false) ([.cells [I (n - 1)] []]) (qw (n - 1) (qT (n - 1 < 0) ob0)) (by (simp [tyC, *])) (by (simp [tyC, *]))
  ·skip
   rcases bsp (k) (0) with ⟨hb2, hb2'⟩ | ⟨hb2, hb2'⟩
   ·skip
    rcases dsp (1 ≤ v) with ⟨hb3, hb3'⟩ | ⟨hb3, hb3'⟩
    ·skip
     rcases dsp (v ≤ 4) with ⟨hb4, hb4'⟩ | ⟨hb4, hb4'⟩
     ·skip
      exact gR Tryz.func93 [rG, rS [(3, .int (n - 1))], rS [(3, .bit false)], rS [(2, .bit true)], rS [(2, .bit true), (6, .bit true)]] [] [] (B true) ([.cells [I (n - 1)] []]) (qw (n - 1) (qF (n - 1 < 0) (qV (k == 0) (qT (1 ≤ v) (qT (v ≤ 4) ob0))))) (by (simp [tyC, *])) (by (simp [tyC, *]))
     ·skip
      exact gR Tryz.func93 [rG, rS [(3, .int (n - 1))], rS [(3, .bit false)], rS [(2, .bit true)], rS [(2, .bit true), (6, .bit false)]] [] [] (B false) ([.cells [I (n - 1)] []]) (qw (n - 1) (qF (n - 1 < 0) (qV (k == 0) (qT (1 ≤ v) (qF (v ≤ 4) ob0))))) (by (simp [tyC, *])) (by (simp [tyC, *]))
    ·skip
     exact gR Tryz.func93 [rG, rS [(3, .int (n - 1))], rS [(3, .bit false)], rS [(2, .bit true)], rS [(2, .bit false)]] [] [] (B false) ([.cells [I (n - 1)] []]) (qw (n - 1) (qF (n - 1 < 0) (qV (k == 0) (qF (1 ≤ v) ob0)))) (by (simp [tyC, *])) (by (simp [tyC, *]))
   ·skip
    rcases bsp (k) (1) with ⟨hb3, hb3'⟩ | ⟨hb3, hb3'⟩
    ·skip
     rcases bsp (v) (0) with ⟨hb4, hb4'⟩ | ⟨hb4, hb4'⟩
     ·skip
      exact gR Tryz.func93 [rG, rS [(3, .int (n - 1))], rS [(3, .bit false)], rS [(2, .bit false)], rS [(2, .bit true)], rS [(2, .bit true)]] [] [] (B false) ([.cells [I (n - 1)] []]) (qw (n - 1) (qF (n - 1 < 0) (qU (k == 0) (qV (k == 1) (qV (v == 0) ob0))))) (by (simp [tyC, *])) (by (simp [tyC, *]))
     ·skip
      exact gR Tryz.func93 [rG, rS [(3, .int (n - 1))], rS [(3, .bit false)], rS [(2, .bit false)], rS [(2, .bit true)], rS [(2, .bit false)]] [] [] (B false) ([.cells [I (n - 1)] []]) (qw (n - 1) (qF (n - 1 < 0) (qU (k == 0) (qV (k == 1) (qU (v == 0) ob0))))) (by (simp [tyC, *])) (by (simp [tyC, *]))
    ·skip
     rcases bsp (k) (2) with ⟨hb4, hb4'⟩ | ⟨hb4, hb4'⟩
     ·skip
      rcases bsp (v) (0) with ⟨hb5, hb5'⟩ | ⟨hb5, hb5'⟩
      ·skip
       exact gR Tryz.func93 [rG, rS [(3, .int (n - 1))], rS [(3, .bit false)], rS [(2, .bit false)], rS [(2, .bit false)], rS [(5, .bit true), (10, .bit true)]] [] [] (B true) ([.cells [I (n - 1)] []]) (qw (n - 1) (qF (n - 1 < 0) (qU (k == 0) (qU (k == 1) (qV (k == 2) (qV (v == 0) ob0)))))) (by (simp [tyC, *])) (by (simp [tyC, *]))
      ·skip
       exact gR Tryz.func93 [rG, rS [(3, .int (n - 1))], rS [(3, .bit false)], rS [(2, .bit false)], rS [(2, .bit false)], rS [(5, .bit true), (10, .bit false)]] [] [] (B false) ([.cells [I (n - 1)] []]) (qw (n - 1) (qF (n - 1 < 0) (qU (k == 0) (qU (k == 1) (qV (k == 2) (qU (v == 0) ob0)))))) (by (simp [tyC, *])) (by (simp [tyC, *]))
     ·skip
      exact gR Tryz.func93 [rG, rS [(3, .int (n - 1))], rS [(3, .bit false)], rS [(2, .bit false)], rS [(2, .bit false)], rS [(5, .bit false)]] [] [] (B false) ([.cells [I (n - 1)] []]) (qw (n - 1) (qF (n - 1 < 0) (qU (k == 0) (qU (k == 1) (qU (k == 2) ob0))))) (by (simp [tyC, *])) (by (simp [tyC, *]))
 | .mk k v [a], n, hok, h1, h2 => by
  rcases dsp (n - 1 < 0) with ⟨hb1, hb1'⟩ | ⟨hb1, hb1'⟩
  ·skip
   exact gR Tryz.func93 [rG, rS [(3, .int (n - 1))], rS [(3, .bit true)], rG] [] [] (B false) ([.cells [I (n - 1)] []]) (qw (n - 1) (qT (n - 1 < 0) ob0)) (by (simp [tyC, *])) (by (simp [tyC, *]))
  ·skip
   rcases bsp (k) (0) with ⟨hb2, hb2'⟩ | ⟨hb2, hb2'⟩
   ·skip
    rcases dsp (1 ≤ v) with ⟨hb3, hb3'⟩ | ⟨hb3, hb3'⟩
    ·skip
     rcases dsp (v ≤ 4) with ⟨hb4, hb4'⟩ | ⟨hb4, hb4'⟩
     ·skip
      exact gR Tryz.func93 [rG, rS [(3, .int (n - 1))], rS [(3, .bit false)], rS [(2, .bit true)], rS [(2, .bit true), (6, .bit true)]] [] [] (B false) ([.cells [I (n - 1)] []]) (qw (n - 1) (qF (n - 1 < 0) (qV (k == 0) (qT (1 ≤ v) (qT (v ≤ 4) ob0))))) (by (simp [tyC, *])) (by (simp [tyC, *]))
     ·skip
      exact gR Tryz.func93 [rG, rS [(3, .int (n - 1))], rS [(3, .bit false)], rS [(2, .bit true)], rS [(2, .bit true), (6, .bit false)]] [] [] (B false) ([.cells [I (n - 1)] []]) (qw (n - 1) (qF (n - 1 < 0) (qV (k == 0) (qT (1 ≤ v) (qF (v ≤ 4) ob0))))) (by (simp [tyC, *])) (by (simp [tyC, *]))
    ·skip
     exact gR Tryz.func93 [rG, rS [(3, .int (n - 1))], rS [(3, .bit false)], rS [(2, .bit true)], rS [(2, .bit false)]] [] [] (B false) ([.cells [I (n - 1)] []]) (qw (n - 1) (qF (n - 1 < 0) (qV (k == 0) (qF (1 ≤ v) ob0)))) (by (simp [tyC, *])) (by (simp [tyC, *]))
   ·skip
    rcases bsp (k) (1) with ⟨hb3, hb3'⟩ | ⟨hb3, hb3'⟩
    ·skip
     rcases bsp (v) (0) with ⟨hb4, hb4'⟩ | ⟨hb4, hb4'⟩
     ·skip
      exact gR Tryz.func93 [rG, rS [(3, .int (n - 1))], rS [(3, .bit false)], rS [(2, .bit false)], rS [(2, .bit true)], rS [(2, .bit true)]] [] [] (B false) ([.cells [I (n - 1)] []]) (qw (n - 1) (qF (n - 1 < 0) (qU (k == 0) (qV (k == 1) (qV (v == 0) ob0))))) (by (simp [tyC, *])) (by (simp [tyC, *]))
     ·skip
      exact gR Tryz.func93 [rG, rS [(3, .int (n - 1))], rS [(3, .bit false)], rS [(2, .bit false)], rS [(2, .bit true)], rS [(2, .bit false)]] [] [] (B false) ([.cells [I (n - 1)] []]) (qw (n - 1) (qF (n - 1 < 0) (qU (k == 0) (qV (k == 1) (qU (v == 0) ob0))))) (by (simp [tyC, *])) (by (simp [tyC, *]))
    ·skip
     rcases bsp (k) (2) with ⟨hb4, hb4'⟩ | ⟨hb4, hb4'⟩
     ·skip
      rcases bsp (v) (0) with ⟨hb5, hb5'⟩ | ⟨hb5, hb5'⟩
      ·skip
       exact gR Tryz.func93 [rG, rS [(3, .int (n - 1))], rS [(3, .bit false)], rS [(2, .bit false)], rS [(2, .bit false)], rS [(5, .bit true), (10, .bit true)]] [] [] (B false) ([.cells [I (n - 1)] []]) (qw (n - 1) (qF (n - 1 < 0) (qU (k == 0) (qU (k == 1) (qV (k == 2) (qV (v == 0) ob0)))))) (by (simp [tyC, *])) (by (simp [tyC, *]))
      ·skip
       exact gR Tryz.func93 [rG, rS [(3, .int (n - 1))], rS [(3, .bit false)], rS [(2, .bit false)], rS [(2, .bit false)], rS [(5, .bit true), (10, .bit false)]] [] [] (B false) ([.cells [I (n - 1)] []]) (qw (n - 1) (qF (n - 1 < 0) (qU (k == 0) (qU (k == 1) (qV (k == 2) (qU (v == 0) ob0)))))) (by (simp [tyC, *])) (by (simp [tyC, *]))
     ·skip
      exact gR Tryz.func93 [rG, rS [(3, .int (n - 1))], rS [(3, .bit false)], rS [(2, .bit false)], rS [(2, .bit false)], rS [(5, .bit false)]] [] [] (B false) ([.cells [I (n - 1)] []]) (qw (n - 1) (qF (n - 1 < 0) (qU (k == 0) (qU (k == 1) (qU (k == 2) ob0))))) (by (simp [tyC, *])) (by (simp [tyC, *]))
 | .mk k v [.mk ka va la, .mk kb vb lb], n, hok, h1, h2 => by
  have hoa : (Ty.mk ka va la).ok := hok.2.2.2.1
  have hob : (Ty.mk kb vb lb).ok := hok.2.2.2.2.1
  by_cases h3 : n - 1 < 0
  ·exact gR Tryz.func93 [rG, rS [(3, .int (n - 1))], rS [(3, .bit true)], rG] [] [] (B false) ([.cells [I (n - 1)] []]) (qw (n - 1) (qT (n - 1 < 0) ob0)) (by (rw [tyC_two]; simp [*])) (by (rw [tyC_two]; simp [*]))
  ·have ba := tyC_bound (.mk ka va la) (n - 1) (by omega)
   have ha := ty_ (.mk ka va la) (n - 1) hoa (by omega) (by omega)
   by_cases h4 : (tyC (.mk ka va la) (n - 1)).1 = true
   ·have hb := ty_ (.mk kb vb lb) (tyC (.mk ka va la) (n - 1)).2 hob (ba.2.2 h4) (by omega)
    rw [h4] at ha
    clear hok hoa hob ba
    rcases bsp (k) (0) with ⟨hb1, hb1'⟩ | ⟨hb1, hb1'⟩
    ·skip
     rcases dsp (1 ≤ v) with ⟨hb2, hb2'⟩ | ⟨hb2, hb2'⟩
     ·skip
      rcases dsp (v ≤ 4) with ⟨hb3, hb3'⟩ | ⟨hb3, hb3'⟩
      ·skip
       exact gR Tryz.func93 [rG, rS [(3, .int (n - 1))], rS [(3, .bit false)], rS [(2, .bit true)], rS [(2, .bit true), (6, .bit true)]] [] [] (B false) ([.cells [I (n - 1)] []]) (qw (n - 1) (qF (n - 1 < 0) (qV (k == 0) (qT (1 ≤ v) (qT (v ≤ 4) ob0))))) (by (rw [tyC_two]; simp [*])) (by (rw [tyC_two]; simp [*]))
      ·skip
       exact gR Tryz.func93 [rG, rS [(3, .int (n - 1))], rS [(3, .bit false)], rS [(2, .bit true)], rS [(2, .bit true), (6, .bit false)]] [] [] (B false) ([.cells [I (n - 1)] []]) (qw (n - 1) (qF (n - 1 < 0) (qV (k == 0) (qT (1 ≤ v) (qF (v ≤ 4) ob0))))) (by (rw [tyC_two]; simp [*])) (by (rw [tyC_two]; simp [*]))
     ·skip
      exact gR Tryz.func93 [rG, rS [(3, .int (n - 1))], rS [(3, .bit false)], rS [(2, .bit true)], rS [(2, .bit false)]] [] [] (B false) ([.cells [I (n - 1)] []]) (qw (n - 1) (qF (n - 1 < 0) (qV (k == 0) (qF (1 ≤ v) ob0)))) (by (rw [tyC_two]; simp [*])) (by (rw [tyC_two]; simp [*]))
    ·skip
     rcases bsp (k) (1) with ⟨hb2, hb2'⟩ | ⟨hb2, hb2'⟩
     ·skip
      rcases bsp (v) (0) with ⟨hb3, hb3'⟩ | ⟨hb3, hb3'⟩
      ·skip
       rcases Bool.eq_false_or_eq_true (Prod.fst (tyC (Ty.mk kb vb lb) (Prod.snd (tyC (Ty.mk ka va la) (n - 1))))) with hb4 | hb4
       ·have hb4' := hb4
        try simp only [decide_eq_true_eq, decide_eq_false_iff_not, beq_iff_eq, bne_iff_ne, ne_eq, beq_eq_false_iff_ne, bne_eq_false_iff_eq, Bool.not_eq_true'] at hb4'
        exact gR Tryz.func93 [rG, rS [(3, .int (n - 1))], rS [(3, .bit false)], rS [(2, .bit false)], rS [(2, .bit true)], rS [(2, .bit true), (13, .row 0 (xT ka va la)), (16, oC ha), (22, .row 1 (xT kb vb lb)), (25, .call (B true) [.cells [I (Prod.snd (tyC (Ty.mk kb vb lb) (Prod.snd (tyC (Ty.mk ka va la) (n - 1)))))] []])]] [] [] (B true) ([.cells [I (Prod.snd (tyC (Ty.mk kb vb lb) (Prod.snd (tyC (Ty.mk ka va la) (n - 1)))))] []]) (qw (n - 1) (qF (n - 1 < 0) (qU (k == 0) (qV (k == 1) (qV (v == 0) (qI 0 (qC0 ((xT ka va la)) [(xT kb vb lb)] (ob1 (ha) (qI 1 (qC1 ((xT ka va la)) ((xT kb vb lb)) [] (ob1 (SoundCall.to (hb) (pf (B (Prod.fst (tyC (Ty.mk kb vb lb) (Prod.snd (tyC (Ty.mk ka va la) (n - 1))))) = B true)) rfl) ob0))))))))))) (by (rw [tyC_two]; simp [*])) (by (rw [tyC_two]; simp [*]))
       ·have hb4' := hb4
        try simp only [decide_eq_true_eq, decide_eq_false_iff_not, beq_iff_eq, bne_iff_ne, ne_eq, beq_eq_false_iff_ne, bne_eq_false_iff_eq, Bool.not_eq_true'] at hb4'
        exact gR Tryz.func93 [rG, rS [(3, .int (n - 1))], rS [(3, .bit false)], rS [(2, .bit false)], rS [(2, .bit true)], rS [(2, .bit true), (13, .row 0 (xT ka va la)), (16, oC ha), (22, .row 1 (xT kb vb lb)), (25, .call (B false) [.cells [I (Prod.snd (tyC (Ty.mk kb vb lb) (Prod.snd (tyC (Ty.mk ka va la) (n - 1)))))] []])]] [] [] (B false) ([.cells [I (Prod.snd (tyC (Ty.mk kb vb lb) (Prod.snd (tyC (Ty.mk ka va la) (n - 1)))))] []]) (qw (n - 1) (qF (n - 1 < 0) (qU (k == 0) (qV (k == 1) (qV (v == 0) (qI 0 (qC0 ((xT ka va la)) [(xT kb vb lb)] (ob1 (ha) (qI 1 (qC1 ((xT ka va la)) ((xT kb vb lb)) [] (ob1 (SoundCall.to (hb) (pf (B (Prod.fst (tyC (Ty.mk kb vb lb) (Prod.snd (tyC (Ty.mk ka va la) (n - 1))))) = B false)) rfl) ob0))))))))))) (by (rw [tyC_two]; simp [*])) (by (rw [tyC_two]; simp [*]))
      ·skip
       exact gR Tryz.func93 [rG, rS [(3, .int (n - 1))], rS [(3, .bit false)], rS [(2, .bit false)], rS [(2, .bit true)], rS [(2, .bit false)]] [] [] (B false) ([.cells [I (n - 1)] []]) (qw (n - 1) (qF (n - 1 < 0) (qU (k == 0) (qV (k == 1) (qU (v == 0) ob0))))) (by (rw [tyC_two]; simp [*])) (by (rw [tyC_two]; simp [*]))
     ·skip
      rcases bsp (k) (2) with ⟨hb3, hb3'⟩ | ⟨hb3, hb3'⟩
      ·skip
       rcases bsp (v) (0) with ⟨hb4, hb4'⟩ | ⟨hb4, hb4'⟩
       ·skip
        exact gR Tryz.func93 [rG, rS [(3, .int (n - 1))], rS [(3, .bit false)], rS [(2, .bit false)], rS [(2, .bit false)], rS [(5, .bit true), (10, .bit true)]] [] [] (B false) ([.cells [I (n - 1)] []]) (qw (n - 1) (qF (n - 1 < 0) (qU (k == 0) (qU (k == 1) (qV (k == 2) (qV (v == 0) ob0)))))) (by (rw [tyC_two]; simp [*])) (by (rw [tyC_two]; simp [*]))
       ·skip
        exact gR Tryz.func93 [rG, rS [(3, .int (n - 1))], rS [(3, .bit false)], rS [(2, .bit false)], rS [(2, .bit false)], rS [(5, .bit true), (10, .bit false)]] [] [] (B false) ([.cells [I (n - 1)] []]) (qw (n - 1) (qF (n - 1 < 0) (qU (k == 0) (qU (k == 1) (qV (k == 2) (qU (v == 0) ob0)))))) (by (rw [tyC_two]; simp [*])) (by (rw [tyC_two]; simp [*]))
      ·skip
       exact gR Tryz.func93 [rG, rS [(3, .int (n - 1))], rS [(3, .bit false)], rS [(2, .bit false)], rS [(2, .bit false)], rS [(5, .bit false)]] [] [] (B false) ([.cells [I (n - 1)] []]) (qw (n - 1) (qF (n - 1 < 0) (qU (k == 0) (qU (k == 1) (qU (k == 2) ob0))))) (by (rw [tyC_two]; simp [*])) (by (rw [tyC_two]; simp [*]))
   ·rw [Bool.not_eq_true] at h4
    rw [h4] at ha
    clear hok hoa hob ba
    rcases bsp (k) (0) with ⟨hb1, hb1'⟩ | ⟨hb1, hb1'⟩
    ·skip
     rcases dsp (1 ≤ v) with ⟨hb2, hb2'⟩ | ⟨hb2, hb2'⟩
     ·skip
      rcases dsp (v ≤ 4) with ⟨hb3, hb3'⟩ | ⟨hb3, hb3'⟩
      ·skip
       exact gR Tryz.func93 [rG, rS [(3, .int (n - 1))], rS [(3, .bit false)], rS [(2, .bit true)], rS [(2, .bit true), (6, .bit true)]] [] [] (B false) ([.cells [I (n - 1)] []]) (qw (n - 1) (qF (n - 1 < 0) (qV (k == 0) (qT (1 ≤ v) (qT (v ≤ 4) ob0))))) (by (rw [tyC_two]; simp [*])) (by (rw [tyC_two]; simp [*]))
      ·skip
       exact gR Tryz.func93 [rG, rS [(3, .int (n - 1))], rS [(3, .bit false)], rS [(2, .bit true)], rS [(2, .bit true), (6, .bit false)]] [] [] (B false) ([.cells [I (n - 1)] []]) (qw (n - 1) (qF (n - 1 < 0) (qV (k == 0) (qT (1 ≤ v) (qF (v ≤ 4) ob0))))) (by (rw [tyC_two]; simp [*])) (by (rw [tyC_two]; simp [*]))
     ·skip
      exact gR Tryz.func93 [rG, rS [(3, .int (n - 1))], rS [(3, .bit false)], rS [(2, .bit true)], rS [(2, .bit false)]] [] [] (B false) ([.cells [I (n - 1)] []]) (qw (n - 1) (qF (n - 1 < 0) (qV (k == 0) (qF (1 ≤ v) ob0)))) (by (rw [tyC_two]; simp [*])) (by (rw [tyC_two]; simp [*]))
    ·skip
     rcases bsp (k) (1) with ⟨hb2, hb2'⟩ | ⟨hb2, hb2'⟩
     ·skip
      rcases bsp (v) (0) with ⟨hb3, hb3'⟩ | ⟨hb3, hb3'⟩
      ·skip
       exact gR Tryz.func93 [rG, rS [(3, .int (n - 1))], rS [(3, .bit false)], rS [(2, .bit false)], rS [(2, .bit true)], rS [(2, .bit true), (13, .row 0 (xT ka va la)), (16, oC ha)]] [] [] (B false) ([.cells [I (Prod.snd (tyC (Ty.mk ka va la) (n - 1)))] []]) (qw (n - 1) (qF (n - 1 < 0) (qU (k == 0) (qV (k == 1) (qV (v == 0) (qI 0 (qC0 ((xT ka va la)) [(xT kb vb lb)] (ob1 (ha) ob0)))))))) (by (rw [tyC_two]; simp [*])) (by (rw [tyC_two]; simp [*]))
      ·skip
       exact gR Tryz.func93 [rG, rS [(3, .int (n - 1))], rS [(3, .bit false)], rS [(2, .bit false)], rS [(2, .bit true)], rS [(2, .bit false)]] [] [] (B false) ([.cells [I (n - 1)] []]) (qw (n - 1) (qF (n - 1 < 0) (qU (k == 0) (qV (k == 1) (qU (v == 0) ob0))))) (by (rw [tyC_two]; simp [*])) (by (rw [tyC_two]; simp [*]))
     ·skip
      rcases bsp (k) (2) with ⟨hb3, hb3'⟩ | ⟨hb3, hb3'⟩
      ·skip
       rcases bsp (v) (0) with ⟨hb4, hb4'⟩ | ⟨hb4, hb4'⟩
       ·skip
        exact gR Tryz.func93 [rG, rS [(3, .int (n - 1))], rS [(3, .bit false)], rS [(2, .bit false)], rS [(2, .bit false)], rS [(5, .bit true), (10, .bit true)]] [] [] (B false) ([.cells [I (n - 1)] []]) (qw (n - 1) (qF (n - 1 < 0) (qU (k == 0) (qU (k == 1) (qV (k == 2) (qV (v == 0) ob0)))))) (by (rw [tyC_two]; simp [*])) (by (rw [tyC_two]; simp [*]))
       ·skip
        exact gR Tryz.func93 [rG, rS [(3, .int (n - 1))], rS [(3, .bit false)], rS [(2, .bit false)], rS [(2, .bit false)], rS [(5, .bit true), (10, .bit false)]] [] [] (B false) ([.cells [I (n - 1)] []]) (qw (n - 1) (qF (n - 1 < 0) (qU (k == 0) (qU (k == 1) (qV (k == 2) (qU (v == 0) ob0)))))) (by (rw [tyC_two]; simp [*])) (by (rw [tyC_two]; simp [*]))
      ·skip
       exact gR Tryz.func93 [rG, rS [(3, .int (n - 1))], rS [(3, .bit false)], rS [(2, .bit false)], rS [(2, .bit false)], rS [(5, .bit false)]] [] [] (B false) ([.cells [I (n - 1)] []]) (qw (n - 1) (qF (n - 1 < 0) (qU (k == 0) (qU (k == 1) (qU (k == 2) ob0))))) (by (rw [tyC_two]; simp [*])) (by (rw [tyC_two]; simp [*]))
 | .mk k v (a :: b :: c :: l), n, hok, h1, h2 => by
  have hl : l.length ≤ 281474976710656 := by have := hok.2.2.1; simp at this; omega
  clear hok
  rcases dsp (n - 1 < 0) with ⟨hb1, hb1'⟩ | ⟨hb1, hb1'⟩
  ·skip
   exact gR Tryz.func93 [rG, rS [(3, .int (n - 1))], rS [(3, .bit true)], rG] [] [] (B false) ([.cells [I (n - 1)] []]) (qw (n - 1) (qT (n - 1 < 0) ob0)) (by (simp [tyC, *])) (by (simp [tyC, *]))
  ·skip
   rcases bsp (k) (0) with ⟨hb2, hb2'⟩ | ⟨hb2, hb2'⟩
   ·skip
    rcases dsp (1 ≤ v) with ⟨hb3, hb3'⟩ | ⟨hb3, hb3'⟩
    ·skip
     rcases dsp (v ≤ 4) with ⟨hb4, hb4'⟩ | ⟨hb4, hb4'⟩
     ·skip
      exact gR Tryz.func93 [rG, rS [(3, .int (n - 1))], rS [(3, .bit false)], rS [(2, .bit true)], rS [(2, .bit true), (6, .bit true), (11, .int ((l.length : Int) + 1 + 1 + 1))]] [] [] (B false) ([.cells [I (n - 1)] []]) (qw (n - 1) (qF (n - 1 < 0) (qV (k == 0) (qT (1 ≤ v) (qT (v ≤ 4) (q ((↑(List.length (Ty.enc a :: Ty.enc b :: Ty.enc c :: Ty.encs l)) : Int) = (l.length : Int) + 1 + 1 + 1) ob0)))))) (by (simp [tyC, *])) (by (simp [tyC, *]))
     ·skip
      exact gR Tryz.func93 [rG, rS [(3, .int (n - 1))], rS [(3, .bit false)], rS [(2, .bit true)], rS [(2, .bit true), (6, .bit false)]] [] [] (B false) ([.cells [I (n - 1)] []]) (qw (n - 1) (qF (n - 1 < 0) (qV (k == 0) (qT (1 ≤ v) (qF (v ≤ 4) ob0))))) (by (simp [tyC, *])) (by (simp [tyC, *]))
    ·skip
     exact gR Tryz.func93 [rG, rS [(3, .int (n - 1))], rS [(3, .bit false)], rS [(2, .bit true)], rS [(2, .bit false)]] [] [] (B false) ([.cells [I (n - 1)] []]) (qw (n - 1) (qF (n - 1 < 0) (qV (k == 0) (qF (1 ≤ v) ob0)))) (by (simp [tyC, *])) (by (simp [tyC, *]))
   ·skip
    rcases bsp (k) (1) with ⟨hb3, hb3'⟩ | ⟨hb3, hb3'⟩
    ·skip
     rcases bsp (v) (0) with ⟨hb4, hb4'⟩ | ⟨hb4, hb4'⟩
     ·skip
      exact gR Tryz.func93 [rG, rS [(3, .int (n - 1))], rS [(3, .bit false)], rS [(2, .bit false)], rS [(2, .bit true)], rS [(2, .bit true), (6, .int ((l.length : Int) + 1 + 1 + 1))]] [] [] (B false) ([.cells [I (n - 1)] []]) (qw (n - 1) (qF (n - 1 < 0) (qU (k == 0) (qV (k == 1) (qV (v == 0) (q ((↑(List.length (Ty.enc a :: Ty.enc b :: Ty.enc c :: Ty.encs l)) : Int) = (l.length : Int) + 1 + 1 + 1) ob0)))))) (by (simp [tyC, *])) (by (simp [tyC, *]))
     ·skip
      exact gR Tryz.func93 [rG, rS [(3, .int (n - 1))], rS [(3, .bit false)], rS [(2, .bit false)], rS [(2, .bit true)], rS [(2, .bit false)]] [] [] (B false) ([.cells [I (n - 1)] []]) (qw (n - 1) (qF (n - 1 < 0) (qU (k == 0) (qV (k == 1) (qU (v == 0) ob0))))) (by (simp [tyC, *])) (by (simp [tyC, *]))
    ·skip
     rcases bsp (k) (2) with ⟨hb4, hb4'⟩ | ⟨hb4, hb4'⟩
     ·skip
      rcases bsp (v) (0) with ⟨hb5, hb5'⟩ | ⟨hb5, hb5'⟩
      ·skip
       exact gR Tryz.func93 [rG, rS [(3, .int (n - 1))], rS [(3, .bit false)], rS [(2, .bit false)], rS [(2, .bit false)], rS [(5, .bit true), (10, .bit true), (15, .int ((l.length : Int) + 1 + 1 + 1))]] [] [] (B false) ([.cells [I (n - 1)] []]) (qw (n - 1) (qF (n - 1 < 0) (qU (k == 0) (qU (k == 1) (qV (k == 2) (qV (v == 0) (q ((↑(List.length (Ty.enc a :: Ty.enc b :: Ty.enc c :: Ty.encs l)) : Int) = (l.length : Int) + 1 + 1 + 1) ob0))))))) (by (simp [tyC, *])) (by (simp [tyC, *]))
      ·skip
       exact gR Tryz.func93 [rG, rS [(3, .int (n - 1))], rS [(3, .bit false)], rS [(2, .bit false)], rS [(2, .bit false)], rS [(5, .bit true), (10, .bit false)]] [] [] (B false) ([.cells [I (n - 1)] []]) (qw (n - 1) (qF (n - 1 < 0) (qU (k == 0) (qU (k == 1) (qV (k == 2) (qU (v == 0) ob0)))))) (by (simp [tyC, *])) (by (simp [tyC, *]))
     ·skip
      exact gR Tryz.func93 [rG, rS [(3, .int (n - 1))], rS [(3, .bit false)], rS [(2, .bit false)], rS [(2, .bit false)], rS [(5, .bit false)]] [] [] (B false) ([.cells [I (n - 1)] []]) (qw (n - 1) (qF (n - 1 < 0) (qU (k == 0) (qU (k == 1) (qU (k == 2) ob0))))) (by (simp [tyC, *])) (by (simp [tyC, *]))
termination_by t => SizeOf.sizeOf t
end Go.Ae.N
namespace Go.Ae.N
open Go.Proofs
theorem isTy_ (t : Ty) (hok : t.ok) : SC 60 [.agg [B true], .agg t.enc] [] (B (tyC t 20).1) [] := by
 have h := ty_ t 20 hok (by omega) (by omega)
 obtain ⟨k, v, l⟩ := t
 clear hok
 by_cases hb : (tyC (.mk k v l) 20).1 = true
 ·rw [hb] at h ⊢
  exact gF Tryz.func60 [rG, rG, rS [(2, oC h)]] (ob1 (h) ob0)
 ·rw [Bool.not_eq_true] at hb
  rw [hb] at h ⊢
  exact gF Tryz.func60 [rG, rG, rS [(2, oC h)]] (ob1 (h) ob0)
end Go.Ae.N
namespace Go.Ae.N
open Go.Proofs
def tyI : Ty := .mk 2 0 []
def addC (k n : Int) : Ty × Bool → Ty × Bool
 | (.mk xk _ _, b) => if b && decide (xk = 2) then (if k = 11 then (tyI, decide (n = 1) || decide (n = -1)) else (tyF 2, decide (-1000 ≤ n) && decide (n ≤ 1000))) else (tyZ, false)
noncomputable def tImp (p : Prog) : Expr → List Ty → Ty × Bool
 | .mk k n v ty l, sc =>
  if k = 0 then (tyF v, onlyC (.mk k n v ty l) true true false 0 && decide (1 ≤ v) && decide (v ≤ 4) && decide (0 ≤ n) && decide (n < v))
  else if k = 8 then (tyF v, onlyC (.mk k n v ty l) false true false 0 && decide (1 ≤ v) && decide (v ≤ 4))
  else if k = 1 then
   (if onlyC (.mk k n v ty l) true false false 0 && decide (0 ≤ n) && decide (n < (sc.length : Int)) then
    (match sc[sc.length - 1 - n.toNat]? with
    | some t => (t, true)
    | none => (tyZ, false)) else (tyZ, false))
  else if k = 2 then
   (if onlyC (.mk k n v ty l) true false false 0 && decide (0 ≤ n) && decide (n < (p.defs.length : Int)) then
    (match p.defs[n.toNat]? with
    | some d => (.mk 1 0 [d.param, d.result], (tyC (.mk 1 0 [d.param, d.result]) 20).1)
    | none => (tyZ, false)) else (tyZ, false))
  else if k = 7 then
   (match l with
   | [a] => if onlyC (.mk k n v ty [a]) true false false 1 && decide (0 ≤ n) && decide (n < (p.events.length : Int)) then tImp p a sc else (tyZ, false)
   | _ => (tyZ, false))
  else if k = 3 then
   (match l with
   | [a, b] => if onlyC (.mk k n v ty [a, b]) false false false 2 then
     (let f := tImp p a sc
      let x := tImp p b sc
      if f.2 && x.2 then appC f.1 x.1 else (tyZ, false))
    else (tyZ, false)
   | _ => (tyZ, false))
  else if k = 4 then
   (match l with
   | [a] => if onlyC (.mk k n v ty [a]) false false true 1 && (tyC ty 20).1 then
     (let b := tImp p a (sc ++ [ty])
      if b.2 && (tyC (.mk 1 0 [ty, b.1]) 20).1 then (.mk 1 0 [ty, b.1], true) else (tyZ, false))
    else (tyZ, false)
   | _ => (tyZ, false))
  else if k = 5 then
   (match l with
   | [a, b] => if onlyC (.mk k n v ty [a, b]) false false false 2 then
     (let x := tImp p a sc
      if x.2 then tImp p b (sc ++ [x.1]) else (tyZ, false))
    else (tyZ, false)
   | _ => (tyZ, false))
  else if k = 6 then
   (match l with
   | a :: b :: r => if onlyC (.mk k n v ty (a :: b :: r)) false false false (-1) then
     (let x := tImp p a sc
      if x.2 then (match x.1 with
      | .mk xk xv _ => if xk = 0 ∧ xv = ((b :: r).length : Int) then
        (let f := tImp p b sc
         (f.1, r.attach.foldl (fun ok c => ok && (tImp p c.1 sc).2 && decide (f.1 = (tImp p c.1 sc).1)) f.2))
       else (tyZ, false)) else (tyZ, false))
    else (tyZ, false)
   | _ => (tyZ, false))
  else if k = 9 then (tyI, onlyC (.mk k n v ty l) true false false 0 && decide (-1000 ≤ n) && decide (n ≤ 1000))
  else if k = 10 then (tyI, onlyC (.mk k n v ty l) false false false 0)
  else if k = 11 ∨ k = 12 then
   (match l with
   | [a] => if onlyC (.mk k n v ty [a]) true false false 1 then addC k n (tImp p a sc) else (tyZ, false)
   | _ => (tyZ, false))
  else (tyZ, false)
termination_by e => SizeOf.sizeOf e
decreasing_by all_goals (simp_wf; first | omega | (have := List.sizeOf_lt_of_mem c.2; omega))
end Go.Ae.N
namespace Go.Ae.N
open Go.Proofs
theorem type_const (es : List ByteArray) (ds : List Def) (mk mn mv mtk mtv : Int) (mtl : List Ty) (ml : List Expr) (sc : List Ty) (n v tk tv : Int) (tl : List Ty) (l : List Expr) :
  SC 61 [.agg [B true], .agg (Prog.enc ⟨es, ds, .mk mk mn mv (.mk mtk mtv mtl) ml⟩), .sl 3 (Ty.encs sc) false, .agg (Expr.mk 0 n v (.mk tk tv tl) l).enc] []
   (.tup [.agg (tyF v).enc, B (onlyC (.mk 0 n v (.mk tk tv tl) l) true true false 0 && decide (1 ≤ v) && decide (v ≤ 4) && decide (0 ≤ n) && decide (n < v))]) [] := by
 have ho := only_ 0 n v tk tv tl l true true false 0
 have hf := fin_0 v
 generalize onlyC (.mk 0 n v (.mk tk tv tl) l) true true false 0 = E at ho ⊢
 cases E with
 | true =>
  rcases dsp (1 ≤ v) with ⟨hb1, hb1'⟩ | ⟨hb1, hb1'⟩
  ·skip
   rcases dsp (v ≤ 4) with ⟨hb2, hb2'⟩ | ⟨hb2, hb2'⟩
   ·skip
    rcases dsp (0 ≤ n) with ⟨hb3, hb3'⟩ | ⟨hb3, hb3'⟩
    ·skip
     rcases dsp (n < v) with ⟨hb4, hb4'⟩ | ⟨hb4, hb4'⟩
     ·skip
      exact gR Tryz.func61 [rG, rG, rG, rS [(2, oC hf), (4, oC ho), (8, .bit true), (13, .bit true), (18, .bit true), (25, .bit true)]] [.tidO 3 [none, none, some 3]] [] (.tup [.agg [I 0, I v, .sl 3 [] false], B true]) ([]) (ob1 (hf) (ob1 (ho) (qT (1 ≤ v) (qT (v ≤ 4) (qT (0 ≤ n) (qT (n < v) ob0)))))) (by (simp only [tyF, Ty.enc, Ty.encs, *, decide_true, decide_false, Bool.and_true, Bool.and_false, Bool.true_and, Bool.false_and])) (by first | rfl | (simp [*]; done))
     ·skip
      exact gR Tryz.func61 [rG, rG, rG, rS [(2, oC hf), (4, oC ho), (8, .bit true), (13, .bit true), (18, .bit true), (25, .bit false)]] [.tidO 3 [none, none, some 3]] [] (.tup [.agg [I 0, I v, .sl 3 [] false], B false]) ([]) (ob1 (hf) (ob1 (ho) (qT (1 ≤ v) (qT (v ≤ 4) (qT (0 ≤ n) (qF (n < v) ob0)))))) (by (simp only [tyF, Ty.enc, Ty.encs, *, decide_true, decide_false, Bool.and_true, Bool.and_false, Bool.true_and, Bool.false_and])) (by first | rfl | (simp [*]; done))
    ·skip
     exact gR Tryz.func61 [rG, rG, rG, rS [(2, oC hf), (4, oC ho), (8, .bit true), (13, .bit true), (18, .bit false)]] [.tidO 3 [none, none, some 3]] [] (.tup [.agg [I 0, I v, .sl 3 [] false], B false]) ([]) (ob1 (hf) (ob1 (ho) (qT (1 ≤ v) (qT (v ≤ 4) (qF (0 ≤ n) ob0))))) (by (simp only [tyF, Ty.enc, Ty.encs, *, decide_true, decide_false, Bool.and_true, Bool.and_false, Bool.true_and, Bool.false_and])) (by first | rfl | (simp [*]; done))
   ·skip
    exact gR Tryz.func61 [rG, rG, rG, rS [(2, oC hf), (4, oC ho), (8, .bit true), (13, .bit false)]] [.tidO 3 [none, none, some 3]] [] (.tup [.agg [I 0, I v, .sl 3 [] false], B false]) ([]) (ob1 (hf) (ob1 (ho) (qT (1 ≤ v) (qF (v ≤ 4) ob0)))) (by (simp only [tyF, Ty.enc, Ty.encs, *, decide_true, decide_false, Bool.and_true, Bool.and_false, Bool.true_and, Bool.false_and])) (by first | rfl | (simp [*]; done))
  ·skip
   exact gR Tryz.func61 [rG, rG, rG, rS [(2, oC hf), (4, oC ho), (8, .bit false)]] [.tidO 3 [none, none, some 3]] [] (.tup [.agg [I 0, I v, .sl 3 [] false], B false]) ([]) (ob1 (hf) (ob1 (ho) (qF (1 ≤ v) ob0))) (by (simp only [tyF, Ty.enc, Ty.encs, *, decide_true, decide_false, Bool.and_true, Bool.and_false, Bool.true_and, Bool.false_and])) (by first | rfl | (simp [*]; done))
 | false =>
  exact gK Tryz.func61 [rG, rG, rG, rS [(2, oC hf), (4, oC ho)]] [.tidO 3 [none, none, some 3]] [] (ob1 (hf) (ob1 (ho) ob0))
theorem type_pick (es : List ByteArray) (ds : List Def) (mk mn mv mtk mtv : Int) (mtl : List Ty) (ml : List Expr) (sc : List Ty) (n v tk tv : Int) (tl : List Ty) (l : List Expr) :
  SC 61 [.agg [B true], .agg (Prog.enc ⟨es, ds, .mk mk mn mv (.mk mtk mtv mtl) ml⟩), .sl 3 (Ty.encs sc) false, .agg (Expr.mk 8 n v (.mk tk tv tl) l).enc] []
   (.tup [.agg (tyF v).enc, B (onlyC (.mk 8 n v (.mk tk tv tl) l) false true false 0 && decide (1 ≤ v) && decide (v ≤ 4))]) [] := by
 have ho := only_ 8 n v tk tv tl l false true false 0
 have hf := fin_0 v
 generalize onlyC (.mk 8 n v (.mk tk tv tl) l) false true false 0 = E at ho ⊢
 cases E with
 | true =>
  rcases dsp (1 ≤ v) with ⟨hb1, hb1'⟩ | ⟨hb1, hb1'⟩
  ·skip
   rcases dsp (v ≤ 4) with ⟨hb2, hb2'⟩ | ⟨hb2, hb2'⟩
   ·skip
    exact gR Tryz.func61 (rGs 4 [rS [(2, oC hf), (4, oC ho), (8, .bit true), (13, .bit true)]]) [.tidO 3 [none, none, some 3]] [] (.tup [.agg [I 0, I v, .sl 3 [] false], B true]) ([]) (ob1 (hf) (ob1 (ho) (qT (1 ≤ v) (qT (v ≤ 4) ob0)))) (by (simp only [tyF, Ty.enc, Ty.encs, *, decide_true, decide_false, Bool.and_true, Bool.and_false, Bool.true_and, Bool.false_and])) (by first | rfl | (simp [*]; done))
   ·skip
    exact gR Tryz.func61 (rGs 4 [rS [(2, oC hf), (4, oC ho), (8, .bit true), (13, .bit false)]]) [.tidO 3 [none, none, some 3]] [] (.tup [.agg [I 0, I v, .sl 3 [] false], B false]) ([]) (ob1 (hf) (ob1 (ho) (qT (1 ≤ v) (qF (v ≤ 4) ob0)))) (by (simp only [tyF, Ty.enc, Ty.encs, *, decide_true, decide_false, Bool.and_true, Bool.and_false, Bool.true_and, Bool.false_and])) (by first | rfl | (simp [*]; done))
  ·skip
   exact gR Tryz.func61 (rGs 4 [rS [(2, oC hf), (4, oC ho), (8, .bit false)]]) [.tidO 3 [none, none, some 3]] [] (.tup [.agg [I 0, I v, .sl 3 [] false], B false]) ([]) (ob1 (hf) (ob1 (ho) (qF (1 ≤ v) ob0))) (by (simp only [tyF, Ty.enc, Ty.encs, *, decide_true, decide_false, Bool.and_true, Bool.and_false, Bool.true_and, Bool.false_and])) (by first | rfl | (simp [*]; done))
 | false =>
  exact gK Tryz.func61 (rGs 4 [rS [(2, oC hf), (4, oC ho)]]) [.tidO 3 [none, none, some 3]] [] (ob1 (hf) (ob1 (ho) ob0))
theorem type_var (es : List ByteArray) (ds : List Def) (mk mn mv mtk mtv : Int) (mtl : List Ty) (ml : List Expr) (sc : List Ty) (n v tk tv : Int) (tl : List Ty) (l : List Expr) (hs : sc.length ≤ 1000) :
  SC 61 [.agg [B true], .agg (Prog.enc ⟨es, ds, .mk mk mn mv (.mk mtk mtv mtl) ml⟩), .sl 3 (Ty.encs sc) false, .agg (Expr.mk 1 n v (.mk tk tv tl) l).enc] []
   (.tup [.agg (tImp ⟨es, ds, .mk mk mn mv (.mk mtk mtv mtl) ml⟩ (.mk 1 n v (.mk tk tv tl) l) sc).1.enc, B (tImp ⟨es, ds, .mk mk mn mv (.mk mtk mtv mtl) ml⟩ (.mk 1 n v (.mk tk tv tl) l) sc).2]) [] := by
 have ho := only_ 1 n v tk tv tl l true false false 0
 rw [tImp.eq_def]
 dsimp only
 simp only [show ¬ (1 : Int) = 0 by omega, show ¬ (1 : Int) = 8 by omega, if_false, if_true]
 generalize onlyC (.mk 1 n v (.mk tk tv tl) l) true false false 0 = E at ho ⊢
 cases E with
 | true =>
  by_cases h1 : 0 ≤ n
  ·by_cases h2 : n < (sc.length : Int)
   ·have hj : sc.length - 1 - n.toNat < sc.length := by omega
    obtain ⟨ka, va, la, hg⟩ : ∃ ka va la, sc[sc.length - 1 - n.toNat]? = some (Ty.mk ka va la) := by
     rcases hx : sc[sc.length - 1 - n.toNat]'hj with ⟨ka, va, la⟩
     exact ⟨ka, va, la, by rw [List.getElem?_eq_getElem hj, hx]⟩
    have hx : (Ty.encs sc)[sc.length - 1 - n.toNat]? = some (Ty.mk ka va la).enc := by rw [Ty.encs_get, hg]; rfl
    simp only [decide_eq_true h1, decide_eq_true h2, Bool.and_true, if_true, hg]
    exact gK Tryz.func61 (rGs 5 [rS [(1, oC ho), (6, .bit false), (12, .int (sc.length : Int)), (13, .bit false)], rS [(2, .int (sc.length : Int)), (3, .int ((sc.length : Int) - 1)), (6, .int ((sc.length : Int) - 1 - n)), (7, .row (List.length sc - 1 - Int.toNat n) (Ty.enc (Ty.mk ka va la)))]]) [.tidO 3 [none, none, some 3]] [] (ob1 (ho) (qF (n < 0) (qN Ty.encs sc (qF ((sc.length : Int) ≤ n) (qN Ty.encs sc (qw ((sc.length : Int) - 1) (qw ((sc.length : Int) - 1 - n) (q ((sc.length : Int) - 1 - n = (↑(List.length sc - 1 - Int.toNat n) : Int)) (q ((Ty.encs sc)[List.length sc - 1 - Int.toNat n]? = some (Ty.enc (Ty.mk ka va la))) ob0)))))))))
   ·simp only [decide_eq_false h2, Bool.and_false, Bool.false_eq_true, if_false]
    exact gK Tryz.func61 (rGs 5 [rS [(1, oC ho), (6, .bit false), (12, .int (sc.length : Int)), (13, .bit true)], rG]) [.tidO 3 [none, none, some 3]] [] (ob1 (ho) (qF (n < 0) (qN Ty.encs sc (qT ((sc.length : Int) ≤ n) ob0))))
  ·simp only [decide_eq_false h1, Bool.and_false, Bool.false_and, Bool.false_eq_true, if_false]
   exact gK Tryz.func61 (rGs 5 [rS [(1, oC ho), (6, .bit true)], rG]) [.tidO 3 [none, none, some 3]] [] (ob1 (ho) (qT (n < 0) ob0))
 | false =>
  simp only [Bool.false_and, Bool.false_eq_true, if_false]
  exact gK Tryz.func61 (rGs 5 [rS [(1, oC ho)], rG]) [.tidO 3 [none, none, some 3]] [] (ob1 (ho) ob0)
end Go.Ae.N
namespace Go.Ae.N
open Go.Proofs
theorem type_fun (es : List ByteArray) (ds : List Def) (mk mn mv mtk mtv : Int) (mtl : List Ty) (ml : List Expr) (sc : List Ty) (n v tk tv : Int) (tl : List Ty) (l : List Expr) (hs : ds.length ≤ 1000) (hd : ∀ d ∈ ds, d.ok) :
  SC 61 [.agg [B true], .agg (Prog.enc ⟨es, ds, .mk mk mn mv (.mk mtk mtv mtl) ml⟩), .sl 3 (Ty.encs sc) false, .agg (Expr.mk 2 n v (.mk tk tv tl) l).enc] []
   (.tup [.agg (tImp ⟨es, ds, .mk mk mn mv (.mk mtk mtv mtl) ml⟩ (.mk 2 n v (.mk tk tv tl) l) sc).1.enc, B (tImp ⟨es, ds, .mk mk mn mv (.mk mtk mtv mtl) ml⟩ (.mk 2 n v (.mk tk tv tl) l) sc).2]) [] := by
 have ho := only_ 2 n v tk tv tl l true false false 0
 rw [tImp.eq_def]
 dsimp only
 simp only [show ¬ (2 : Int) = 0 by omega, show ¬ (2 : Int) = 8 by omega, show ¬ (2 : Int) = 1 by omega, if_false, if_true]
 generalize onlyC (.mk 2 n v (.mk tk tv tl) l) true false false 0 = E at ho ⊢
 cases E with
 | true =>
  by_cases h1 : 0 ≤ n
  ·by_cases h2 : n < (ds.length : Int)
   ·have hj : n.toNat < ds.length := by omega
    obtain ⟨nm, ka, va, la, kb, vb, lb, bk, bn, bv, btk, btv, btl, bl, hg⟩ : ∃ nm ka va la kb vb lb bk bn bv btk btv btl bl, ds[n.toNat]? = some (Def.mk nm (.mk ka va la) (.mk kb vb lb) (.mk bk bn bv (.mk btk btv btl) bl)) := by
     rcases hx : ds[n.toNat]'hj with ⟨nm, ⟨ka, va, la⟩, ⟨kb, vb, lb⟩, ⟨bk, bn, bv, ⟨btk, btv, btl⟩, bl⟩⟩
     exact ⟨_, _, _, _, _, _, _, _, _, _, _, _, _, _, by rw [List.getElem?_eq_getElem hj, hx]⟩
    have hok := hd _ (List.mem_of_getElem? hg)
    have hx : (Def.encs ds)[n.toNat]? = some (Def.mk nm (.mk ka va la) (.mk kb vb lb) (.mk bk bn bv (.mk btk btv btl) bl)).enc := by rw [Def.encs_get, hg]; rfl
    have ht := isTy_ (.mk 1 0 [.mk ka va la, .mk kb vb lb]) ⟨by unfold ir; omega, by unfold ir; omega, by simp, hok.2.1, hok.2.2.1, trivial⟩
    simp only [decide_eq_true h1, decide_eq_true h2, Bool.and_true, if_true, hg]
    generalize (tyC (.mk 1 0 [.mk ka va la, .mk kb vb lb]) 20).1 = E2 at ht ⊢
    clear hok hd
    cases E2 with
    | true =>
     exact gK Tryz.func61 (rGs 6 [rS [(1, oC ho), (6, .bit false), (13, .int (ds.length : Int)), (14, .bit false)], rS [(4, .row (Int.toNat n) (Def.enc { name := nm, param := Ty.mk ka va la, result := Ty.mk kb vb lb, body := Expr.mk bk bn bv (Ty.mk btk btv btl) bl })), (11, .row (Int.toNat n) (Def.enc { name := nm, param := Ty.mk ka va la, result := Ty.mk kb vb lb, body := Expr.mk bk bn bv (Ty.mk btk btv btl) bl }))], rS [(3, oC ht)]]) [.tidO 3 [none, none, some 3]] [] (ob1 (ho) (qF (n < 0) (qN Def.encs ds (qF ((ds.length : Int) ≤ n) (q (n = (↑(Int.toNat n) : Int)) (q ((Def.encs ds)[Int.toNat n]? = some (Def.enc { name := nm, param := Ty.mk ka va la, result := Ty.mk kb vb lb, body := Expr.mk bk bn bv (Ty.mk btk btv btl) bl })) (q (n = (↑(Int.toNat n) : Int)) (q ((Def.encs ds)[Int.toNat n]? = some (Def.enc { name := nm, param := Ty.mk ka va la, result := Ty.mk kb vb lb, body := Expr.mk bk bn bv (Ty.mk btk btv btl) bl })) (ob1 (ht) ob0)))))))))
    | false =>
     exact gK Tryz.func61 (rGs 6 [rS [(1, oC ho), (6, .bit false), (13, .int (ds.length : Int)), (14, .bit false)], rS [(4, .row (Int.toNat n) (Def.enc { name := nm, param := Ty.mk ka va la, result := Ty.mk kb vb lb, body := Expr.mk bk bn bv (Ty.mk btk btv btl) bl })), (11, .row (Int.toNat n) (Def.enc { name := nm, param := Ty.mk ka va la, result := Ty.mk kb vb lb, body := Expr.mk bk bn bv (Ty.mk btk btv btl) bl }))], rS [(3, oC ht)]]) [.tidO 3 [none, none, some 3]] [] (ob1 (ho) (qF (n < 0) (qN Def.encs ds (qF ((ds.length : Int) ≤ n) (q (n = (↑(Int.toNat n) : Int)) (q ((Def.encs ds)[Int.toNat n]? = some (Def.enc { name := nm, param := Ty.mk ka va la, result := Ty.mk kb vb lb, body := Expr.mk bk bn bv (Ty.mk btk btv btl) bl })) (q (n = (↑(Int.toNat n) : Int)) (q ((Def.encs ds)[Int.toNat n]? = some (Def.enc { name := nm, param := Ty.mk ka va la, result := Ty.mk kb vb lb, body := Expr.mk bk bn bv (Ty.mk btk btv btl) bl })) (ob1 (ht) ob0)))))))))
   ·simp only [decide_eq_false h2, Bool.and_false, Bool.false_eq_true, if_false]
    exact gK Tryz.func61 (rGs 6 [rS [(1, oC ho), (6, .bit false), (13, .int (ds.length : Int)), (14, .bit true)], rG]) [.tidO 3 [none, none, some 3]] [] (ob1 (ho) (qF (n < 0) (qN Def.encs ds (qT ((ds.length : Int) ≤ n) ob0))))
  ·simp only [decide_eq_false h1, Bool.and_false, Bool.false_and, Bool.false_eq_true, if_false]
   exact gK Tryz.func61 (rGs 6 [rS [(1, oC ho), (6, .bit true)], rG]) [.tidO 3 [none, none, some 3]] [] (ob1 (ho) (qT (n < 0) ob0))
 | false =>
  simp only [Bool.false_and, Bool.false_eq_true, if_false]
  exact gK Tryz.func61 (rGs 6 [rS [(1, oC ho)], rG]) [.tidO 3 [none, none, some 3]] [] (ob1 (ho) ob0)
end Go.Ae.N
namespace Go.Ae.N
open Go.Proofs
def TypeOk (p : Prog) (e : Expr) (sc : List Ty) : Prop :=
 SC 61 [.agg [B true], .agg p.enc, .sl 3 (Ty.encs sc) false, .agg e.enc] [] (.tup [.agg (tImp p e sc).1.enc, B (tImp p e sc).2]) []
theorem type_event1 (es : List ByteArray) (ds : List Def) (mk mn mv mtk mtv : Int) (mtl : List Ty) (ml : List Expr) (sc : List Ty) (n v tk tv : Int) (tl : List Ty) (ak an av atk atv : Int) (atl : List Ty) (al : List Expr) (hs : es.length ≤ 1000)
  (hr : TypeOk ⟨es, ds, .mk mk mn mv (.mk mtk mtv mtl) ml⟩ (.mk ak an av (.mk atk atv atl) al) sc) :
  TypeOk ⟨es, ds, .mk mk mn mv (.mk mtk mtv mtl) ml⟩ (.mk 7 n v (.mk tk tv tl) [.mk ak an av (.mk atk atv atl) al]) sc := by
 unfold TypeOk at hr ⊢
 have ho := only_ 7 n v tk tv tl [.mk ak an av (.mk atk atv atl) al] true false false 1
 rw [tImp.eq_def ⟨es, ds, .mk mk mn mv (.mk mtk mtv mtl) ml⟩ (.mk 7 n v (.mk tk tv tl) [.mk ak an av (.mk atk atv atl) al])]
 dsimp only
 simp only [show ¬ (7 : Int) = 0 by omega, show ¬ (7 : Int) = 8 by omega, show ¬ (7 : Int) = 1 by omega, show ¬ (7 : Int) = 2 by omega, if_false, if_true]
 generalize onlyC (.mk 7 n v (.mk tk tv tl) [.mk ak an av (.mk atk atv atl) al]) true false false 1 = E at ho ⊢
 generalize tImp ⟨es, ds, .mk mk mn mv (.mk mtk mtv mtl) ml⟩ (.mk ak an av (.mk atk atv atl) al) sc = T at hr ⊢
 obtain ⟨⟨rk, rv, rl⟩, rb⟩ := T
 cases E with
 | true =>
  by_cases h1 : 0 ≤ n
  ·by_cases h2 : n < (es.length : Int)
   ·simp only [decide_eq_true h1, decide_eq_true h2, Bool.and_true, if_true]
    cases rb with
    | true =>
     exact gK Tryz.func61 (rGs 7 [rS [(1, oC ho), (6, .bit false), (13, .int (es.length : Int)), (14, .bit false)], rS [(5, .row 0 (xE ak an av atk atv atl al)), (7, oC hr)]]) [.tidO 3 [none, none, some 3]] [] (ob1 (ho) (qF (n < 0) (qN strs es (qF ((es.length : Int) ≤ n) (qI 0 (qC0 ((xE ak an av atk atv atl al)) [] (ob1 (hr) ob0)))))))
    | false =>
     exact gK Tryz.func61 (rGs 7 [rS [(1, oC ho), (6, .bit false), (13, .int (es.length : Int)), (14, .bit false)], rS [(5, .row 0 (xE ak an av atk atv atl al)), (7, oC hr)]]) [.tidO 3 [none, none, some 3]] [] (ob1 (ho) (qF (n < 0) (qN strs es (qF ((es.length : Int) ≤ n) (qI 0 (qC0 ((xE ak an av atk atv atl al)) [] (ob1 (hr) ob0)))))))
   ·simp only [decide_eq_false h2, Bool.and_false, Bool.false_eq_true, if_false]
    clear hr
    exact gK Tryz.func61 (rGs 7 [rS [(1, oC ho), (6, .bit false), (13, .int (es.length : Int)), (14, .bit true)], rG]) [.tidO 3 [none, none, some 3]] [] (ob1 (ho) (qF (n < 0) (qN strs es (qT ((es.length : Int) ≤ n) ob0))))
  ·simp only [decide_eq_false h1, Bool.and_false, Bool.false_and, Bool.false_eq_true, if_false]
   clear hr
   exact gK Tryz.func61 (rGs 7 [rS [(1, oC ho), (6, .bit true)], rG]) [.tidO 3 [none, none, some 3]] [] (ob1 (ho) (qT (n < 0) ob0))
 | false =>
  simp only [Bool.false_and, Bool.false_eq_true, if_false]
  clear hr
  exact gK Tryz.func61 (rGs 7 [rS [(1, oC ho)], rG]) [.tidO 3 [none, none, some 3]] [] (ob1 (ho) ob0)
end Go.Ae.N
namespace Go.Ae.N
open Go.Proofs
theorem only_len (k n v : Int) (t : Ty) (l : List Expr) (a b c : Bool) (g : Int) (h0 : 0 ≤ g) (h : (l.length : Int) ≠ g) : onlyC (.mk k n v t l) a b c g = false := by
 obtain ⟨tk, tv, tl⟩ := t
 simp only [onlyC, decide_eq_false (show ¬ g < 0 by omega), decide_eq_false h, Bool.or_false, Bool.and_false]
theorem type_event0 (es : List ByteArray) (ds : List Def) (mk mn mv mtk mtv : Int) (mtl : List Ty) (ml : List Expr) (sc : List Ty) (n v tk tv : Int) (tl : List Ty) (l : List Expr) (h : l.length ≠ 1) :
  TypeOk ⟨es, ds, .mk mk mn mv (.mk mtk mtv mtl) ml⟩ (.mk 7 n v (.mk tk tv tl) l) sc := by
 unfold TypeOk
 have ho := only_ 7 n v tk tv tl l true false false 1
 rw [only_len _ _ _ _ _ _ _ _ _ (by omega) (by omega)] at ho
 rw [show tImp ⟨es, ds, .mk mk mn mv (.mk mtk mtv mtl) ml⟩ (.mk 7 n v (.mk tk tv tl) l) sc = (tyZ, false) by
  rw [tImp.eq_def]
  dsimp only
  simp only [show ¬ (7 : Int) = 0 by omega, show ¬ (7 : Int) = 8 by omega, show ¬ (7 : Int) = 1 by omega, show ¬ (7 : Int) = 2 by omega, if_false, if_true]
  match l, h with
  | [], _ => rfl
  | [_], h => exact absurd rfl h
  | _ :: _ :: _, _ => rfl]
 exact gK Tryz.func61 (rGs 7 [rS [(1, oC ho)], rG]) [.tidO 3 [none, none, some 3]] [] (ob1 (ho) ob0)
end Go.Ae.N
namespace Go.Ae.N
open Go.Proofs
def CompOk (p : Prog) (e : Expr) (sc : List Ty) : Prop :=
 SC 95 [.agg [B true], .agg p.enc, .sl 3 (Ty.encs sc) false, .agg e.enc] [] (.tup [.agg (tImp p e sc).1.enc, B (tImp p e sc).2]) []
theorem comp_app (es : List ByteArray) (ds : List Def) (mk mn mv mtk mtv : Int) (mtl : List Ty) (ml : List Expr) (sc : List Ty) (n v tk tv : Int) (tl : List Ty)
  (ak an av atk atv : Int) (atl : List Ty) (al : List Expr) (bk bn bv btk btv : Int) (btl : List Ty) (bl : List Expr)
  (ha : TypeOk ⟨es, ds, .mk mk mn mv (.mk mtk mtv mtl) ml⟩ (.mk ak an av (.mk atk atv atl) al) sc)
  (hb : TypeOk ⟨es, ds, .mk mk mn mv (.mk mtk mtv mtl) ml⟩ (.mk bk bn bv (.mk btk btv btl) bl) sc)
  (hg : (tImp ⟨es, ds, .mk mk mn mv (.mk mtk mtv mtl) ml⟩ (.mk ak an av (.mk atk atv atl) al) sc).2 = true → ∃ k v l, (tImp ⟨es, ds, .mk mk mn mv (.mk mtk mtv mtl) ml⟩ (.mk ak an av (.mk atk atv atl) al) sc).1 = .mk k v l ∧ (k = 1 → (∃ t u, l = [t, u] ∧ t.ok))) :
  CompOk ⟨es, ds, .mk mk mn mv (.mk mtk mtv mtl) ml⟩ (.mk 3 n v (.mk tk tv tl) [.mk ak an av (.mk atk atv atl) al, .mk bk bn bv (.mk btk btv btl) bl]) sc := by
 unfold TypeOk at ha hb
 unfold CompOk
 have ho := only_ 3 n v tk tv tl [.mk ak an av (.mk atk atv atl) al, .mk bk bn bv (.mk btk btv btl) bl] false false false 2
 rw [tImp.eq_def ⟨es, ds, .mk mk mn mv (.mk mtk mtv mtl) ml⟩ (.mk 3 n v (.mk tk tv tl) [.mk ak an av (.mk atk atv atl) al, .mk bk bn bv (.mk btk btv btl) bl])]
 dsimp only
 simp only [show ¬ (3 : Int) = 0 by omega, show ¬ (3 : Int) = 8 by omega, show ¬ (3 : Int) = 1 by omega, show ¬ (3 : Int) = 2 by omega, show ¬ (3 : Int) = 7 by omega, if_false, if_true]
 generalize onlyC (.mk 3 n v (.mk tk tv tl) [.mk ak an av (.mk atk atv atl) al, .mk bk bn bv (.mk btk btv btl) bl]) false false false 2 = E at ho ⊢
 generalize tImp ⟨es, ds, .mk mk mn mv (.mk mtk mtv mtl) ml⟩ (.mk ak an av (.mk atk atv atl) al) sc = T at ha hg ⊢
 generalize tImp ⟨es, ds, .mk mk mn mv (.mk mtk mtv mtl) ml⟩ (.mk bk bn bv (.mk btk btv btl) bl) sc = U at hb ⊢
 obtain ⟨⟨rk, rv, rl⟩, rb⟩ := T
 obtain ⟨⟨uk, uv, ul⟩, ub⟩ := U
 cases E with
 | false =>
  clear ha hb hg
  simp only [Bool.false_eq_true, if_false]
  exact gK Tryz.func95 (rGs 4 [rS [(1, oC ho)], rG]) [.tidO 3 [none, none, some 3]] [] (ob1 (ho) ob0)
 | true =>
  simp only [if_true]
  cases rb with
  | false =>
   clear hg
   simp only [Bool.false_and, Bool.false_eq_true, if_false]
   rcases Bool.eq_false_or_eq_true (Prod.snd (Ty.mk uk uv ul, ub)) with hb1 | hb1
   ·have hb1' := hb1
    try simp only [decide_eq_true_eq, decide_eq_false_iff_not, beq_iff_eq, bne_iff_ne, ne_eq, beq_eq_false_iff_ne, bne_eq_false_iff_eq, Bool.not_eq_true'] at hb1'
    exact gR Tryz.func95 (rGs 4 [rS [(1, .call (B true) [])], rS [(5, .row 0 [I ak, I an, I av, I atk, I atv, AV.sl 3 (Ty.encs atl) false, AV.sl 7 (Expr.encs al) false]), (7, .call (AV.tup [AV.agg [I rk, I rv, AV.sl 3 (Ty.encs rl) false], B false]) [])], rS [(5, .row 1 [I bk, I bn, I bv, I btk, I btv, AV.sl 3 (Ty.encs btl) false, AV.sl 7 (Expr.encs bl) false]), (7, .call (AV.tup [AV.agg [I uk, I uv, AV.sl 3 (Ty.encs ul) false], B true]) [])], rG, rG]) [.tidO 3 [none, none, some 3]] [] (AV.tup [AV.agg [I 0, I 0, AV.sl 3 [] false], B false]) ([]) (ob1 (ho) (q ((0 : Int) = (↑(0 : Nat) : Int)) (q ([[I ak, I an, I av, I atk, I atv, AV.sl 3 (Ty.encs atl) false, AV.sl 7 (Expr.encs al) false], [I bk, I bn, I bv, I btk, I btv, AV.sl 3 (Ty.encs btl) false, AV.sl 7 (Expr.encs bl) false]][0]? = some [I ak, I an, I av, I atk, I atv, AV.sl 3 (Ty.encs atl) false, AV.sl 7 (Expr.encs al) false]) (ob1 (ha) (q ((1 : Int) = (↑(1 : Nat) : Int)) (q ([[I ak, I an, I av, I atk, I atv, AV.sl 3 (Ty.encs atl) false, AV.sl 7 (Expr.encs al) false], [I bk, I bn, I bv, I btk, I btv, AV.sl 3 (Ty.encs btl) false, AV.sl 7 (Expr.encs bl) false]][1]? = some [I bk, I bn, I bv, I btk, I btv, AV.sl 3 (Ty.encs btl) false, AV.sl 7 (Expr.encs bl) false]) (ob1 (SoundCall.to (hb) (pf (AV.tup [AV.agg [I uk, I uv, AV.sl 3 (Ty.encs ul) false], B (Prod.snd (Ty.mk uk uv ul, ub))] = AV.tup [AV.agg [I uk, I uv, AV.sl 3 (Ty.encs ul) false], B true])) rfl) ob0)))))))
   ·have hb1' := hb1
    try simp only [decide_eq_true_eq, decide_eq_false_iff_not, beq_iff_eq, bne_iff_ne, ne_eq, beq_eq_false_iff_ne, bne_eq_false_iff_eq, Bool.not_eq_true'] at hb1'
    exact gR Tryz.func95 (rGs 4 [rS [(1, .call (B true) [])], rS [(5, .row 0 [I ak, I an, I av, I atk, I atv, AV.sl 3 (Ty.encs atl) false, AV.sl 7 (Expr.encs al) false]), (7, .call (AV.tup [AV.agg [I rk, I rv, AV.sl 3 (Ty.encs rl) false], B false]) [])], rS [(5, .row 1 [I bk, I bn, I bv, I btk, I btv, AV.sl 3 (Ty.encs btl) false, AV.sl 7 (Expr.encs bl) false]), (7, .call (AV.tup [AV.agg [I uk, I uv, AV.sl 3 (Ty.encs ul) false], B false]) [])], rG, rG]) [.tidO 3 [none, none, some 3]] [] (AV.tup [AV.agg [I 0, I 0, AV.sl 3 [] false], B false]) ([]) (ob1 (ho) (q ((0 : Int) = (↑(0 : Nat) : Int)) (q ([[I ak, I an, I av, I atk, I atv, AV.sl 3 (Ty.encs atl) false, AV.sl 7 (Expr.encs al) false], [I bk, I bn, I bv, I btk, I btv, AV.sl 3 (Ty.encs btl) false, AV.sl 7 (Expr.encs bl) false]][0]? = some [I ak, I an, I av, I atk, I atv, AV.sl 3 (Ty.encs atl) false, AV.sl 7 (Expr.encs al) false]) (ob1 (ha) (q ((1 : Int) = (↑(1 : Nat) : Int)) (q ([[I ak, I an, I av, I atk, I atv, AV.sl 3 (Ty.encs atl) false, AV.sl 7 (Expr.encs al) false], [I bk, I bn, I bv, I btk, I btv, AV.sl 3 (Ty.encs btl) false, AV.sl 7 (Expr.encs bl) false]][1]? = some [I bk, I bn, I bv, I btk, I btv, AV.sl 3 (Ty.encs btl) false, AV.sl 7 (Expr.encs bl) false]) (ob1 (SoundCall.to (hb) (pf (AV.tup [AV.agg [I uk, I uv, AV.sl 3 (Ty.encs ul) false], B (Prod.snd (Ty.mk uk uv ul, ub))] = AV.tup [AV.agg [I uk, I uv, AV.sl 3 (Ty.encs ul) false], B false])) rfl) ob0)))))))
  | true =>
   cases ub with
   | false =>
    clear hg
    simp only [Bool.and_false, Bool.false_eq_true, if_false]
    exact gK Tryz.func95 (rGs 4 [rS [(1, oC ho)], rS [(5, .row 0 (xE ak an av atk atv atl al)), (7, oC ha)], rS [(5, .row 1 (xE bk bn bv btk btv btl bl)), (7, oC hb)], rG, rG]) [.tidO 3 [none, none, some 3]] [] (ob1 (ho) (qI 0 (qC0 ((xE ak an av atk atv atl al)) [(xE bk bn bv btk btv btl bl)] (ob1 (ha) (qI 1 (qC1 ((xE ak an av atk atv atl al)) ((xE bk bn bv btk btv btl bl)) [] (ob1 (hb) ob0)))))))
   | true =>
    obtain ⟨k, v', l, he, hg⟩ := hg rfl
    simp only [Ty.mk.injEq] at he
    obtain ⟨rfl, rfl, rfl⟩ := he
    simp only [Bool.and_true, if_true]
    by_cases hk : rk = 1
    ·obtain ⟨⟨t1, t2, t3⟩, ⟨u1, u2, u3⟩, rfl, hok⟩ := hg hk
     subst hk
     have hq := eqTy_0 (.mk t1 t2 t3) (.mk uk uv ul) hok
     rw [appC_two]
     by_cases hx : Ty.mk t1 t2 t3 = Ty.mk uk uv ul
     ·rw [decide_eq_true hx] at hq
      rw [if_pos hx]
      clear hg hok
      exact gK Tryz.func95 (rGs 4 [rS [(1, oC ho)], rS [(5, .row 0 (xE ak an av atk atv atl al)), (7, oC ha)], rS [(5, .row 1 (xE bk bn bv btk btv btl bl)), (7, oC hb)], rS [(14, .row 0 (xT t1 t2 t3)), (17, oC hq)], rS [(2, .row 1 (xT u1 u2 u3))]]) [.tidO 3 [none, none, some 3]] [] (ob1 (ho) (qI 0 (qC0 ((xE ak an av atk atv atl al)) [(xE bk bn bv btk btv btl bl)] (ob1 (ha) (qI 1 (qC1 ((xE ak an av atk atv atl al)) ((xE bk bn bv btk btv btl bl)) [] (ob1 (hb) (qI 0 (qC0 ((xT t1 t2 t3)) [(xT u1 u2 u3)] (ob1 (hq) (qI 1 (qC1 ((xT t1 t2 t3)) ((xT u1 u2 u3)) [] ob0))))))))))))
     ·rw [decide_eq_false hx] at hq
      rw [if_neg hx]
      clear hg hok
      exact gK Tryz.func95 (rGs 4 [rS [(1, oC ho)], rS [(5, .row 0 (xE ak an av atk atv atl al)), (7, oC ha)], rS [(5, .row 1 (xE bk bn bv btk btv btl bl)), (7, oC hb)], rS [(14, .row 0 (xT t1 t2 t3)), (17, oC hq)], rG]) [.tidO 3 [none, none, some 3]] [] (ob1 (ho) (qI 0 (qC0 ((xE ak an av atk atv atl al)) [(xE bk bn bv btk btv btl bl)] (ob1 (ha) (qI 1 (qC1 ((xE ak an av atk atv atl al)) ((xE bk bn bv btk btv btl bl)) [] (ob1 (hb) (qI 0 (qC0 ((xT t1 t2 t3)) [(xT u1 u2 u3)] (ob1 (hq) ob0))))))))))
    ·clear hg
     rw [appC_ne hk]
     exact gK Tryz.func95 (rGs 4 [rS [(1, oC ho)], rS [(5, .row 0 (xE ak an av atk atv atl al)), (7, oC ha)], rS [(5, .row 1 (xE bk bn bv btk btv btl bl)), (7, oC hb)], rS [(9, .bit true)], rG]) [.tidO 3 [none, none, some 3]] [] (ob1 (ho) (qI 0 (qC0 ((xE ak an av atk atv atl al)) [(xE bk bn bv btk btv btl bl)] (ob1 (ha) (qI 1 (qC1 ((xE ak an av atk atv atl al)) ((xE bk bn bv btk btv btl bl)) [] (ob1 (hb) (qV (rk != 1) ob0))))))))
end Go.Ae.N
namespace Go.Ae.N
open Go.Proofs
theorem comp_let (es : List ByteArray) (ds : List Def) (mk mn mv mtk mtv : Int) (mtl : List Ty) (ml : List Expr) (sc : List Ty) (n v tk tv : Int) (tl : List Ty)
  (ak an av atk atv : Int) (atl : List Ty) (al : List Expr) (bk bn bv btk btv : Int) (btl : List Ty) (bl : List Expr) (hs : sc.length ≤ 1000)
  (ha : TypeOk ⟨es, ds, .mk mk mn mv (.mk mtk mtv mtl) ml⟩ (.mk ak an av (.mk atk atv atl) al) sc)
  (hb : ∀ t, (tImp ⟨es, ds, .mk mk mn mv (.mk mtk mtv mtl) ml⟩ (.mk ak an av (.mk atk atv atl) al) sc) = (t, true) → TypeOk ⟨es, ds, .mk mk mn mv (.mk mtk mtv mtl) ml⟩ (.mk bk bn bv (.mk btk btv btl) bl) (sc ++ [t])) :
  CompOk ⟨es, ds, .mk mk mn mv (.mk mtk mtv mtl) ml⟩ (.mk 5 n v (.mk tk tv tl) [.mk ak an av (.mk atk atv atl) al, .mk bk bn bv (.mk btk btv btl) bl]) sc := by
 unfold TypeOk at ha hb
 unfold CompOk
 have ho := only_ 5 n v tk tv tl [.mk ak an av (.mk atk atv atl) al, .mk bk bn bv (.mk btk btv btl) bl] false false false 2
 rw [tImp.eq_def ⟨es, ds, .mk mk mn mv (.mk mtk mtv mtl) ml⟩ (.mk 5 n v (.mk tk tv tl) [.mk ak an av (.mk atk atv atl) al, .mk bk bn bv (.mk btk btv btl) bl])]
 dsimp only
 simp only [show ¬ (5 : Int) = 0 by omega, show ¬ (5 : Int) = 8 by omega, show ¬ (5 : Int) = 1 by omega, show ¬ (5 : Int) = 2 by omega, show ¬ (5 : Int) = 7 by omega, show ¬ (5 : Int) = 3 by omega, show ¬ (5 : Int) = 4 by omega, if_false, if_true]
 generalize onlyC (.mk 5 n v (.mk tk tv tl) [.mk ak an av (.mk atk atv atl) al, .mk bk bn bv (.mk btk btv btl) bl]) false false false 2 = E at ho ⊢
 generalize tImp ⟨es, ds, .mk mk mn mv (.mk mtk mtv mtl) ml⟩ (.mk ak an av (.mk atk atv atl) al) sc = T at ha hb ⊢
 obtain ⟨⟨rk, rv, rl⟩, rb⟩ := T
 cases E with
 | false =>
  clear ha hb
  simp only [Bool.false_eq_true, if_false]
  exact gK Tryz.func95 (rGs 6 [rS [(1, oC ho)], rG]) [.tidO 3 [none, none, some 3]] [] (ob1 (ho) ob0)
 | true =>
  simp only [if_true]
  cases rb with
  | false =>
   clear hb
   simp only [Bool.false_eq_true, if_false]
   exact gK Tryz.func95 (rGs 6 [rS [(1, oC ho)], rS [(5, .row 0 (xE ak an av atk atv atl al)), (7, oC ha)], rG, rG]) [.tidO 3 [none, none, some 3]] [] (ob1 (ho) (qI 0 (qC0 ((xE ak an av atk atv atl al)) [(xE bk bn bv btk btv btl bl)] (ob1 (ha) ob0))))
  | true =>
   replace hb := hb _ rfl
   have hu := under_ (.mk rk rv rl) sc hs
   simp only [if_true]
   generalize tImp ⟨es, ds, .mk mk mn mv (.mk mtk mtv mtl) ml⟩ (.mk bk bn bv (.mk btk btv btl) bl) (sc ++ [.mk rk rv rl]) = U at hb ⊢
   obtain ⟨⟨uk, uv, ul⟩, ub⟩ := U
   cases ub with
   | true =>
    exact gK Tryz.func95 (rGs 6 [rS [(1, oC ho)], rS [(5, .row 0 (xE ak an av atk atv atl al)), (7, oC ha)], rG, rS [(4, oC hu), (7, .row 1 (xE bk bn bv btk btv btl bl)), (9, oC hb)]]) [.tidO 3 [none, none, some 3]] [] (ob1 (ho) (qI 0 (qC0 ((xE ak an av atk atv atl al)) [(xE bk bn bv btk btv btl bl)] (ob1 (ha) (ob1 (hu) (qI 1 (qC1 ((xE ak an av atk atv atl al)) ((xE bk bn bv btk btv btl bl)) [] (ob1 (hb) ob0))))))))
   | false =>
    exact gK Tryz.func95 (rGs 6 [rS [(1, oC ho)], rS [(5, .row 0 (xE ak an av atk atv atl al)), (7, oC ha)], rG, rS [(4, oC hu), (7, .row 1 (xE bk bn bv btk btv btl bl)), (9, oC hb)]]) [.tidO 3 [none, none, some 3]] [] (ob1 (ho) (qI 0 (qC0 ((xE ak an av atk atv atl al)) [(xE bk bn bv btk btv btl bl)] (ob1 (ha) (ob1 (hu) (qI 1 (qC1 ((xE ak an av atk atv atl al)) ((xE bk bn bv btk btv btl bl)) [] (ob1 (hb) ob0))))))))
end Go.Ae.N
namespace Go.Ae.N
open Go.Proofs
theorem comp_lam (es : List ByteArray) (ds : List Def) (mk mn mv mtk mtv : Int) (mtl : List Ty) (ml : List Expr) (sc : List Ty) (n v tk tv : Int) (tl : List Ty)
  (ak an av atk atv : Int) (atl : List Ty) (al : List Expr) (hs : sc.length ≤ 1000) (htok : (Ty.mk tk tv tl).ok)
  (ha : TypeOk ⟨es, ds, .mk mk mn mv (.mk mtk mtv mtl) ml⟩ (.mk ak an av (.mk atk atv atl) al) (sc ++ [.mk tk tv tl]))
  (hok : (tImp ⟨es, ds, .mk mk mn mv (.mk mtk mtv mtl) ml⟩ (.mk ak an av (.mk atk atv atl) al) (sc ++ [.mk tk tv tl])).1.ok) :
  CompOk ⟨es, ds, .mk mk mn mv (.mk mtk mtv mtl) ml⟩ (.mk 4 n v (.mk tk tv tl) [.mk ak an av (.mk atk atv atl) al]) sc := by
 unfold TypeOk at ha
 unfold CompOk
 have ho := only_ 4 n v tk tv tl [.mk ak an av (.mk atk atv atl) al] false false true 1
 have hi := isTy_ (.mk tk tv tl) htok
 have hu := under_ (.mk tk tv tl) sc hs
 rw [tImp.eq_def ⟨es, ds, .mk mk mn mv (.mk mtk mtv mtl) ml⟩ (.mk 4 n v (.mk tk tv tl) [.mk ak an av (.mk atk atv atl) al])]
 dsimp only
 simp only [show ¬ (4 : Int) = 0 by omega, show ¬ (4 : Int) = 8 by omega, show ¬ (4 : Int) = 1 by omega, show ¬ (4 : Int) = 2 by omega, show ¬ (4 : Int) = 7 by omega, show ¬ (4 : Int) = 3 by omega, if_false, if_true]
 generalize onlyC (.mk 4 n v (.mk tk tv tl) [.mk ak an av (.mk atk atv atl) al]) false false true 1 = E at ho ⊢
 generalize (tyC (.mk tk tv tl) 20).1 = E1 at hi ⊢
 generalize tImp ⟨es, ds, .mk mk mn mv (.mk mtk mtv mtl) ml⟩ (.mk ak an av (.mk atk atv atl) al) (sc ++ [.mk tk tv tl]) = T at ha hok ⊢
 obtain ⟨⟨rk, rv, rl⟩, rb⟩ := T
 have hj := isTy_ (.mk 1 0 [.mk tk tv tl, .mk rk rv rl]) ⟨by unfold ir; omega, by unfold ir; omega, by simp, htok, hok, trivial⟩
 generalize (tyC (.mk 1 0 [.mk tk tv tl, .mk rk rv rl]) 20).1 = E2 at hj ⊢
 clear htok hok
 cases E with
 | false =>
  simp only [Bool.false_and, Bool.false_eq_true, if_false]
  exact gK Tryz.func95 (rGs 5 [rS [(1, oC ho)], rG]) [.tidO 3 [none, none, some 3]] [] (ob1 (ho) ob0)
 | true =>
  cases E1 with
  | false =>
   simp only [Bool.and_false, Bool.false_eq_true, if_false]
   exact gK Tryz.func95 (rGs 5 [rS [(1, oC ho), (7, oC hi)], rG]) [.tidO 3 [none, none, some 3]] [] (ob1 (ho) (ob1 (hi) ob0))
  | true =>
   simp only [Bool.and_true, if_true]
   cases rb with
   | false =>
    simp only [Bool.false_and, Bool.false_eq_true, if_false]
    exact gK Tryz.func95 (rGs 5 [rS [(1, oC ho), (7, oC hi)], rS [(5, oC hu), (8, .row 0 (xE ak an av atk atv atl al)), (10, oC ha)], rG, rG, rG]) [.tidO 3 [none, none, some 3]] [] (ob1 (ho) (ob1 (hi) (ob1 (hu) (qI 0 (qC0 ((xE ak an av atk atv atl al)) [] (ob1 (ha) ob0))))))
   | true =>
    cases E2 with
    | false =>
     simp only [Bool.and_false, Bool.false_eq_true, if_false]
     exact gK Tryz.func95 (rGs 5 [rS [(1, oC ho), (7, oC hi)], rS [(5, oC hu), (8, .row 0 (xE ak an av atk atv atl al)), (10, oC ha)], rG, rS [(5, oC hj)], rG]) [.tidO 3 [none, none, some 3]] [] (ob1 (ho) (ob1 (hi) (ob1 (hu) (qI 0 (qC0 ((xE ak an av atk atv atl al)) [] (ob1 (ha) (ob1 (hj) ob0)))))))
    | true =>
     simp only [Bool.and_true, if_true]
     exact gK Tryz.func95 (rGs 5 [rS [(1, oC ho), (7, oC hi)], rS [(5, oC hu), (8, .row 0 (xE ak an av atk atv atl al)), (10, oC ha)], rG, rS [(5, oC hj)], rG]) [.tidO 3 [none, none, some 3]] [] (ob1 (ho) (ob1 (hi) (ob1 (hu) (qI 0 (qC0 ((xE ak an av atk atv atl al)) [] (ob1 (ha) (ob1 (hj) ob0)))))))
end Go.Ae.N
namespace Go.Ae.N
open Go.Proofs
noncomputable def casesC (p : Prog) (sc : List Ty) (f : Ty) (r : List Expr) (b : Bool) : Bool := r.foldl (fun ok c => ok && (tImp p c sc).2 && decide (f = (tImp p c sc).1)) b
theorem comp_case_loop (es : List ByteArray) (ds : List Def) (mk mn mv mtk mtv : Int) (mtl : List Ty) (ml : List Expr) (sc : List Ty) (uk uv : Int) (ul : List Ty) (hu : (Ty.mk uk uv ul).ok) (r : List Expr) (hr : r.length ≤ 1000) :
  ∀ (r' : List Expr) (i : Nat) (b : Bool), r.drop i = r' → (∀ x ∈ r', TypeOk ⟨es, ds, .mk mk mn mv (.mk mtk mtv mtl) ml⟩ x sc) →
  Lp Tryz.prog 234 0 (loopN Tryz.f95 0) ⟨lookT [(2, .sl 3 (Ty.encs sc) false), (4, .lp 0 0), (5, .lp 1 0), (8, .lp 2 0), (21, B b), (22, .lp 3 0), (208, .sl 7 (Expr.encs r) false), (209, I (r.length : Int)), (210, I (i : Int))],
   [.cells [B true] [], .cells (Prog.enc ⟨es, ds, .mk mk mn mv (.mk mtk mtv mtl) ml⟩) [], .cells [I 0, I 0, .nil] [], .cells [I uk, I uv, .sl 3 (Ty.encs ul) false] []]⟩
   (.exit 1) ⟨lookT [(8, .lp 0 0), (21, B (casesC ⟨es, ds, .mk mk mn mv (.mk mtk mtv mtl) ml⟩ sc (.mk uk uv ul) r' b)), (22, .lp 1 0)], [.cells [I 0, I 0, .nil] [], .cells [I uk, I uv, .sl 3 (Ty.encs ul) false] []]⟩
 | [], i, b, hd, _ => by
  have hi := drop_end hd
  simp only [casesC, List.foldl_nil]
  exact lL [rS [(0, .bit false)]] [.keep [(8, []), (21, []), (22, [])]] (qF ((i : Int) < (r.length : Int)) ob0)
 | .mk k1 m1 v1 (.mk tk tv tl) xs :: r', i, b, hd, hs => by
  have hi := drop_lt hd
  have hx : (Expr.encs r)[i]? = some (Expr.mk k1 m1 v1 (.mk tk tv tl) xs).enc := by rw [Expr.encs_get, drop_get hd]; rfl
  have hc := hs (.mk k1 m1 v1 (.mk tk tv tl) xs) (by simp)
  have ih := fun b => comp_case_loop es ds mk mn mv mtk mtv mtl ml sc uk uv ul hu r hr r' (i + 1) b (drop_next hd) (fun x hx => hs x (by simp [hx]))
  have he : ∀ b, casesC ⟨es, ds, .mk mk mn mv (.mk mtk mtv mtl) ml⟩ sc (.mk uk uv ul) (.mk k1 m1 v1 (.mk tk tv tl) xs :: r') b =
   casesC ⟨es, ds, .mk mk mn mv (.mk mtk mtv mtl) ml⟩ sc (.mk uk uv ul) r' (b && (tImp ⟨es, ds, .mk mk mn mv (.mk mtk mtv mtl) ml⟩ (.mk k1 m1 v1 (.mk tk tv tl) xs) sc).2 && decide (.mk uk uv ul = (tImp ⟨es, ds, .mk mk mn mv (.mk mtk mtv mtl) ml⟩ (.mk k1 m1 v1 (.mk tk tv tl) xs) sc).1)) := fun b => rfl
  rw [he]
  unfold TypeOk at hc
  clear hs he hd
  generalize casesC ⟨es, ds, .mk mk mn mv (.mk mtk mtv mtl) ml⟩ sc (.mk uk uv ul) r' = F at ih ⊢
  generalize tImp ⟨es, ds, .mk mk mn mv (.mk mtk mtv mtl) ml⟩ (.mk k1 m1 v1 (.mk tk tv tl) xs) sc = T at hc ⊢
  obtain ⟨⟨rk, rv, rl⟩, rb⟩ := T
  have hq := eqTy_0 (.mk uk uv ul) (.mk rk rv rl) hu
  simp only [Int.natCast_add] at ih
  cases b with
  | false =>
   replace ih := ih false
   simp only [Bool.false_and]
   cases rb with
   | false => exact lN [rS [(0, .bit true)], rS [(0, oW hx)], rS [(4, oC hc)], rG, rS [(0, .int ((i : Int) + 1))]] [.keep [(2, []), (4, []), (5, []), (8, []), (21, []), (22, []), (208, []), (209, []), (210, [])]] (qT ((i : Int) < (r.length : Int)) (qI i (ob1 hx (ob1 (hc) (qw ((i : Int) + 1) ob0))))) (ih)
   | true => exact lN [rS [(0, .bit true)], rS [(0, oW hx)], rS [(4, oC hc)], rG, rS [(0, .int ((i : Int) + 1))]] [.keep [(2, []), (4, []), (5, []), (8, []), (21, []), (22, []), (208, []), (209, []), (210, [])]] (qT ((i : Int) < (r.length : Int)) (qI i (ob1 hx (ob1 (hc) (qw ((i : Int) + 1) ob0))))) (ih)
  | true =>
   cases rb with
   | false =>
    replace ih := ih false
    simp only [Bool.and_false, Bool.false_and]
    exact lN [rS [(0, .bit true)], rS [(0, oW hx)], rS [(4, oC hc)], rG, rS [(0, .int ((i : Int) + 1))]] [.keep [(2, []), (4, []), (5, []), (8, []), (21, []), (22, []), (208, []), (209, []), (210, [])]] (qT ((i : Int) < (r.length : Int)) (qI i (ob1 hx (ob1 (hc) (qw ((i : Int) + 1) ob0))))) (ih)
   | true =>
    by_cases hx : Ty.mk uk uv ul = Ty.mk rk rv rl
    ·replace ih := ih true
     simp only [decide_eq_true hx] at hq ⊢
     exact lN [rS [(0, .bit true)], rS [(0, .row i (Expr.enc (Expr.mk k1 m1 v1 (Ty.mk tk tv tl) xs)))], rS [(4, oC hc)], rS [(7, oC hq)], rS [(0, .int ((i : Int) + 1))]] [.keep [(2, []), (4, []), (5, []), (8, []), (21, []), (22, []), (208, []), (209, []), (210, [])]] (q (decide ((i : Int) < (r.length : Int)) = true) (q ((i : Int) = (i : Int)) (q ((Expr.encs r)[i]? = some (Expr.enc (Expr.mk k1 m1 v1 (Ty.mk tk tv tl) xs))) (ob1 (hc) (ob1 (hq) (qw ((i : Int) + 1) ob0)))))) (ih)
    ·replace ih := ih false
     simp only [decide_eq_false hx, Bool.and_false] at hq ⊢
     exact lN [rS [(0, .bit true)], rS [(0, .row i (Expr.enc (Expr.mk k1 m1 v1 (Ty.mk tk tv tl) xs)))], rS [(4, oC hc)], rS [(7, oC hq)], rS [(0, .int ((i : Int) + 1))]] [.keep [(2, []), (4, []), (5, []), (8, []), (21, []), (22, []), (208, []), (209, []), (210, [])]] (q (decide ((i : Int) < (r.length : Int)) = true) (q ((i : Int) = (i : Int)) (q ((Expr.encs r)[i]? = some (Expr.enc (Expr.mk k1 m1 v1 (Ty.mk tk tv tl) xs))) (ob1 (hc) (ob1 (hq) (qw ((i : Int) + 1) ob0)))))) (ih)
end Go.Ae.N

/- Part 7 of the proof: AeRF10, AeRD1, AeRF11, AeRF12, AeRF13, AeRF14, AeRF15, AeRF16, AeRF17, AeRF18, AeRF19. -/
import Derived.Test.YtcmlbbgbfgikaaaGreatT6
set_option linter.unusedSimpArgs false
set_option linter.unusedVariables false
namespace Go.Ae
open Go.Proofs
def argsC (k : Int) (n : Nat) : Bool :=
 if k = 0 ∨ k = 1 ∨ k = 2 ∨ k = 8 then decide (n = 0) else if k = 3 ∨ k = 5 then decide (n = 2) else if k = 4 ∨ k = 7 then decide (n = 1) else decide (k = 6) && decide (0 < n)
def plainC : Expr → Bool
 | .mk k n v t l => (decide (k = 0 ∨ k = 1 ∨ k = 2 ∨ k = 7) || decide (n = 0)) && (decide (k = 0 ∨ k = 8) || decide (v = 0)) && (decide (k = 4) || emptyC t) && argsC k l.length
theorem plain_ (k n v tk tv : Int) (tl : List Ty) (l : List Expr) : SC 75 [.agg (Expr.mk k n v (.mk tk tv tl) l).enc] [] (B (plainC (.mk k n v (.mk tk tv tl) l))) [] := by
 have he := empty_ tk tv tl
 generalize hE : emptyC (.mk tk tv tl) = E at he
 have hlen : ((l.length : Int) = 0 ↔ l.length = 0) ∧ ((l.length : Int) = 1 ↔ l.length = 1) ∧ ((l.length : Int) = 2 ↔ l.length = 2) := by omega
 by_cases h0 : k = 0
 ·subst h0
  rcases Bool.eq_false_or_eq_true (E) with hb1 | hb1
  ·have hb1' := hb1
   try simp only [decide_eq_true_eq, decide_eq_false_iff_not, beq_iff_eq, bne_iff_ne, ne_eq, beq_eq_false_iff_ne, bne_eq_false_iff_eq, Bool.not_eq_true'] at hb1'
   rcases bsp ((↑(List.length l) : Int)) (0) with ⟨hb2, hb2'⟩ | ⟨hb2, hb2'⟩
   ·skip
    exact gR Tryz.func75 [rG, rG, rG, rS [(23, .call (B true) [])], rG, rG, rS [(2, .int (l.length : Int)), (3, .bit true)]] [] [] (B true) ([]) (ob1 (SoundCall.to (he) (pf (B E = B true)) rfl) (qN Expr.encs l (qV ((l.length : Int) == 0) ob0))) (by (simp_all [plainC, argsC])) (by first | rfl | (simp [*]; done))
   ·skip
    exact gR Tryz.func75 [rG, rG, rG, rS [(23, .call (B true) [])], rG, rG, rS [(2, .int (l.length : Int)), (3, .bit false)]] [] [] (B false) ([]) (ob1 (SoundCall.to (he) (pf (B E = B true)) rfl) (qN Expr.encs l (qU ((l.length : Int) == 0) ob0))) (by (simp_all [plainC, argsC])) (by first | rfl | (simp [*]; done))
  ·have hb1' := hb1
   try simp only [decide_eq_true_eq, decide_eq_false_iff_not, beq_iff_eq, bne_iff_ne, ne_eq, beq_eq_false_iff_ne, bne_eq_false_iff_eq, Bool.not_eq_true'] at hb1'
   exact gR Tryz.func75 [rG, rG, rG, rS [(23, .call (B false) [])], rG] [] [] (B false) ([]) (ob1 (SoundCall.to (he) (pf (B E = B false)) rfl) ob0) (by (simp_all [plainC, argsC])) (by first | rfl | (simp [*]; done))
 by_cases h1 : k = 1
 ·subst h1
  rcases Bool.eq_false_or_eq_true (v != 0) with hb1 | hb1
  ·have hb1' := hb1
   try simp only [decide_eq_true_eq, decide_eq_false_iff_not, beq_iff_eq, bne_iff_ne, ne_eq, beq_eq_false_iff_ne, bne_eq_false_iff_eq, Bool.not_eq_true'] at hb1'
   exact gR Tryz.func75 [rG, rG, rG, rS [(13, .bit true)], rG] [] [] (B false) ([]) (qV (v != 0) ob0) (by (simp_all [plainC, argsC])) (by first | rfl | (simp [*]; done))
  ·have hb1' := hb1
   try simp only [decide_eq_true_eq, decide_eq_false_iff_not, beq_iff_eq, bne_iff_ne, ne_eq, beq_eq_false_iff_ne, bne_eq_false_iff_eq, Bool.not_eq_true'] at hb1'
   rcases Bool.eq_false_or_eq_true (E) with hb2 | hb2
   ·have hb2' := hb2
    try simp only [decide_eq_true_eq, decide_eq_false_iff_not, beq_iff_eq, bne_iff_ne, ne_eq, beq_eq_false_iff_ne, bne_eq_false_iff_eq, Bool.not_eq_true'] at hb2'
    rcases bsp ((↑(List.length l) : Int)) (0) with ⟨hb3, hb3'⟩ | ⟨hb3, hb3'⟩
    ·skip
     exact gR Tryz.func75 [rG, rG, rG, rS [(13, .bit false), (23, .call (B true) [])], rG, rG, rG, rS [(2, .int (l.length : Int)), (3, .bit true)]] [] [] (B true) ([]) (qU (v != 0) (ob1 (SoundCall.to (he) (pf (B E = B true)) rfl) (qN Expr.encs l (qV ((l.length : Int) == 0) ob0)))) (by (simp_all [plainC, argsC])) (by first | rfl | (simp [*]; done))
    ·skip
     exact gR Tryz.func75 [rG, rG, rG, rS [(13, .bit false), (23, .call (B true) [])], rG, rG, rG, rS [(2, .int (l.length : Int)), (3, .bit false)]] [] [] (B false) ([]) (qU (v != 0) (ob1 (SoundCall.to (he) (pf (B E = B true)) rfl) (qN Expr.encs l (qU ((l.length : Int) == 0) ob0)))) (by (simp_all [plainC, argsC])) (by first | rfl | (simp [*]; done))
   ·have hb2' := hb2
    try simp only [decide_eq_true_eq, decide_eq_false_iff_not, beq_iff_eq, bne_iff_ne, ne_eq, beq_eq_false_iff_ne, bne_eq_false_iff_eq, Bool.not_eq_true'] at hb2'
    exact gR Tryz.func75 [rG, rG, rG, rS [(13, .bit false), (23, .call (B false) [])], rG] [] [] (B false) ([]) (qU (v != 0) (ob1 (SoundCall.to (he) (pf (B E = B false)) rfl) ob0)) (by (simp_all [plainC, argsC])) (by first | rfl | (simp [*]; done))
 by_cases h2 : k = 2
 ·subst h2
  rcases Bool.eq_false_or_eq_true (v != 0) with hb1 | hb1
  ·have hb1' := hb1
   try simp only [decide_eq_true_eq, decide_eq_false_iff_not, beq_iff_eq, bne_iff_ne, ne_eq, beq_eq_false_iff_ne, bne_eq_false_iff_eq, Bool.not_eq_true'] at hb1'
   exact gR Tryz.func75 [rG, rG, rG, rS [(13, .bit true)], rG] [] [] (B false) ([]) (qV (v != 0) ob0) (by (simp_all [plainC, argsC])) (by first | rfl | (simp [*]; done))
  ·have hb1' := hb1
   try simp only [decide_eq_true_eq, decide_eq_false_iff_not, beq_iff_eq, bne_iff_ne, ne_eq, beq_eq_false_iff_ne, bne_eq_false_iff_eq, Bool.not_eq_true'] at hb1'
   rcases Bool.eq_false_or_eq_true (E) with hb2 | hb2
   ·have hb2' := hb2
    try simp only [decide_eq_true_eq, decide_eq_false_iff_not, beq_iff_eq, bne_iff_ne, ne_eq, beq_eq_false_iff_ne, bne_eq_false_iff_eq, Bool.not_eq_true'] at hb2'
    rcases bsp ((↑(List.length l) : Int)) (0) with ⟨hb3, hb3'⟩ | ⟨hb3, hb3'⟩
    ·skip
     exact gR Tryz.func75 [rG, rG, rG, rS [(13, .bit false), (23, .call (B true) [])], rG, rG, rG, rG, rS [(2, .int (l.length : Int)), (3, .bit true)]] [] [] (B true) ([]) (qU (v != 0) (ob1 (SoundCall.to (he) (pf (B E = B true)) rfl) (qN Expr.encs l (qV ((l.length : Int) == 0) ob0)))) (by (simp_all [plainC, argsC])) (by first | rfl | (simp [*]; done))
    ·skip
     exact gR Tryz.func75 [rG, rG, rG, rS [(13, .bit false), (23, .call (B true) [])], rG, rG, rG, rG, rS [(2, .int (l.length : Int)), (3, .bit false)]] [] [] (B false) ([]) (qU (v != 0) (ob1 (SoundCall.to (he) (pf (B E = B true)) rfl) (qN Expr.encs l (qU ((l.length : Int) == 0) ob0)))) (by (simp_all [plainC, argsC])) (by first | rfl | (simp [*]; done))
   ·have hb2' := hb2
    try simp only [decide_eq_true_eq, decide_eq_false_iff_not, beq_iff_eq, bne_iff_ne, ne_eq, beq_eq_false_iff_ne, bne_eq_false_iff_eq, Bool.not_eq_true'] at hb2'
    exact gR Tryz.func75 [rG, rG, rG, rS [(13, .bit false), (23, .call (B false) [])], rG] [] [] (B false) ([]) (qU (v != 0) (ob1 (SoundCall.to (he) (pf (B E = B false)) rfl) ob0)) (by (simp_all [plainC, argsC])) (by first | rfl | (simp [*]; done))
 by_cases h3 : k = 3
 ·subst h3
  rcases Bool.eq_false_or_eq_true (n != 0) with hb1 | hb1
  ·have hb1' := hb1
   try simp only [decide_eq_true_eq, decide_eq_false_iff_not, beq_iff_eq, bne_iff_ne, ne_eq, beq_eq_false_iff_ne, bne_eq_false_iff_eq, Bool.not_eq_true'] at hb1'
   exact gR Tryz.func75 [rG, rG, rG, rS [(5, .bit true)], rG] [] [] (B false) ([]) (qV (n != 0) ob0) (by (simp_all [plainC, argsC])) (by first | rfl | (simp [*]; done))
  ·have hb1' := hb1
   try simp only [decide_eq_true_eq, decide_eq_false_iff_not, beq_iff_eq, bne_iff_ne, ne_eq, beq_eq_false_iff_ne, bne_eq_false_iff_eq, Bool.not_eq_true'] at hb1'
   rcases Bool.eq_false_or_eq_true (v != 0) with hb2 | hb2
   ·have hb2' := hb2
    try simp only [decide_eq_true_eq, decide_eq_false_iff_not, beq_iff_eq, bne_iff_ne, ne_eq, beq_eq_false_iff_ne, bne_eq_false_iff_eq, Bool.not_eq_true'] at hb2'
    exact gR Tryz.func75 [rG, rG, rG, rS [(5, .bit false), (13, .bit true)], rG] [] [] (B false) ([]) (qU (n != 0) (qV (v != 0) ob0)) (by (simp_all [plainC, argsC])) (by first | rfl | (simp [*]; done))
   ·have hb2' := hb2
    try simp only [decide_eq_true_eq, decide_eq_false_iff_not, beq_iff_eq, bne_iff_ne, ne_eq, beq_eq_false_iff_ne, bne_eq_false_iff_eq, Bool.not_eq_true'] at hb2'
    rcases Bool.eq_false_or_eq_true (E) with hb3 | hb3
    ·have hb3' := hb3
     try simp only [decide_eq_true_eq, decide_eq_false_iff_not, beq_iff_eq, bne_iff_ne, ne_eq, beq_eq_false_iff_ne, bne_eq_false_iff_eq, Bool.not_eq_true'] at hb3'
     rcases bsp ((↑(List.length l) : Int)) (2) with ⟨hb4, hb4'⟩ | ⟨hb4, hb4'⟩
     ·skip
      exact gR Tryz.func75 ([rG, rG, rG, rS [(5, .bit false), (13, .bit false), (23, .call (B true) [])]] ++ (rGs 6 [rS [(2, .int (l.length : Int)), (3, .bit true)]])) [] [] (B true) ([]) (qU (n != 0) (qU (v != 0) (ob1 (SoundCall.to (he) (pf (B E = B true)) rfl) (qN Expr.encs l (qV ((l.length : Int) == 2) ob0))))) (by (simp_all [plainC, argsC])) (by first | rfl | (simp [*]; done))
     ·skip
      exact gR Tryz.func75 ([rG, rG, rG, rS [(5, .bit false), (13, .bit false), (23, .call (B true) [])]] ++ (rGs 6 [rS [(2, .int (l.length : Int)), (3, .bit false)]])) [] [] (B false) ([]) (qU (n != 0) (qU (v != 0) (ob1 (SoundCall.to (he) (pf (B E = B true)) rfl) (qN Expr.encs l (qU ((l.length : Int) == 2) ob0))))) (by (simp_all [plainC, argsC])) (by first | rfl | (simp [*]; done))
    ·have hb3' := hb3
     try simp only [decide_eq_true_eq, decide_eq_false_iff_not, beq_iff_eq, bne_iff_ne, ne_eq, beq_eq_false_iff_ne, bne_eq_false_iff_eq, Bool.not_eq_true'] at hb3'
     exact gR Tryz.func75 [rG, rG, rG, rS [(5, .bit false), (13, .bit false), (23, .call (B false) [])], rG] [] [] (B false) ([]) (qU (n != 0) (qU (v != 0) (ob1 (SoundCall.to (he) (pf (B E = B false)) rfl) ob0))) (by (simp_all [plainC, argsC])) (by first | rfl | (simp [*]; done))
 by_cases h4 : k = 4
 ·subst h4
  rcases Bool.eq_false_or_eq_true (n != 0) with hb1 | hb1
  ·have hb1' := hb1
   try simp only [decide_eq_true_eq, decide_eq_false_iff_not, beq_iff_eq, bne_iff_ne, ne_eq, beq_eq_false_iff_ne, bne_eq_false_iff_eq, Bool.not_eq_true'] at hb1'
   exact gR Tryz.func75 [rG, rG, rG, rS [(5, .bit true)], rG] [] [] (B false) ([]) (qV (n != 0) ob0) (by (simp_all [plainC, argsC])) (by first | rfl | (simp [*]; done))
  ·have hb1' := hb1
   try simp only [decide_eq_true_eq, decide_eq_false_iff_not, beq_iff_eq, bne_iff_ne, ne_eq, beq_eq_false_iff_ne, bne_eq_false_iff_eq, Bool.not_eq_true'] at hb1'
   rcases Bool.eq_false_or_eq_true (v != 0) with hb2 | hb2
   ·have hb2' := hb2
    try simp only [decide_eq_true_eq, decide_eq_false_iff_not, beq_iff_eq, bne_iff_ne, ne_eq, beq_eq_false_iff_ne, bne_eq_false_iff_eq, Bool.not_eq_true'] at hb2'
    exact gR Tryz.func75 [rG, rG, rG, rS [(5, .bit false), (13, .bit true)], rG] [] [] (B false) ([]) (qU (n != 0) (qV (v != 0) ob0)) (by (simp_all [plainC, argsC])) (by first | rfl | (simp [*]; done))
   ·have hb2' := hb2
    try simp only [decide_eq_true_eq, decide_eq_false_iff_not, beq_iff_eq, bne_iff_ne, ne_eq, beq_eq_false_iff_ne, bne_eq_false_iff_eq, Bool.not_eq_true'] at hb2'
    rcases bsp ((↑(List.length l) : Int)) (1) with ⟨hb3, hb3'⟩ | ⟨hb3, hb3'⟩
    ·skip
     exact gR Tryz.func75 ([rG, rG, rG, rS [(5, .bit false), (13, .bit false)]] ++ (rGs 8 [rS [(2, .int (l.length : Int)), (3, .bit true)]])) [] [] (B true) ([]) (qU (n != 0) (qU (v != 0) (qN Expr.encs l (qV ((l.length : Int) == 1) ob0)))) (by (simp_all [plainC, argsC])) (by first | rfl | (simp [*]; done))
    ·skip
     exact gR Tryz.func75 ([rG, rG, rG, rS [(5, .bit false), (13, .bit false)]] ++ (rGs 8 [rS [(2, .int (l.length : Int)), (3, .bit false)]])) [] [] (B false) ([]) (qU (n != 0) (qU (v != 0) (qN Expr.encs l (qU ((l.length : Int) == 1) ob0)))) (by (simp_all [plainC, argsC])) (by first | rfl | (simp [*]; done))
 by_cases h5 : k = 5
 ·subst h5
  rcases Bool.eq_false_or_eq_true (n != 0) with hb1 | hb1
  ·have hb1' := hb1
   try simp only [decide_eq_true_eq, decide_eq_false_iff_not, beq_iff_eq, bne_iff_ne, ne_eq, beq_eq_false_iff_ne, bne_eq_false_iff_eq, Bool.not_eq_true'] at hb1'
   exact gR Tryz.func75 [rG, rG, rG, rS [(5, .bit true)], rG] [] [] (B false) ([]) (qV (n != 0) ob0) (by (simp_all [plainC, argsC])) (by first | rfl | (simp [*]; done))
  ·have hb1' := hb1
   try simp only [decide_eq_true_eq, decide_eq_false_iff_not, beq_iff_eq, bne_iff_ne, ne_eq, beq_eq_false_iff_ne, bne_eq_false_iff_eq, Bool.not_eq_true'] at hb1'
   rcases Bool.eq_false_or_eq_true (v != 0) with hb2 | hb2
   ·have hb2' := hb2
    try simp only [decide_eq_true_eq, decide_eq_false_iff_not, beq_iff_eq, bne_iff_ne, ne_eq, beq_eq_false_iff_ne, bne_eq_false_iff_eq, Bool.not_eq_true'] at hb2'
    exact gR Tryz.func75 [rG, rG, rG, rS [(5, .bit false), (13, .bit true)], rG] [] [] (B false) ([]) (qU (n != 0) (qV (v != 0) ob0)) (by (simp_all [plainC, argsC])) (by first | rfl | (simp [*]; done))
   ·have hb2' := hb2
    try simp only [decide_eq_true_eq, decide_eq_false_iff_not, beq_iff_eq, bne_iff_ne, ne_eq, beq_eq_false_iff_ne, bne_eq_false_iff_eq, Bool.not_eq_true'] at hb2'
    rcases Bool.eq_false_or_eq_true (E) with hb3 | hb3
    ·have hb3' := hb3
     try simp only [decide_eq_true_eq, decide_eq_false_iff_not, beq_iff_eq, bne_iff_ne, ne_eq, beq_eq_false_iff_ne, bne_eq_false_iff_eq, Bool.not_eq_true'] at hb3'
     rcases bsp ((↑(List.length l) : Int)) (2) with ⟨hb4, hb4'⟩ | ⟨hb4, hb4'⟩
     ·skip
      exact gR Tryz.func75 ([rG, rG, rG, rS [(5, .bit false), (13, .bit false), (23, .call (B true) [])]] ++ (rGs 7 [rS [(2, .int (l.length : Int)), (3, .bit true)]])) [] [] (B true) ([]) (qU (n != 0) (qU (v != 0) (ob1 (SoundCall.to (he) (pf (B E = B true)) rfl) (qN Expr.encs l (qV ((l.length : Int) == 2) ob0))))) (by (simp_all [plainC, argsC])) (by first | rfl | (simp [*]; done))
     ·skip
      exact gR Tryz.func75 ([rG, rG, rG, rS [(5, .bit false), (13, .bit false), (23, .call (B true) [])]] ++ (rGs 7 [rS [(2, .int (l.length : Int)), (3, .bit false)]])) [] [] (B false) ([]) (qU (n != 0) (qU (v != 0) (ob1 (SoundCall.to (he) (pf (B E = B true)) rfl) (qN Expr.encs l (qU ((l.length : Int) == 2) ob0))))) (by (simp_all [plainC, argsC])) (by first | rfl | (simp [*]; done))
    ·have hb3' := hb3
     try simp only [decide_eq_true_eq, decide_eq_false_iff_not, beq_iff_eq, bne_iff_ne, ne_eq, beq_eq_false_iff_ne, bne_eq_false_iff_eq, Bool.not_eq_true'] at hb3'
     exact gR Tryz.func75 [rG, rG, rG, rS [(5, .bit false), (13, .bit false), (23, .call (B false) [])], rG] [] [] (B false) ([]) (qU (n != 0) (qU (v != 0) (ob1 (SoundCall.to (he) (pf (B E = B false)) rfl) ob0))) (by (simp_all [plainC, argsC])) (by first | rfl | (simp [*]; done))
 by_cases h6 : k = 6
 ·subst h6
  rcases Bool.eq_false_or_eq_true (n != 0) with hb1 | hb1
  ·have hb1' := hb1
   try simp only [decide_eq_true_eq, decide_eq_false_iff_not, beq_iff_eq, bne_iff_ne, ne_eq, beq_eq_false_iff_ne, bne_eq_false_iff_eq, Bool.not_eq_true'] at hb1'
   exact gR Tryz.func75 [rG, rG, rG, rS [(5, .bit true)], rG] [] [] (B false) ([]) (qV (n != 0) ob0) (by (simp_all [plainC, argsC])) (by first | rfl | (simp [*]; done))
  ·have hb1' := hb1
   try simp only [decide_eq_true_eq, decide_eq_false_iff_not, beq_iff_eq, bne_iff_ne, ne_eq, beq_eq_false_iff_ne, bne_eq_false_iff_eq, Bool.not_eq_true'] at hb1'
   rcases Bool.eq_false_or_eq_true (v != 0) with hb2 | hb2
   ·have hb2' := hb2
    try simp only [decide_eq_true_eq, decide_eq_false_iff_not, beq_iff_eq, bne_iff_ne, ne_eq, beq_eq_false_iff_ne, bne_eq_false_iff_eq, Bool.not_eq_true'] at hb2'
    exact gR Tryz.func75 [rG, rG, rG, rS [(5, .bit false), (13, .bit true)], rG] [] [] (B false) ([]) (qU (n != 0) (qV (v != 0) ob0)) (by (simp_all [plainC, argsC])) (by first | rfl | (simp [*]; done))
   ·have hb2' := hb2
    try simp only [decide_eq_true_eq, decide_eq_false_iff_not, beq_iff_eq, bne_iff_ne, ne_eq, beq_eq_false_iff_ne, bne_eq_false_iff_eq, Bool.not_eq_true'] at hb2'
    rcases Bool.eq_false_or_eq_true (E) with hb3 | hb3
    ·have hb3' := hb3
     try simp only [decide_eq_true_eq, decide_eq_false_iff_not, beq_iff_eq, bne_iff_ne, ne_eq, beq_eq_false_iff_ne, bne_eq_false_iff_eq, Bool.not_eq_true'] at hb3'
     rcases dsp (0 < (↑(List.length l) : Int)) with ⟨hb4, hb4'⟩ | ⟨hb4, hb4'⟩
     ·skip
      exact gR Tryz.func75 ([rG, rG, rG, rS [(5, .bit false), (13, .bit false), (23, .call (B true) [])]] ++ (rGs 9 [rS [(6, .int (l.length : Int)), (7, .bit true)]])) [] [] (B true) ([]) (qU (n != 0) (qU (v != 0) (ob1 (SoundCall.to (he) (pf (B E = B true)) rfl) (qN Expr.encs l (qT (0 < (l.length : Int)) ob0))))) (by (simp_all [plainC, argsC])) (by first | rfl | (simp [*]; done))
     ·skip
      exact gR Tryz.func75 ([rG, rG, rG, rS [(5, .bit false), (13, .bit false), (23, .call (B true) [])]] ++ (rGs 9 [rS [(6, .int (l.length : Int)), (7, .bit false)]])) [] [] (B false) ([]) (qU (n != 0) (qU (v != 0) (ob1 (SoundCall.to (he) (pf (B E = B true)) rfl) (qN Expr.encs l (qF (0 < (l.length : Int)) ob0))))) (by (simp_all [plainC, argsC])) (by first | rfl | (simp [*]; done))
    ·have hb3' := hb3
     try simp only [decide_eq_true_eq, decide_eq_false_iff_not, beq_iff_eq, bne_iff_ne, ne_eq, beq_eq_false_iff_ne, bne_eq_false_iff_eq, Bool.not_eq_true'] at hb3'
     exact gR Tryz.func75 [rG, rG, rG, rS [(5, .bit false), (13, .bit false), (23, .call (B false) [])], rG] [] [] (B false) ([]) (qU (n != 0) (qU (v != 0) (ob1 (SoundCall.to (he) (pf (B E = B false)) rfl) ob0))) (by (simp_all [plainC, argsC])) (by first | rfl | (simp [*]; done))
 by_cases h7 : k = 7
 ·subst h7
  rcases Bool.eq_false_or_eq_true (v != 0) with hb1 | hb1
  ·have hb1' := hb1
   try simp only [decide_eq_true_eq, decide_eq_false_iff_not, beq_iff_eq, bne_iff_ne, ne_eq, beq_eq_false_iff_ne, bne_eq_false_iff_eq, Bool.not_eq_true'] at hb1'
   exact gR Tryz.func75 [rG, rG, rG, rS [(13, .bit true)], rG] [] [] (B false) ([]) (qV (v != 0) ob0) (by (simp_all [plainC, argsC])) (by first | rfl | (simp [*]; done))
  ·have hb1' := hb1
   try simp only [decide_eq_true_eq, decide_eq_false_iff_not, beq_iff_eq, bne_iff_ne, ne_eq, beq_eq_false_iff_ne, bne_eq_false_iff_eq, Bool.not_eq_true'] at hb1'
   rcases Bool.eq_false_or_eq_true (E) with hb2 | hb2
   ·have hb2' := hb2
    try simp only [decide_eq_true_eq, decide_eq_false_iff_not, beq_iff_eq, bne_iff_ne, ne_eq, beq_eq_false_iff_ne, bne_eq_false_iff_eq, Bool.not_eq_true'] at hb2'
    rcases bsp ((↑(List.length l) : Int)) (1) with ⟨hb3, hb3'⟩ | ⟨hb3, hb3'⟩
    ·skip
     exact gR Tryz.func75 ([rG, rG, rG, rS [(13, .bit false), (23, .call (B true) [])]] ++ (rGs 9 [rS [(2, .int (l.length : Int)), (3, .bit true)]])) [] [] (B true) ([]) (qU (v != 0) (ob1 (SoundCall.to (he) (pf (B E = B true)) rfl) (qN Expr.encs l (qV ((l.length : Int) == 1) ob0)))) (by (simp_all [plainC, argsC])) (by first | rfl | (simp [*]; done))
    ·skip
     exact gR Tryz.func75 ([rG, rG, rG, rS [(13, .bit false), (23, .call (B true) [])]] ++ (rGs 9 [rS [(2, .int (l.length : Int)), (3, .bit false)]])) [] [] (B false) ([]) (qU (v != 0) (ob1 (SoundCall.to (he) (pf (B E = B true)) rfl) (qN Expr.encs l (qU ((l.length : Int) == 1) ob0)))) (by (simp_all [plainC, argsC])) (by first | rfl | (simp [*]; done))
   ·have hb2' := hb2
    try simp only [decide_eq_true_eq, decide_eq_false_iff_not, beq_iff_eq, bne_iff_ne, ne_eq, beq_eq_false_iff_ne, bne_eq_false_iff_eq, Bool.not_eq_true'] at hb2'
    exact gR Tryz.func75 [rG, rG, rG, rS [(13, .bit false), (23, .call (B false) [])], rG] [] [] (B false) ([]) (qU (v != 0) (ob1 (SoundCall.to (he) (pf (B E = B false)) rfl) ob0)) (by (simp_all [plainC, argsC])) (by first | rfl | (simp [*]; done))
 by_cases h8 : k = 8
 ·subst h8
  rcases Bool.eq_false_or_eq_true (n != 0) with hb1 | hb1
  ·have hb1' := hb1
   try simp only [decide_eq_true_eq, decide_eq_false_iff_not, beq_iff_eq, bne_iff_ne, ne_eq, beq_eq_false_iff_ne, bne_eq_false_iff_eq, Bool.not_eq_true'] at hb1'
   exact gR Tryz.func75 [rG, rG, rG, rS [(5, .bit true)], rG] [] [] (B false) ([]) (qV (n != 0) ob0) (by (simp_all [plainC, argsC])) (by first | rfl | (simp [*]; done))
  ·have hb1' := hb1
   try simp only [decide_eq_true_eq, decide_eq_false_iff_not, beq_iff_eq, bne_iff_ne, ne_eq, beq_eq_false_iff_ne, bne_eq_false_iff_eq, Bool.not_eq_true'] at hb1'
   rcases Bool.eq_false_or_eq_true (E) with hb2 | hb2
   ·have hb2' := hb2
    try simp only [decide_eq_true_eq, decide_eq_false_iff_not, beq_iff_eq, bne_iff_ne, ne_eq, beq_eq_false_iff_ne, bne_eq_false_iff_eq, Bool.not_eq_true'] at hb2'
    rcases bsp ((↑(List.length l) : Int)) (0) with ⟨hb3, hb3'⟩ | ⟨hb3, hb3'⟩
    ·skip
     exact gR Tryz.func75 ([rG, rG, rG, rS [(5, .bit false), (23, .call (B true) [])]] ++ (rGs 5 [rS [(2, .int (l.length : Int)), (3, .bit true)]])) [] [] (B true) ([]) (qU (n != 0) (ob1 (SoundCall.to (he) (pf (B E = B true)) rfl) (qN Expr.encs l (qV ((l.length : Int) == 0) ob0)))) (by (simp_all [plainC, argsC])) (by first | rfl | (simp [*]; done))
    ·skip
     exact gR Tryz.func75 ([rG, rG, rG, rS [(5, .bit false), (23, .call (B true) [])]] ++ (rGs 5 [rS [(2, .int (l.length : Int)), (3, .bit false)]])) [] [] (B false) ([]) (qU (n != 0) (ob1 (SoundCall.to (he) (pf (B E = B true)) rfl) (qN Expr.encs l (qU ((l.length : Int) == 0) ob0)))) (by (simp_all [plainC, argsC])) (by first | rfl | (simp [*]; done))
   ·have hb2' := hb2
    try simp only [decide_eq_true_eq, decide_eq_false_iff_not, beq_iff_eq, bne_iff_ne, ne_eq, beq_eq_false_iff_ne, bne_eq_false_iff_eq, Bool.not_eq_true'] at hb2'
    exact gR Tryz.func75 [rG, rG, rG, rS [(5, .bit false), (23, .call (B false) [])], rG] [] [] (B false) ([]) (qU (n != 0) (ob1 (SoundCall.to (he) (pf (B E = B false)) rfl) ob0)) (by (simp_all [plainC, argsC])) (by first | rfl | (simp [*]; done))
 ·rcases Bool.eq_false_or_eq_true (n != 0) with hb1 | hb1
  ·have hb1' := hb1
   try simp only [decide_eq_true_eq, decide_eq_false_iff_not, beq_iff_eq, bne_iff_ne, ne_eq, beq_eq_false_iff_ne, bne_eq_false_iff_eq, Bool.not_eq_true'] at hb1'
   exact gR Tryz.func75 [rG, rS [(2, .bit false), (6, .bit false), (11, .bit false), (16, .bit false)], rS [(2, .bit false), (6, .bit false)], rS [(5, .bit true)], rG] [] [] (B false) ([]) (qU (k == 0) (qU (k == 1) (qU (k == 2) (qU (k == 7) (qU (k == 0) (qU (k == 8) (qV (n != 0) ob0))))))) (by (simp_all [plainC, argsC])) (by first | rfl | (simp [*]; done))
  ·have hb1' := hb1
   try simp only [decide_eq_true_eq, decide_eq_false_iff_not, beq_iff_eq, bne_iff_ne, ne_eq, beq_eq_false_iff_ne, bne_eq_false_iff_eq, Bool.not_eq_true'] at hb1'
   rcases Bool.eq_false_or_eq_true (v != 0) with hb2 | hb2
   ·have hb2' := hb2
    try simp only [decide_eq_true_eq, decide_eq_false_iff_not, beq_iff_eq, bne_iff_ne, ne_eq, beq_eq_false_iff_ne, bne_eq_false_iff_eq, Bool.not_eq_true'] at hb2'
    exact gR Tryz.func75 [rG, rS [(2, .bit false), (6, .bit false), (11, .bit false), (16, .bit false)], rS [(2, .bit false), (6, .bit false)], rS [(5, .bit false), (13, .bit true)], rG] [] [] (B false) ([]) (qU (k == 0) (qU (k == 1) (qU (k == 2) (qU (k == 7) (qU (k == 0) (qU (k == 8) (qU (n != 0) (qV (v != 0) ob0)))))))) (by (simp_all [plainC, argsC])) (by first | rfl | (simp [*]; done))
   ·have hb2' := hb2
    try simp only [decide_eq_true_eq, decide_eq_false_iff_not, beq_iff_eq, bne_iff_ne, ne_eq, beq_eq_false_iff_ne, bne_eq_false_iff_eq, Bool.not_eq_true'] at hb2'
    rcases Bool.eq_false_or_eq_true (E) with hb3 | hb3
    ·have hb3' := hb3
     try simp only [decide_eq_true_eq, decide_eq_false_iff_not, beq_iff_eq, bne_iff_ne, ne_eq, beq_eq_false_iff_ne, bne_eq_false_iff_eq, Bool.not_eq_true'] at hb3'
     exact gR Tryz.func75 [rG, rS [(2, .bit false), (6, .bit false), (11, .bit false), (16, .bit false)], rS [(2, .bit false), (6, .bit false)], rS [(5, .bit false), (13, .bit false), (19, .bit true), (23, .call (B true) [])], rG, rS [(0, .bit false)], rS [(0, .bit false)], rS [(0, .bit false)], rS [(0, .bit false)], rS [(0, .bit false)], rS [(0, .bit false)], rS [(0, .bit false)], rS [(0, .bit false)], rS [(2, .bit false)]] [] [] (B false) ([]) (qU (k == 0) (qU (k == 1) (qU (k == 2) (qU (k == 7) (qU (k == 0) (qU (k == 8) (qU (n != 0) (qU (v != 0) (qV (k != 4) (ob1 (SoundCall.to (he) (pf (B E = B true)) rfl) (qU (k == 0) (qU (k == 1) (qU (k == 2) (qU (k == 8) (qU (k == 3) (qU (k == 5) (qU (k == 4) (qU (k == 7) (qU (k == 6) ob0))))))))))))))))))) (by (simp_all [plainC, argsC])) (by first | rfl | (simp [*]; done))
    ·have hb3' := hb3
     try simp only [decide_eq_true_eq, decide_eq_false_iff_not, beq_iff_eq, bne_iff_ne, ne_eq, beq_eq_false_iff_ne, bne_eq_false_iff_eq, Bool.not_eq_true'] at hb3'
     exact gR Tryz.func75 [rG, rS [(2, .bit false), (6, .bit false), (11, .bit false), (16, .bit false)], rS [(2, .bit false), (6, .bit false)], rS [(5, .bit false), (13, .bit false), (19, .bit true), (23, .call (B false) [])], rG] [] [] (B false) ([]) (qU (k == 0) (qU (k == 1) (qU (k == 2) (qU (k == 7) (qU (k == 0) (qU (k == 8) (qU (n != 0) (qU (v != 0) (qV (k != 4) (ob1 (SoundCall.to (he) (pf (B E = B false)) rfl) ob0)))))))))) (by (simp_all [plainC, argsC])) (by first | rfl | (simp [*]; done))
end Go.Ae
namespace Go.Ae
open Go.Proofs
structure Def where
 name : ByteArray
 param : Ty
 result : Ty
 body : Expr
def Def.enc (d : Def) : List AV := S d.name :: (d.param.enc ++ (d.result.enc ++ d.body.enc))
def Def.encs : List Def → List (List AV)
 | [] => []
 | d :: l => d.enc :: Def.encs l
@[simp] theorem Def.encs_length : ∀ l : List Def, (Def.encs l).length = l.length
 | [] => rfl
 | _ :: l => by simp [Def.encs, Def.encs_length l]
theorem Def.encs_get : ∀ (l : List Def) (i : Nat), (Def.encs l)[i]? = (l[i]?).map Def.enc
 | [], i => by simp [Def.encs]
 | t :: l, 0 => by simp [Def.encs]
 | t :: l, i + 1 => by simp [Def.encs, Def.encs_get l i]
def strs : List ByteArray → List (List AV)
 | [] => []
 | d :: l => [S d] :: strs l
@[simp] theorem strs_length : ∀ l : List ByteArray, (strs l).length = l.length
 | [] => rfl
 | _ :: l => by simp [strs, strs_length l]
theorem strs_get : ∀ (l : List ByteArray) (i : Nat), (strs l)[i]? = (l[i]?).map fun s => [S s]
 | [], i => by simp [strs]
 | t :: l, 0 => by simp [strs]
 | t :: l, i + 1 => by simp [strs, strs_get l i]
structure Prog where
 events : List ByteArray
 defs : List Def
 main : Expr
def Prog.enc (p : Prog) : List AV := .sl 1 (strs p.events) false :: .sl 14 (Def.encs p.defs) false :: p.main.enc
def Def.ok (d : Def) : Prop := d.name.size ≤ 281474976710656 ∧ d.param.ok ∧ d.result.ok ∧ d.body.ok
def Prog.ok (p : Prog) : Prop := p.events.length ≤ 281474976710656 ∧ (∀ s ∈ p.events, s.size ≤ 281474976710656) ∧ p.defs.length ≤ 281474976710656 ∧ (∀ d ∈ p.defs, d.ok) ∧ p.main.ok
def tyZ : Ty := .mk 0 0 []
def tyF (k : Int) : Ty := .mk 0 k []
noncomputable def appC (f x : Ty) : Ty × Bool :=
 match f with
 | .mk fk _ (t :: u :: _) => if fk = 1 ∧ t = x then (u, true) else (tyZ, false)
 | _ => (tyZ, false)
theorem appC_ne {fk fv : Int} {fl : List Ty} {x : Ty} (h : fk ≠ 1) : appC (.mk fk fv fl) x = (tyZ, false) := by
 match fl with
 | [] => rfl
 | [_] => rfl
 | _ :: _ :: _ => simp [appC, h]
theorem appC_two {fv : Int} {t u x : Ty} : appC (.mk 1 fv [t, u]) x = if t = x then (u, true) else (tyZ, false) := by simp [appC]
noncomputable def tImp (p : Prog) : Expr → List Ty → Ty × Bool
 | .mk k n v ty l, sc =>
  if k = 0 then (tyF v, onlyC (.mk k n v ty l) true true false 0 && decide (1 ≤ v) && decide (v ≤ 4) && decide (0 ≤ n) && decide (n < v))
  else if k = 8 then (tyF v, onlyC (.mk k n v ty l) false true false 0 && decide (1 ≤ v) && decide (v ≤ 4))
  else if k = 1 then
   (if onlyC (.mk k n v ty l) true false false 0 && decide (0 ≤ n) && decide (n < (sc.length : Int)) then
    (match sc[sc.length - 1 - n.toNat]? with
    | some t => (t, true)
    | none => (tyZ, false)) else (tyZ, false))
  else if k = 2 then
   (if onlyC (.mk k n v ty l) true false false 0 && decide (0 ≤ n) && decide (n < (p.defs.length : Int)) then
    (match p.defs[n.toNat]? with
    | some d => (.mk 1 0 [d.param, d.result], (tyC (.mk 1 0 [d.param, d.result]) 20).1)
    | none => (tyZ, false)) else (tyZ, false))
  else if k = 7 then
   (match l with
   | [a] => if onlyC (.mk k n v ty [a]) true false false 1 && decide (0 ≤ n) && decide (n < (p.events.length : Int)) then tImp p a sc else (tyZ, false)
   | _ => (tyZ, false))
  else if k = 3 then
   (match l with
   | [a, b] => if onlyC (.mk k n v ty [a, b]) false false false 2 then
     (let f := tImp p a sc
      let x := tImp p b sc
      if f.2 && x.2 then appC f.1 x.1 else (tyZ, false))
    else (tyZ, false)
   | _ => (tyZ, false))
  else if k = 4 then
   (match l with
   | [a] => if onlyC (.mk k n v ty [a]) false false true 1 && (tyC ty 20).1 then
     (let b := tImp p a (sc ++ [ty])
      if b.2 && (tyC (.mk 1 0 [ty, b.1]) 20).1 then (.mk 1 0 [ty, b.1], true) else (tyZ, false))
    else (tyZ, false)
   | _ => (tyZ, false))
  else if k = 5 then
   (match l with
   | [a, b] => if onlyC (.mk k n v ty [a, b]) false false false 2 then
     (let x := tImp p a sc
      if x.2 then tImp p b (sc ++ [x.1]) else (tyZ, false))
    else (tyZ, false)
   | _ => (tyZ, false))
  else if k = 6 then
   (match l with
   | a :: b :: r => if onlyC (.mk k n v ty (a :: b :: r)) false false false (-1) then
     (let x := tImp p a sc
      if x.2 then (match x.1 with
      | .mk xk xv _ => if xk = 0 ∧ xv = ((b :: r).length : Int) then
        (let f := tImp p b sc
         (f.1, r.attach.foldl (fun ok c => ok && (tImp p c.1 sc).2 && decide (f.1 = (tImp p c.1 sc).1)) f.2))
       else (tyZ, false)) else (tyZ, false))
    else (tyZ, false)
   | _ => (tyZ, false))
  else (tyZ, false)
termination_by e => SizeOf.sizeOf e
decreasing_by all_goals (simp_wf; first | omega | (have := List.sizeOf_lt_of_mem c.2; omega))
end Go.Ae
namespace Go.Ae
open Go.Proofs
theorem type_const (es : List ByteArray) (ds : List Def) (mk mn mv mtk mtv : Int) (mtl : List Ty) (ml : List Expr) (sc : List Ty) (n v tk tv : Int) (tl : List Ty) (l : List Expr) :
  SC 61 [.agg [B false], .agg (Prog.enc ⟨es, ds, .mk mk mn mv (.mk mtk mtv mtl) ml⟩), .sl 3 (Ty.encs sc) false, .agg (Expr.mk 0 n v (.mk tk tv tl) l).enc] []
   (.tup [.agg (tyF v).enc, B (onlyC (.mk 0 n v (.mk tk tv tl) l) true true false 0 && decide (1 ≤ v) && decide (v ≤ 4) && decide (0 ≤ n) && decide (n < v))]) [] := by
 have ho := only_ 0 n v tk tv tl l true true false 0
 have hf := fin_0 v
 generalize onlyC (.mk 0 n v (.mk tk tv tl) l) true true false 0 = E at ho ⊢
 cases E with
 | true =>
  rcases dsp (1 ≤ v) with ⟨hb1, hb1'⟩ | ⟨hb1, hb1'⟩
  ·skip
   rcases dsp (v ≤ 4) with ⟨hb2, hb2'⟩ | ⟨hb2, hb2'⟩
   ·skip
    rcases dsp (0 ≤ n) with ⟨hb3, hb3'⟩ | ⟨hb3, hb3'⟩
    ·skip
     rcases dsp (n < v) with ⟨hb4, hb4'⟩ | ⟨hb4, hb4'⟩
     ·skip
      exact gR Tryz.func61 [rG, rG, rG, rS [(2, oC hf), (4, oC ho), (8, .bit true), (13, .bit true), (18, .bit true), (25, .bit true)]] [.tidO 3 [none, none, some 3]] [] (.tup [.agg [I 0, I v, .sl 3 [] false], B true]) ([]) (ob1 (hf) (ob1 (ho) (qT (1 ≤ v) (qT (v ≤ 4) (qT (0 ≤ n) (qT (n < v) ob0)))))) (by (simp only [tyF, Ty.enc, Ty.encs, *, decide_true, decide_false, Bool.and_true, Bool.and_false, Bool.true_and, Bool.false_and])) (by first | rfl | (simp [*]; done))
     ·skip
      exact gR Tryz.func61 [rG, rG, rG, rS [(2, oC hf), (4, oC ho), (8, .bit true), (13, .bit true), (18, .bit true), (25, .bit false)]] [.tidO 3 [none, none, some 3]] [] (.tup [.agg [I 0, I v, .sl 3 [] false], B false]) ([]) (ob1 (hf) (ob1 (ho) (qT (1 ≤ v) (qT (v ≤ 4) (qT (0 ≤ n) (qF (n < v) ob0)))))) (by (simp only [tyF, Ty.enc, Ty.encs, *, decide_true, decide_false, Bool.and_true, Bool.and_false, Bool.true_and, Bool.false_and])) (by first | rfl | (simp [*]; done))
    ·skip
     exact gR Tryz.func61 [rG, rG, rG, rS [(2, oC hf), (4, oC ho), (8, .bit true), (13, .bit true), (18, .bit false)]] [.tidO 3 [none, none, some 3]] [] (.tup [.agg [I 0, I v, .sl 3 [] false], B false]) ([]) (ob1 (hf) (ob1 (ho) (qT (1 ≤ v) (qT (v ≤ 4) (qF (0 ≤ n) ob0))))) (by (simp only [tyF, Ty.enc, Ty.encs, *, decide_true, decide_false, Bool.and_true, Bool.and_false, Bool.true_and, Bool.false_and])) (by first | rfl | (simp [*]; done))
   ·skip
    exact gR Tryz.func61 [rG, rG, rG, rS [(2, oC hf), (4, oC ho), (8, .bit true), (13, .bit false)]] [.tidO 3 [none, none, some 3]] [] (.tup [.agg [I 0, I v, .sl 3 [] false], B false]) ([]) (ob1 (hf) (ob1 (ho) (qT (1 ≤ v) (qF (v ≤ 4) ob0)))) (by (simp only [tyF, Ty.enc, Ty.encs, *, decide_true, decide_false, Bool.and_true, Bool.and_false, Bool.true_and, Bool.false_and])) (by first | rfl | (simp [*]; done))
  ·skip
   exact gR Tryz.func61 [rG, rG, rG, rS [(2, oC hf), (4, oC ho), (8, .bit false)]] [.tidO 3 [none, none, some 3]] [] (.tup [.agg [I 0, I v, .sl 3 [] false], B false]) ([]) (ob1 (hf) (ob1 (ho) (qF (1 ≤ v) ob0))) (by (simp only [tyF, Ty.enc, Ty.encs, *, decide_true, decide_false, Bool.and_true, Bool.and_false, Bool.true_and, Bool.false_and])) (by first | rfl | (simp [*]; done))
 | false =>
  exact gK Tryz.func61 [rG, rG, rG, rS [(2, oC hf), (4, oC ho)]] [.tidO 3 [none, none, some 3]] [] (ob1 (hf) (ob1 (ho) ob0))
theorem type_pick (es : List ByteArray) (ds : List Def) (mk mn mv mtk mtv : Int) (mtl : List Ty) (ml : List Expr) (sc : List Ty) (n v tk tv : Int) (tl : List Ty) (l : List Expr) :
  SC 61 [.agg [B false], .agg (Prog.enc ⟨es, ds, .mk mk mn mv (.mk mtk mtv mtl) ml⟩), .sl 3 (Ty.encs sc) false, .agg (Expr.mk 8 n v (.mk tk tv tl) l).enc] []
   (.tup [.agg (tyF v).enc, B (onlyC (.mk 8 n v (.mk tk tv tl) l) false true false 0 && decide (1 ≤ v) && decide (v ≤ 4))]) [] := by
 have ho := only_ 8 n v tk tv tl l false true false 0
 have hf := fin_0 v
 generalize onlyC (.mk 8 n v (.mk tk tv tl) l) false true false 0 = E at ho ⊢
 cases E with
 | true =>
  rcases dsp (1 ≤ v) with ⟨hb1, hb1'⟩ | ⟨hb1, hb1'⟩
  ·skip
   rcases dsp (v ≤ 4) with ⟨hb2, hb2'⟩ | ⟨hb2, hb2'⟩
   ·skip
    exact gR Tryz.func61 (rGs 4 [rS [(2, oC hf), (4, oC ho), (8, .bit true), (13, .bit true)]]) [.tidO 3 [none, none, some 3]] [] (.tup [.agg [I 0, I v, .sl 3 [] false], B true]) ([]) (ob1 (hf) (ob1 (ho) (qT (1 ≤ v) (qT (v ≤ 4) ob0)))) (by (simp only [tyF, Ty.enc, Ty.encs, *, decide_true, decide_false, Bool.and_true, Bool.and_false, Bool.true_and, Bool.false_and])) (by first | rfl | (simp [*]; done))
   ·skip
    exact gR Tryz.func61 (rGs 4 [rS [(2, oC hf), (4, oC ho), (8, .bit true), (13, .bit false)]]) [.tidO 3 [none, none, some 3]] [] (.tup [.agg [I 0, I v, .sl 3 [] false], B false]) ([]) (ob1 (hf) (ob1 (ho) (qT (1 ≤ v) (qF (v ≤ 4) ob0)))) (by (simp only [tyF, Ty.enc, Ty.encs, *, decide_true, decide_false, Bool.and_true, Bool.and_false, Bool.true_and, Bool.false_and])) (by first | rfl | (simp [*]; done))
  ·skip
   exact gR Tryz.func61 (rGs 4 [rS [(2, oC hf), (4, oC ho), (8, .bit false)]]) [.tidO 3 [none, none, some 3]] [] (.tup [.agg [I 0, I v, .sl 3 [] false], B false]) ([]) (ob1 (hf) (ob1 (ho) (qF (1 ≤ v) ob0))) (by (simp only [tyF, Ty.enc, Ty.encs, *, decide_true, decide_false, Bool.and_true, Bool.and_false, Bool.true_and, Bool.false_and])) (by first | rfl | (simp [*]; done))
 | false =>
  exact gK Tryz.func61 (rGs 4 [rS [(2, oC hf), (4, oC ho)]]) [.tidO 3 [none, none, some 3]] [] (ob1 (hf) (ob1 (ho) ob0))
theorem type_var (es : List ByteArray) (ds : List Def) (mk mn mv mtk mtv : Int) (mtl : List Ty) (ml : List Expr) (sc : List Ty) (n v tk tv : Int) (tl : List Ty) (l : List Expr) (hs : sc.length ≤ 1000) :
  SC 61 [.agg [B false], .agg (Prog.enc ⟨es, ds, .mk mk mn mv (.mk mtk mtv mtl) ml⟩), .sl 3 (Ty.encs sc) false, .agg (Expr.mk 1 n v (.mk tk tv tl) l).enc] []
   (.tup [.agg (tImp ⟨es, ds, .mk mk mn mv (.mk mtk mtv mtl) ml⟩ (.mk 1 n v (.mk tk tv tl) l) sc).1.enc, B (tImp ⟨es, ds, .mk mk mn mv (.mk mtk mtv mtl) ml⟩ (.mk 1 n v (.mk tk tv tl) l) sc).2]) [] := by
 have ho := only_ 1 n v tk tv tl l true false false 0
 rw [tImp.eq_def]
 dsimp only
 simp only [show ¬ (1 : Int) = 0 by omega, show ¬ (1 : Int) = 8 by omega, if_false, if_true]
 generalize onlyC (.mk 1 n v (.mk tk tv tl) l) true false false 0 = E at ho ⊢
 cases E with
 | true =>
  by_cases h1 : 0 ≤ n
  ·by_cases h2 : n < (sc.length : Int)
   ·have hj : sc.length - 1 - n.toNat < sc.length := by omega
    obtain ⟨ka, va, la, hg⟩ : ∃ ka va la, sc[sc.length - 1 - n.toNat]? = some (Ty.mk ka va la) := by
     rcases hx : sc[sc.length - 1 - n.toNat]'hj with ⟨ka, va, la⟩
     exact ⟨ka, va, la, by rw [List.getElem?_eq_getElem hj, hx]⟩
    have hx : (Ty.encs sc)[sc.length - 1 - n.toNat]? = some (Ty.mk ka va la).enc := by rw [Ty.encs_get, hg]; rfl
    simp only [decide_eq_true h1, decide_eq_true h2, Bool.and_true, if_true, hg]
    exact gK Tryz.func61 (rGs 5 [rS [(1, oC ho), (6, .bit false), (12, .int (sc.length : Int)), (13, .bit false)], rS [(2, .int (sc.length : Int)), (3, .int ((sc.length : Int) - 1)), (6, .int ((sc.length : Int) - 1 - n)), (7, .row (List.length sc - 1 - Int.toNat n) (Ty.enc (Ty.mk ka va la)))]]) [.tidO 3 [none, none, some 3]] [] (ob1 (ho) (qF (n < 0) (qN Ty.encs sc (qF ((sc.length : Int) ≤ n) (qN Ty.encs sc (qw ((sc.length : Int) - 1) (qw ((sc.length : Int) - 1 - n) (q ((sc.length : Int) - 1 - n = (↑(List.length sc - 1 - Int.toNat n) : Int)) (q ((Ty.encs sc)[List.length sc - 1 - Int.toNat n]? = some (Ty.enc (Ty.mk ka va la))) ob0)))))))))
   ·simp only [decide_eq_false h2, Bool.and_false, Bool.false_eq_true, if_false]
    exact gK Tryz.func61 (rGs 5 [rS [(1, oC ho), (6, .bit false), (12, .int (sc.length : Int)), (13, .bit true)], rG]) [.tidO 3 [none, none, some 3]] [] (ob1 (ho) (qF (n < 0) (qN Ty.encs sc (qT ((sc.length : Int) ≤ n) ob0))))
  ·simp only [decide_eq_false h1, Bool.and_false, Bool.false_and, Bool.false_eq_true, if_false]
   exact gK Tryz.func61 (rGs 5 [rS [(1, oC ho), (6, .bit true)], rG]) [.tidO 3 [none, none, some 3]] [] (ob1 (ho) (qT (n < 0) ob0))
 | false =>
  simp only [Bool.false_and, Bool.false_eq_true, if_false]
  exact gK Tryz.func61 (rGs 5 [rS [(1, oC ho)], rG]) [.tidO 3 [none, none, some 3]] [] (ob1 (ho) ob0)
end Go.Ae
namespace Go.Ae
open Go.Proofs
theorem type_fun (es : List ByteArray) (ds : List Def) (mk mn mv mtk mtv : Int) (mtl : List Ty) (ml : List Expr) (sc : List Ty) (n v tk tv : Int) (tl : List Ty) (l : List Expr) (hs : ds.length ≤ 1000) (hd : ∀ d ∈ ds, d.ok) :
  SC 61 [.agg [B false], .agg (Prog.enc ⟨es, ds, .mk mk mn mv (.mk mtk mtv mtl) ml⟩), .sl 3 (Ty.encs sc) false, .agg (Expr.mk 2 n v (.mk tk tv tl) l).enc] []
   (.tup [.agg (tImp ⟨es, ds, .mk mk mn mv (.mk mtk mtv mtl) ml⟩ (.mk 2 n v (.mk tk tv tl) l) sc).1.enc, B (tImp ⟨es, ds, .mk mk mn mv (.mk mtk mtv mtl) ml⟩ (.mk 2 n v (.mk tk tv tl) l) sc).2]) [] := by
 have ho := only_ 2 n v tk tv tl l true false false 0
 rw [tImp.eq_def]
 dsimp only
 simp only [show ¬ (2 : Int) = 0 by omega, show ¬ (2 : Int) = 8 by omega, show ¬ (2 : Int) = 1 by omega, if_false, if_true]
 generalize onlyC (.mk 2 n v (.mk tk tv tl) l) true false false 0 = E at ho ⊢
 cases E with
 | true =>
  by_cases h1 : 0 ≤ n
  ·by_cases h2 : n < (ds.length : Int)
   ·have hj : n.toNat < ds.length := by omega
    obtain ⟨nm, ka, va, la, kb, vb, lb, bk, bn, bv, btk, btv, btl, bl, hg⟩ : ∃ nm ka va la kb vb lb bk bn bv btk btv btl bl, ds[n.toNat]? = some (Def.mk nm (.mk ka va la) (.mk kb vb lb) (.mk bk bn bv (.mk btk btv btl) bl)) := by
     rcases hx : ds[n.toNat]'hj with ⟨nm, ⟨ka, va, la⟩, ⟨kb, vb, lb⟩, ⟨bk, bn, bv, ⟨btk, btv, btl⟩, bl⟩⟩
     exact ⟨_, _, _, _, _, _, _, _, _, _, _, _, _, _, by rw [List.getElem?_eq_getElem hj, hx]⟩
    have hok := hd _ (List.mem_of_getElem? hg)
    have hx : (Def.encs ds)[n.toNat]? = some (Def.mk nm (.mk ka va la) (.mk kb vb lb) (.mk bk bn bv (.mk btk btv btl) bl)).enc := by rw [Def.encs_get, hg]; rfl
    have ht := isTy_ (.mk 1 0 [.mk ka va la, .mk kb vb lb]) ⟨by unfold ir; omega, by unfold ir; omega, by simp, hok.2.1, hok.2.2.1, trivial⟩
    simp only [decide_eq_true h1, decide_eq_true h2, Bool.and_true, if_true, hg]
    generalize (tyC (.mk 1 0 [.mk ka va la, .mk kb vb lb]) 20).1 = E2 at ht ⊢
    clear hok hd
    cases E2 with
    | true =>
     exact gK Tryz.func61 (rGs 6 [rS [(1, oC ho), (6, .bit false), (13, .int (ds.length : Int)), (14, .bit false)], rS [(4, .row (Int.toNat n) (Def.enc { name := nm, param := Ty.mk ka va la, result := Ty.mk kb vb lb, body := Expr.mk bk bn bv (Ty.mk btk btv btl) bl })), (11, .row (Int.toNat n) (Def.enc { name := nm, param := Ty.mk ka va la, result := Ty.mk kb vb lb, body := Expr.mk bk bn bv (Ty.mk btk btv btl) bl }))], rS [(3, oC ht)]]) [.tidO 3 [none, none, some 3]] [] (ob1 (ho) (qF (n < 0) (qN Def.encs ds (qF ((ds.length : Int) ≤ n) (q (n = (↑(Int.toNat n) : Int)) (q ((Def.encs ds)[Int.toNat n]? = some (Def.enc { name := nm, param := Ty.mk ka va la, result := Ty.mk kb vb lb, body := Expr.mk bk bn bv (Ty.mk btk btv btl) bl })) (q (n = (↑(Int.toNat n) : Int)) (q ((Def.encs ds)[Int.toNat n]? = some (Def.enc { name := nm, param := Ty.mk ka va la, result := Ty.mk kb vb lb, body := Expr.mk bk bn bv (Ty.mk btk btv btl) bl })) (ob1 (ht) ob0)))))))))
    | false =>
     exact gK Tryz.func61 (rGs 6 [rS [(1, oC ho), (6, .bit false), (13, .int (ds.length : Int)), (14, .bit false)], rS [(4, .row (Int.toNat n) (Def.enc { name := nm, param := Ty.mk ka va la, result := Ty.mk kb vb lb, body := Expr.mk bk bn bv (Ty.mk btk btv btl) bl })), (11, .row (Int.toNat n) (Def.enc { name := nm, param := Ty.mk ka va la, result := Ty.mk kb vb lb, body := Expr.mk bk bn bv (Ty.mk btk btv btl) bl }))], rS [(3, oC ht)]]) [.tidO 3 [none, none, some 3]] [] (ob1 (ho) (qF (n < 0) (qN Def.encs ds (qF ((ds.length : Int) ≤ n) (q (n = (↑(Int.toNat n) : Int)) (q ((Def.encs ds)[Int.toNat n]? = some (Def.enc { name := nm, param := Ty.mk ka va la, result := Ty.mk kb vb lb, body := Expr.mk bk bn bv (Ty.mk btk btv btl) bl })) (q (n = (↑(Int.toNat n) : Int)) (q ((Def.encs ds)[Int.toNat n]? = some (Def.enc { name := nm, param := Ty.mk ka va la, result := Ty.mk kb vb lb, body := Expr.mk bk bn bv (Ty.mk btk btv btl) bl })) (ob1 (ht) ob0)))))))))
   ·simp only [decide_eq_false h2, Bool.and_false, Bool.false_eq_true, if_false]
    exact gK Tryz.func61 (rGs 6 [rS [(1, oC ho), (6, .bit false), (13, .int (ds.length : Int)), (14, .bit true)], rG]) [.tidO 3 [none, none, some 3]] [] (ob1 (ho) (qF (n < 0) (qN Def.encs ds (qT ((ds.length : Int) ≤ n) ob0))))
  ·simp only [decide_eq_false h1, Bool.and_false, Bool.false_and, Bool.false_eq_true, if_false]
   exact gK Tryz.func61 (rGs 6 [rS [(1, oC ho), (6, .bit true)], rG]) [.tidO 3 [none, none, some 3]] [] (ob1 (ho) (qT (n < 0) ob0))
 | false =>
  simp only [Bool.false_and, Bool.false_eq_true, if_false]
  exact gK Tryz.func61 (rGs 6 [rS [(1, oC ho)], rG]) [.tidO 3 [none, none, some 3]] [] (ob1 (ho) ob0)
end Go.Ae
namespace Go.Ae
open Go.Proofs
def TypeOk (p : Prog) (e : Expr) (sc : List Ty) : Prop :=
 SC 61 [.agg [B false], .agg p.enc, .sl 3 (Ty.encs sc) false, .agg e.enc] [] (.tup [.agg (tImp p e sc).1.enc, B (tImp p e sc).2]) []
theorem type_event1 (es : List ByteArray) (ds : List Def) (mk mn mv mtk mtv : Int) (mtl : List Ty) (ml : List Expr) (sc : List Ty) (n v tk tv : Int) (tl : List Ty) (ak an av atk atv : Int) (atl : List Ty) (al : List Expr) (hs : es.length ≤ 1000)
  (hr : TypeOk ⟨es, ds, .mk mk mn mv (.mk mtk mtv mtl) ml⟩ (.mk ak an av (.mk atk atv atl) al) sc) :
  TypeOk ⟨es, ds, .mk mk mn mv (.mk mtk mtv mtl) ml⟩ (.mk 7 n v (.mk tk tv tl) [.mk ak an av (.mk atk atv atl) al]) sc := by
 unfold TypeOk at hr ⊢
 have ho := only_ 7 n v tk tv tl [.mk ak an av (.mk atk atv atl) al] true false false 1
 rw [tImp.eq_def ⟨es, ds, .mk mk mn mv (.mk mtk mtv mtl) ml⟩ (.mk 7 n v (.mk tk tv tl) [.mk ak an av (.mk atk atv atl) al])]
 dsimp only
 simp only [show ¬ (7 : Int) = 0 by omega, show ¬ (7 : Int) = 8 by omega, show ¬ (7 : Int) = 1 by omega, show ¬ (7 : Int) = 2 by omega, if_false, if_true]
 generalize onlyC (.mk 7 n v (.mk tk tv tl) [.mk ak an av (.mk atk atv atl) al]) true false false 1 = E at ho ⊢
 generalize tImp ⟨es, ds, .mk mk mn mv (.mk mtk mtv mtl) ml⟩ (.mk ak an av (.mk atk atv atl) al) sc = T at hr ⊢
 obtain ⟨⟨rk, rv, rl⟩, rb⟩ := T
 cases E with
 | true =>
  by_cases h1 : 0 ≤ n
  ·by_cases h2 : n < (es.length : Int)
   ·simp only [decide_eq_true h1, decide_eq_true h2, Bool.and_true, if_true]
    cases rb with
    | true =>
     exact gK Tryz.func61 (rGs 7 [rS [(1, oC ho), (6, .bit false), (13, .int (es.length : Int)), (14, .bit false)], rS [(5, .row 0 (xE ak an av atk atv atl al)), (7, oC hr)]]) [.tidO 3 [none, none, some 3]] [] (ob1 (ho) (qF (n < 0) (qN strs es (qF ((es.length : Int) ≤ n) (qI 0 (qC0 ((xE ak an av atk atv atl al)) [] (ob1 (hr) ob0)))))))
    | false =>
     exact gK Tryz.func61 (rGs 7 [rS [(1, oC ho), (6, .bit false), (13, .int (es.length : Int)), (14, .bit false)], rS [(5, .row 0 (xE ak an av atk atv atl al)), (7, oC hr)]]) [.tidO 3 [none, none, some 3]] [] (ob1 (ho) (qF (n < 0) (qN strs es (qF ((es.length : Int) ≤ n) (qI 0 (qC0 ((xE ak an av atk atv atl al)) [] (ob1 (hr) ob0)))))))
   ·simp only [decide_eq_false h2, Bool.and_false, Bool.false_eq_true, if_false]
    clear hr
    exact gK Tryz.func61 (rGs 7 [rS [(1, oC ho), (6, .bit false), (13, .int (es.length : Int)), (14, .bit true)], rG]) [.tidO 3 [none, none, some 3]] [] (ob1 (ho) (qF (n < 0) (qN strs es (qT ((es.length : Int) ≤ n) ob0))))
  ·simp only [decide_eq_false h1, Bool.and_false, Bool.false_and, Bool.false_eq_true, if_false]
   clear hr
   exact gK Tryz.func61 (rGs 7 [rS [(1, oC ho), (6, .bit true)], rG]) [.tidO 3 [none, none, some 3]] [] (ob1 (ho) (qT (n < 0) ob0))
 | false =>
  simp only [Bool.false_and, Bool.false_eq_true, if_false]
  clear hr
  exact gK Tryz.func61 (rGs 7 [rS [(1, oC ho)], rG]) [.tidO 3 [none, none, some 3]] [] (ob1 (ho) ob0)
end Go.Ae
namespace Go.Ae
open Go.Proofs
theorem only_len (k n v : Int) (t : Ty) (l : List Expr) (a b c : Bool) (g : Int) (h0 : 0 ≤ g) (h : (l.length : Int) ≠ g) : onlyC (.mk k n v t l) a b c g = false := by
 obtain ⟨tk, tv, tl⟩ := t
 simp only [onlyC, decide_eq_false (show ¬ g < 0 by omega), decide_eq_false h, Bool.or_false, Bool.and_false]
theorem type_event0 (es : List ByteArray) (ds : List Def) (mk mn mv mtk mtv : Int) (mtl : List Ty) (ml : List Expr) (sc : List Ty) (n v tk tv : Int) (tl : List Ty) (l : List Expr) (h : l.length ≠ 1) :
  TypeOk ⟨es, ds, .mk mk mn mv (.mk mtk mtv mtl) ml⟩ (.mk 7 n v (.mk tk tv tl) l) sc := by
 unfold TypeOk
 have ho := only_ 7 n v tk tv tl l true false false 1
 rw [only_len _ _ _ _ _ _ _ _ _ (by omega) (by omega)] at ho
 rw [show tImp ⟨es, ds, .mk mk mn mv (.mk mtk mtv mtl) ml⟩ (.mk 7 n v (.mk tk tv tl) l) sc = (tyZ, false) by
  rw [tImp.eq_def]
  dsimp only
  simp only [show ¬ (7 : Int) = 0 by omega, show ¬ (7 : Int) = 8 by omega, show ¬ (7 : Int) = 1 by omega, show ¬ (7 : Int) = 2 by omega, if_false, if_true]
  match l, h with
  | [], _ => rfl
  | [_], h => exact absurd rfl h
  | _ :: _ :: _, _ => rfl]
 exact gK Tryz.func61 (rGs 7 [rS [(1, oC ho)], rG]) [.tidO 3 [none, none, some 3]] [] (ob1 (ho) ob0)
end Go.Ae
namespace Go.Ae
open Go.Proofs
def CompOk (p : Prog) (e : Expr) (sc : List Ty) : Prop :=
 SC 95 [.agg [B false], .agg p.enc, .sl 3 (Ty.encs sc) false, .agg e.enc] [] (.tup [.agg (tImp p e sc).1.enc, B (tImp p e sc).2]) []
theorem comp_app (es : List ByteArray) (ds : List Def) (mk mn mv mtk mtv : Int) (mtl : List Ty) (ml : List Expr) (sc : List Ty) (n v tk tv : Int) (tl : List Ty)
  (ak an av atk atv : Int) (atl : List Ty) (al : List Expr) (bk bn bv btk btv : Int) (btl : List Ty) (bl : List Expr)
  (ha : TypeOk ⟨es, ds, .mk mk mn mv (.mk mtk mtv mtl) ml⟩ (.mk ak an av (.mk atk atv atl) al) sc)
  (hb : TypeOk ⟨es, ds, .mk mk mn mv (.mk mtk mtv mtl) ml⟩ (.mk bk bn bv (.mk btk btv btl) bl) sc)
  (hg : (tImp ⟨es, ds, .mk mk mn mv (.mk mtk mtv mtl) ml⟩ (.mk ak an av (.mk atk atv atl) al) sc).2 = true → ∃ k v l, (tImp ⟨es, ds, .mk mk mn mv (.mk mtk mtv mtl) ml⟩ (.mk ak an av (.mk atk atv atl) al) sc).1 = .mk k v l ∧ (k = 1 → (∃ t u, l = [t, u] ∧ t.ok))) :
  CompOk ⟨es, ds, .mk mk mn mv (.mk mtk mtv mtl) ml⟩ (.mk 3 n v (.mk tk tv tl) [.mk ak an av (.mk atk atv atl) al, .mk bk bn bv (.mk btk btv btl) bl]) sc := by
 unfold TypeOk at ha hb
 unfold CompOk
 have ho := only_ 3 n v tk tv tl [.mk ak an av (.mk atk atv atl) al, .mk bk bn bv (.mk btk btv btl) bl] false false false 2
 rw [tImp.eq_def ⟨es, ds, .mk mk mn mv (.mk mtk mtv mtl) ml⟩ (.mk 3 n v (.mk tk tv tl) [.mk ak an av (.mk atk atv atl) al, .mk bk bn bv (.mk btk btv btl) bl])]
 dsimp only
 simp only [show ¬ (3 : Int) = 0 by omega, show ¬ (3 : Int) = 8 by omega, show ¬ (3 : Int) = 1 by omega, show ¬ (3 : Int) = 2 by omega, show ¬ (3 : Int) = 7 by omega, if_false, if_true]
 generalize onlyC (.mk 3 n v (.mk tk tv tl) [.mk ak an av (.mk atk atv atl) al, .mk bk bn bv (.mk btk btv btl) bl]) false false false 2 = E at ho ⊢
 generalize tImp ⟨es, ds, .mk mk mn mv (.mk mtk mtv mtl) ml⟩ (.mk ak an av (.mk atk atv atl) al) sc = T at ha hg ⊢
 generalize tImp ⟨es, ds, .mk mk mn mv (.mk mtk mtv mtl) ml⟩ (.mk bk bn bv (.mk btk btv btl) bl) sc = U at hb ⊢
 obtain ⟨⟨rk, rv, rl⟩, rb⟩ := T
 obtain ⟨⟨uk, uv, ul⟩, ub⟩ := U
 cases E with
 | false =>
  clear ha hb hg
  simp only [Bool.false_eq_true, if_false]
  exact gK Tryz.func95 (rGs 4 [rS [(1, oC ho)], rG]) [.tidO 3 [none, none, some 3]] [] (ob1 (ho) ob0)
 | true =>
  simp only [if_true]
  cases rb with
  | false =>
   clear hg
   simp only [Bool.false_and, Bool.false_eq_true, if_false]
   rcases Bool.eq_false_or_eq_true (Prod.snd (Ty.mk uk uv ul, ub)) with hb1 | hb1
   ·have hb1' := hb1
    try simp only [decide_eq_true_eq, decide_eq_false_iff_not, beq_iff_eq, bne_iff_ne, ne_eq, beq_eq_false_iff_ne, bne_eq_false_iff_eq, Bool.not_eq_true'] at hb1'
    exact gR Tryz.func95 (rGs 4 [rS [(1, .call (B true) [])], rS [(5, .row 0 [I ak, I an, I av, I atk, I atv, AV.sl 3 (Ty.encs atl) false, AV.sl 7 (Expr.encs al) false]), (7, .call (AV.tup [AV.agg [I rk, I rv, AV.sl 3 (Ty.encs rl) false], B false]) [])], rS [(5, .row 1 [I bk, I bn, I bv, I btk, I btv, AV.sl 3 (Ty.encs btl) false, AV.sl 7 (Expr.encs bl) false]), (7, .call (AV.tup [AV.agg [I uk, I uv, AV.sl 3 (Ty.encs ul) false], B true]) [])], rG, rG]) [.tidO 3 [none, none, some 3]] [] (AV.tup [AV.agg [I 0, I 0, AV.sl 3 [] false], B false]) ([]) (ob1 (ho) (q ((0 : Int) = (↑(0 : Nat) : Int)) (q ([[I ak, I an, I av, I atk, I atv, AV.sl 3 (Ty.encs atl) false, AV.sl 7 (Expr.encs al) false], [I bk, I bn, I bv, I btk, I btv, AV.sl 3 (Ty.encs btl) false, AV.sl 7 (Expr.encs bl) false]][0]? = some [I ak, I an, I av, I atk, I atv, AV.sl 3 (Ty.encs atl) false, AV.sl 7 (Expr.encs al) false]) (ob1 (ha) (q ((1 : Int) = (↑(1 : Nat) : Int)) (q ([[I ak, I an, I av, I atk, I atv, AV.sl 3 (Ty.encs atl) false, AV.sl 7 (Expr.encs al) false], [I bk, I bn, I bv, I btk, I btv, AV.sl 3 (Ty.encs btl) false, AV.sl 7 (Expr.encs bl) false]][1]? = some [I bk, I bn, I bv, I btk, I btv, AV.sl 3 (Ty.encs btl) false, AV.sl 7 (Expr.encs bl) false]) (ob1 (SoundCall.to (hb) (pf (AV.tup [AV.agg [I uk, I uv, AV.sl 3 (Ty.encs ul) false], B (Prod.snd (Ty.mk uk uv ul, ub))] = AV.tup [AV.agg [I uk, I uv, AV.sl 3 (Ty.encs ul) false], B true])) rfl) ob0)))))))
   ·have hb1' := hb1
    try simp only [decide_eq_true_eq, decide_eq_false_iff_not, beq_iff_eq, bne_iff_ne, ne_eq, beq_eq_false_iff_ne, bne_eq_false_iff_eq, Bool.not_eq_true'] at hb1'
    exact gR Tryz.func95 (rGs 4 [rS [(1, .call (B true) [])], rS [(5, .row 0 [I ak, I an, I av, I atk, I atv, AV.sl 3 (Ty.encs atl) false, AV.sl 7 (Expr.encs al) false]), (7, .call (AV.tup [AV.agg [I rk, I rv, AV.sl 3 (Ty.encs rl) false], B false]) [])], rS [(5, .row 1 [I bk, I bn, I bv, I btk, I btv, AV.sl 3 (Ty.encs btl) false, AV.sl 7 (Expr.encs bl) false]), (7, .call (AV.tup [AV.agg [I uk, I uv, AV.sl 3 (Ty.encs ul) false], B false]) [])], rG, rG]) [.tidO 3 [none, none, some 3]] [] (AV.tup [AV.agg [I 0, I 0, AV.sl 3 [] false], B false]) ([]) (ob1 (ho) (q ((0 : Int) = (↑(0 : Nat) : Int)) (q ([[I ak, I an, I av, I atk, I atv, AV.sl 3 (Ty.encs atl) false, AV.sl 7 (Expr.encs al) false], [I bk, I bn, I bv, I btk, I btv, AV.sl 3 (Ty.encs btl) false, AV.sl 7 (Expr.encs bl) false]][0]? = some [I ak, I an, I av, I atk, I atv, AV.sl 3 (Ty.encs atl) false, AV.sl 7 (Expr.encs al) false]) (ob1 (ha) (q ((1 : Int) = (↑(1 : Nat) : Int)) (q ([[I ak, I an, I av, I atk, I atv, AV.sl 3 (Ty.encs atl) false, AV.sl 7 (Expr.encs al) false], [I bk, I bn, I bv, I btk, I btv, AV.sl 3 (Ty.encs btl) false, AV.sl 7 (Expr.encs bl) false]][1]? = some [I bk, I bn, I bv, I btk, I btv, AV.sl 3 (Ty.encs btl) false, AV.sl 7 (Expr.encs bl) false]) (ob1 (SoundCall.to (hb) (pf (AV.tup [AV.agg [I uk, I uv, AV.sl 3 (Ty.encs ul) false], B (Prod.snd (Ty.mk uk uv ul, ub))] = AV.tup [AV.agg [I uk, I uv, AV.sl 3 (Ty.encs ul) false], B false])) rfl) ob0)))))))
  | true =>
   cases ub with
   | false =>
    clear hg
    simp only [Bool.and_false, Bool.false_eq_true, if_false]
    exact gK Tryz.func95 (rGs 4 [rS [(1, oC ho)], rS [(5, .row 0 (xE ak an av atk atv atl al)), (7, oC ha)], rS [(5, .row 1 (xE bk bn bv btk btv btl bl)), (7, oC hb)], rG, rG]) [.tidO 3 [none, none, some 3]] [] (ob1 (ho) (qI 0 (qC0 ((xE ak an av atk atv atl al)) [(xE bk bn bv btk btv btl bl)] (ob1 (ha) (qI 1 (qC1 ((xE ak an av atk atv atl al)) ((xE bk bn bv btk btv btl bl)) [] (ob1 (hb) ob0)))))))
   | true =>
    obtain ⟨k, v', l, he, hg⟩ := hg rfl
    simp only [Ty.mk.injEq] at he
    obtain ⟨rfl, rfl, rfl⟩ := he
    simp only [Bool.and_true, if_true]
    by_cases hk : rk = 1
    ·obtain ⟨⟨t1, t2, t3⟩, ⟨u1, u2, u3⟩, rfl, hok⟩ := hg hk
     subst hk
     have hq := eqTy_0 (.mk t1 t2 t3) (.mk uk uv ul) hok
     rw [appC_two]
     by_cases hx : Ty.mk t1 t2 t3 = Ty.mk uk uv ul
     ·rw [decide_eq_true hx] at hq
      rw [if_pos hx]
      clear hg hok
      exact gK Tryz.func95 (rGs 4 [rS [(1, oC ho)], rS [(5, .row 0 (xE ak an av atk atv atl al)), (7, oC ha)], rS [(5, .row 1 (xE bk bn bv btk btv btl bl)), (7, oC hb)], rS [(14, .row 0 (xT t1 t2 t3)), (17, oC hq)], rS [(2, .row 1 (xT u1 u2 u3))]]) [.tidO 3 [none, none, some 3]] [] (ob1 (ho) (qI 0 (qC0 ((xE ak an av atk atv atl al)) [(xE bk bn bv btk btv btl bl)] (ob1 (ha) (qI 1 (qC1 ((xE ak an av atk atv atl al)) ((xE bk bn bv btk btv btl bl)) [] (ob1 (hb) (qI 0 (qC0 ((xT t1 t2 t3)) [(xT u1 u2 u3)] (ob1 (hq) (qI 1 (qC1 ((xT t1 t2 t3)) ((xT u1 u2 u3)) [] ob0))))))))))))
     ·rw [decide_eq_false hx] at hq
      rw [if_neg hx]
      clear hg hok
      exact gK Tryz.func95 (rGs 4 [rS [(1, oC ho)], rS [(5, .row 0 (xE ak an av atk atv atl al)), (7, oC ha)], rS [(5, .row 1 (xE bk bn bv btk btv btl bl)), (7, oC hb)], rS [(14, .row 0 (xT t1 t2 t3)), (17, oC hq)], rG]) [.tidO 3 [none, none, some 3]] [] (ob1 (ho) (qI 0 (qC0 ((xE ak an av atk atv atl al)) [(xE bk bn bv btk btv btl bl)] (ob1 (ha) (qI 1 (qC1 ((xE ak an av atk atv atl al)) ((xE bk bn bv btk btv btl bl)) [] (ob1 (hb) (qI 0 (qC0 ((xT t1 t2 t3)) [(xT u1 u2 u3)] (ob1 (hq) ob0))))))))))
    ·clear hg
     rw [appC_ne hk]
     exact gK Tryz.func95 (rGs 4 [rS [(1, oC ho)], rS [(5, .row 0 (xE ak an av atk atv atl al)), (7, oC ha)], rS [(5, .row 1 (xE bk bn bv btk btv btl bl)), (7, oC hb)], rS [(9, .bit true)], rG]) [.tidO 3 [none, none, some 3]] [] (ob1 (ho) (qI 0 (qC0 ((xE ak an av atk atv atl al)) [(xE bk bn bv btk btv btl bl)] (ob1 (ha) (qI 1 (qC1 ((xE ak an av atk atv atl al)) ((xE bk bn bv btk btv btl bl)) [] (ob1 (hb) (qV (rk != 1) ob0))))))))
end Go.Ae
namespace Go.Ae
open Go.Proofs
theorem comp_let (es : List ByteArray) (ds : List Def) (mk mn mv mtk mtv : Int) (mtl : List Ty) (ml : List Expr) (sc : List Ty) (n v tk tv : Int) (tl : List Ty)
  (ak an av atk atv : Int) (atl : List Ty) (al : List Expr) (bk bn bv btk btv : Int) (btl : List Ty) (bl : List Expr) (hs : sc.length ≤ 1000)
  (ha : TypeOk ⟨es, ds, .mk mk mn mv (.mk mtk mtv mtl) ml⟩ (.mk ak an av (.mk atk atv atl) al) sc)
  (hb : ∀ t, (tImp ⟨es, ds, .mk mk mn mv (.mk mtk mtv mtl) ml⟩ (.mk ak an av (.mk atk atv atl) al) sc) = (t, true) → TypeOk ⟨es, ds, .mk mk mn mv (.mk mtk mtv mtl) ml⟩ (.mk bk bn bv (.mk btk btv btl) bl) (sc ++ [t])) :
  CompOk ⟨es, ds, .mk mk mn mv (.mk mtk mtv mtl) ml⟩ (.mk 5 n v (.mk tk tv tl) [.mk ak an av (.mk atk atv atl) al, .mk bk bn bv (.mk btk btv btl) bl]) sc := by
 unfold TypeOk at ha hb
 unfold CompOk
 have ho := only_ 5 n v tk tv tl [.mk ak an av (.mk atk atv atl) al, .mk bk bn bv (.mk btk btv btl) bl] false false false 2
 rw [tImp.eq_def ⟨es, ds, .mk mk mn mv (.mk mtk mtv mtl) ml⟩ (.mk 5 n v (.mk tk tv tl) [.mk ak an av (.mk atk atv atl) al, .mk bk bn bv (.mk btk btv btl) bl])]
 dsimp only
 simp only [show ¬ (5 : Int) = 0 by omega, show ¬ (5 : Int) = 8 by omega, show ¬ (5 : Int) = 1 by omega, show ¬ (5 : Int) = 2 by omega, show ¬ (5 : Int) = 7 by omega, show ¬ (5 : Int) = 3 by omega, show ¬ (5 : Int) = 4 by omega, if_false, if_true]
 generalize onlyC (.mk 5 n v (.mk tk tv tl) [.mk ak an av (.mk atk atv atl) al, .mk bk bn bv (.mk btk btv btl) bl]) false false false 2 = E at ho ⊢
 generalize tImp ⟨es, ds, .mk mk mn mv (.mk mtk mtv mtl) ml⟩ (.mk ak an av (.mk atk atv atl) al) sc = T at ha hb ⊢
 obtain ⟨⟨rk, rv, rl⟩, rb⟩ := T
 cases E with
 | false =>
  clear ha hb
  simp only [Bool.false_eq_true, if_false]
  exact gK Tryz.func95 (rGs 6 [rS [(1, oC ho)], rG]) [.tidO 3 [none, none, some 3]] [] (ob1 (ho) ob0)
 | true =>
  simp only [if_true]
  cases rb with
  | false =>
   clear hb
   simp only [Bool.false_eq_true, if_false]
   exact gK Tryz.func95 (rGs 6 [rS [(1, oC ho)], rS [(5, .row 0 (xE ak an av atk atv atl al)), (7, oC ha)], rG, rG]) [.tidO 3 [none, none, some 3]] [] (ob1 (ho) (qI 0 (qC0 ((xE ak an av atk atv atl al)) [(xE bk bn bv btk btv btl bl)] (ob1 (ha) ob0))))
  | true =>
   replace hb := hb _ rfl
   have hu := under_ (.mk rk rv rl) sc hs
   simp only [if_true]
   generalize tImp ⟨es, ds, .mk mk mn mv (.mk mtk mtv mtl) ml⟩ (.mk bk bn bv (.mk btk btv btl) bl) (sc ++ [.mk rk rv rl]) = U at hb ⊢
   obtain ⟨⟨uk, uv, ul⟩, ub⟩ := U
   cases ub with
   | true =>
    exact gK Tryz.func95 (rGs 6 [rS [(1, oC ho)], rS [(5, .row 0 (xE ak an av atk atv atl al)), (7, oC ha)], rG, rS [(4, oC hu), (7, .row 1 (xE bk bn bv btk btv btl bl)), (9, oC hb)]]) [.tidO 3 [none, none, some 3]] [] (ob1 (ho) (qI 0 (qC0 ((xE ak an av atk atv atl al)) [(xE bk bn bv btk btv btl bl)] (ob1 (ha) (ob1 (hu) (qI 1 (qC1 ((xE ak an av atk atv atl al)) ((xE bk bn bv btk btv btl bl)) [] (ob1 (hb) ob0))))))))
   | false =>
    exact gK Tryz.func95 (rGs 6 [rS [(1, oC ho)], rS [(5, .row 0 (xE ak an av atk atv atl al)), (7, oC ha)], rG, rS [(4, oC hu), (7, .row 1 (xE bk bn bv btk btv btl bl)), (9, oC hb)]]) [.tidO 3 [none, none, some 3]] [] (ob1 (ho) (qI 0 (qC0 ((xE ak an av atk atv atl al)) [(xE bk bn bv btk btv btl bl)] (ob1 (ha) (ob1 (hu) (qI 1 (qC1 ((xE ak an av atk atv atl al)) ((xE bk bn bv btk btv btl bl)) [] (ob1 (hb) ob0))))))))
end Go.Ae
namespace Go.Ae
open Go.Proofs
theorem comp_lam (es : List ByteArray) (ds : List Def) (mk mn mv mtk mtv : Int) (mtl : List Ty) (ml : List Expr) (sc : List Ty) (n v tk tv : Int) (tl : List Ty)
  (ak an av atk atv : Int) (atl : List Ty) (al : List Expr) (hs : sc.length ≤ 1000) (htok : (Ty.mk tk tv tl).ok)
  (ha : TypeOk ⟨es, ds, .mk mk mn mv (.mk mtk mtv mtl) ml⟩ (.mk ak an av (.mk atk atv atl) al) (sc ++ [.mk tk tv tl]))
  (hok : (tImp ⟨es, ds, .mk mk mn mv (.mk mtk mtv mtl) ml⟩ (.mk ak an av (.mk atk atv atl) al) (sc ++ [.mk tk tv tl])).1.ok) :
  CompOk ⟨es, ds, .mk mk mn mv (.mk mtk mtv mtl) ml⟩ (.mk 4 n v (.mk tk tv tl) [.mk ak an av (.mk atk atv atl) al]) sc := by
 unfold TypeOk at ha
 unfold CompOk
 have ho := only_ 4 n v tk tv tl [.mk ak an av (.mk atk atv atl) al] false false true 1
 have hi := isTy_ (.mk tk tv tl) htok
 have hu := under_ (.mk tk tv tl) sc hs
 rw [tImp.eq_def ⟨es, ds, .mk mk mn mv (.mk mtk mtv mtl) ml⟩ (.mk 4 n v (.mk tk tv tl) [.mk ak an av (.mk atk atv atl) al])]
 dsimp only
 simp only [show ¬ (4 : Int) = 0 by omega, show ¬ (4 : Int) = 8 by omega, show ¬ (4 : Int) = 1 by omega, show ¬ (4 : Int) = 2 by omega, show ¬ (4 : Int) = 7 by omega, show ¬ (4 : Int) = 3 by omega, if_false, if_true]
 generalize onlyC (.mk 4 n v (.mk tk tv tl) [.mk ak an av (.mk atk atv atl) al]) false false true 1 = E at ho ⊢
 generalize (tyC (.mk tk tv tl) 20).1 = E1 at hi ⊢
 generalize tImp ⟨es, ds, .mk mk mn mv (.mk mtk mtv mtl) ml⟩ (.mk ak an av (.mk atk atv atl) al) (sc ++ [.mk tk tv tl]) = T at ha hok ⊢
 obtain ⟨⟨rk, rv, rl⟩, rb⟩ := T
 have hj := isTy_ (.mk 1 0 [.mk tk tv tl, .mk rk rv rl]) ⟨by unfold ir; omega, by unfold ir; omega, by simp, htok, hok, trivial⟩
 generalize (tyC (.mk 1 0 [.mk tk tv tl, .mk rk rv rl]) 20).1 = E2 at hj ⊢
 clear htok hok
 cases E with
 | false =>
  simp only [Bool.false_and, Bool.false_eq_true, if_false]
  exact gK Tryz.func95 (rGs 5 [rS [(1, oC ho)], rG]) [.tidO 3 [none, none, some 3]] [] (ob1 (ho) ob0)
 | true =>
  cases E1 with
  | false =>
   simp only [Bool.and_false, Bool.false_eq_true, if_false]
   exact gK Tryz.func95 (rGs 5 [rS [(1, oC ho), (7, oC hi)], rG]) [.tidO 3 [none, none, some 3]] [] (ob1 (ho) (ob1 (hi) ob0))
  | true =>
   simp only [Bool.and_true, if_true]
   cases rb with
   | false =>
    simp only [Bool.false_and, Bool.false_eq_true, if_false]
    exact gK Tryz.func95 (rGs 5 [rS [(1, oC ho), (7, oC hi)], rS [(5, oC hu), (8, .row 0 (xE ak an av atk atv atl al)), (10, oC ha)], rG, rG, rG]) [.tidO 3 [none, none, some 3]] [] (ob1 (ho) (ob1 (hi) (ob1 (hu) (qI 0 (qC0 ((xE ak an av atk atv atl al)) [] (ob1 (ha) ob0))))))
   | true =>
    cases E2 with
    | false =>
     simp only [Bool.and_false, Bool.false_eq_true, if_false]
     exact gK Tryz.func95 (rGs 5 [rS [(1, oC ho), (7, oC hi)], rS [(5, oC hu), (8, .row 0 (xE ak an av atk atv atl al)), (10, oC ha)], rG, rS [(5, oC hj)], rG]) [.tidO 3 [none, none, some 3]] [] (ob1 (ho) (ob1 (hi) (ob1 (hu) (qI 0 (qC0 ((xE ak an av atk atv atl al)) [] (ob1 (ha) (ob1 (hj) ob0)))))))
    | true =>
     simp only [Bool.and_true, if_true]
     exact gK Tryz.func95 (rGs 5 [rS [(1, oC ho), (7, oC hi)], rS [(5, oC hu), (8, .row 0 (xE ak an av atk atv atl al)), (10, oC ha)], rG, rS [(5, oC hj)], rG]) [.tidO 3 [none, none, some 3]] [] (ob1 (ho) (ob1 (hi) (ob1 (hu) (qI 0 (qC0 ((xE ak an av atk atv atl al)) [] (ob1 (ha) (ob1 (hj) ob0)))))))
end Go.Ae
namespace Go.Ae
open Go.Proofs
noncomputable def casesC (p : Prog) (sc : List Ty) (f : Ty) (r : List Expr) (b : Bool) : Bool := r.foldl (fun ok c => ok && (tImp p c sc).2 && decide (f = (tImp p c sc).1)) b
theorem comp_case_loop (es : List ByteArray) (ds : List Def) (mk mn mv mtk mtv : Int) (mtl : List Ty) (ml : List Expr) (sc : List Ty) (uk uv : Int) (ul : List Ty) (hu : (Ty.mk uk uv ul).ok) (r : List Expr) (hr : r.length ≤ 1000) :
  ∀ (r' : List Expr) (i : Nat) (b : Bool), r.drop i = r' → (∀ x ∈ r', TypeOk ⟨es, ds, .mk mk mn mv (.mk mtk mtv mtl) ml⟩ x sc) →
  Lp Tryz.prog 234 0 (loopN Tryz.f95 0) ⟨lookT [(2, .sl 3 (Ty.encs sc) false), (4, .lp 0 0), (5, .lp 1 0), (8, .lp 2 0), (21, B b), (22, .lp 3 0), (208, .sl 7 (Expr.encs r) false), (209, I (r.length : Int)), (210, I (i : Int))],
   [.cells [B false] [], .cells (Prog.enc ⟨es, ds, .mk mk mn mv (.mk mtk mtv mtl) ml⟩) [], .cells [I 0, I 0, .nil] [], .cells [I uk, I uv, .sl 3 (Ty.encs ul) false] []]⟩
   (.exit 1) ⟨lookT [(8, .lp 0 0), (21, B (casesC ⟨es, ds, .mk mk mn mv (.mk mtk mtv mtl) ml⟩ sc (.mk uk uv ul) r' b)), (22, .lp 1 0)], [.cells [I 0, I 0, .nil] [], .cells [I uk, I uv, .sl 3 (Ty.encs ul) false] []]⟩
 | [], i, b, hd, _ => by
  have hi := drop_end hd
  simp only [casesC, List.foldl_nil]
  exact lL [rS [(0, .bit false)]] [.keep [(8, []), (21, []), (22, [])]] (qF ((i : Int) < (r.length : Int)) ob0)
 | .mk k1 m1 v1 (.mk tk tv tl) xs :: r', i, b, hd, hs => by
  have hi := drop_lt hd
  have hx : (Expr.encs r)[i]? = some (Expr.mk k1 m1 v1 (.mk tk tv tl) xs).enc := by rw [Expr.encs_get, drop_get hd]; rfl
  have hc := hs (.mk k1 m1 v1 (.mk tk tv tl) xs) (by simp)
  have ih := fun b => comp_case_loop es ds mk mn mv mtk mtv mtl ml sc uk uv ul hu r hr r' (i + 1) b (drop_next hd) (fun x hx => hs x (by simp [hx]))
  have he : ∀ b, casesC ⟨es, ds, .mk mk mn mv (.mk mtk mtv mtl) ml⟩ sc (.mk uk uv ul) (.mk k1 m1 v1 (.mk tk tv tl) xs :: r') b =
   casesC ⟨es, ds, .mk mk mn mv (.mk mtk mtv mtl) ml⟩ sc (.mk uk uv ul) r' (b && (tImp ⟨es, ds, .mk mk mn mv (.mk mtk mtv mtl) ml⟩ (.mk k1 m1 v1 (.mk tk tv tl) xs) sc).2 && decide (.mk uk uv ul = (tImp ⟨es, ds, .mk mk mn mv (.mk mtk mtv mtl) ml⟩ (.mk k1 m1 v1 (.mk tk tv tl) xs) sc).1)) := fun b => rfl
  rw [he]
  unfold TypeOk at hc
  clear hs he hd
  generalize casesC ⟨es, ds, .mk mk mn mv (.mk mtk mtv mtl) ml⟩ sc (.mk uk uv ul) r' = F at ih ⊢
  generalize tImp ⟨es, ds, .mk mk mn mv (.mk mtk mtv mtl) ml⟩ (.mk k1 m1 v1 (.mk tk tv tl) xs) sc = T at hc ⊢
  obtain ⟨⟨rk, rv, rl⟩, rb⟩ := T
  have hq := eqTy_0 (.mk uk uv ul) (.mk rk rv rl) hu
  simp only [Int.natCast_add] at ih
  cases b with
  | false =>
   replace ih := ih false
   simp only [Bool.false_and]
   cases rb with
   | false => exact lN [rS [(0, .bit true)], rS [(0, oW hx)], rS [(4, oC hc)], rG, rS [(0, .int ((i : Int) + 1))]] [.keep [(2, []), (4, []), (5, []), (8, []), (21, []), (22, []), (208, []), (209, []), (210, [])]] (qT ((i : Int) < (r.length : Int)) (qI i (ob1 hx (ob1 (hc) (qw ((i : Int) + 1) ob0))))) (ih)
   | true => exact lN [rS [(0, .bit true)], rS [(0, oW hx)], rS [(4, oC hc)], rG, rS [(0, .int ((i : Int) + 1))]] [.keep [(2, []), (4, []), (5, []), (8, []), (21, []), (22, []), (208, []), (209, []), (210, [])]] (qT ((i : Int) < (r.length : Int)) (qI i (ob1 hx (ob1 (hc) (qw ((i : Int) + 1) ob0))))) (ih)
  | true =>
   cases rb with
   | false =>
    replace ih := ih false
    simp only [Bool.and_false, Bool.false_and]
    exact lN [rS [(0, .bit true)], rS [(0, oW hx)], rS [(4, oC hc)], rG, rS [(0, .int ((i : Int) + 1))]] [.keep [(2, []), (4, []), (5, []), (8, []), (21, []), (22, []), (208, []), (209, []), (210, [])]] (qT ((i : Int) < (r.length : Int)) (qI i (ob1 hx (ob1 (hc) (qw ((i : Int) + 1) ob0))))) (ih)
   | true =>
    by_cases hx : Ty.mk uk uv ul = Ty.mk rk rv rl
    ·replace ih := ih true
     simp only [decide_eq_true hx] at hq ⊢
     exact lN [rS [(0, .bit true)], rS [(0, .row i (Expr.enc (Expr.mk k1 m1 v1 (Ty.mk tk tv tl) xs)))], rS [(4, oC hc)], rS [(7, oC hq)], rS [(0, .int ((i : Int) + 1))]] [.keep [(2, []), (4, []), (5, []), (8, []), (21, []), (22, []), (208, []), (209, []), (210, [])]] (q (decide ((i : Int) < (r.length : Int)) = true) (q ((i : Int) = (i : Int)) (q ((Expr.encs r)[i]? = some (Expr.enc (Expr.mk k1 m1 v1 (Ty.mk tk tv tl) xs))) (ob1 (hc) (ob1 (hq) (qw ((i : Int) + 1) ob0)))))) (ih)
    ·replace ih := ih false
     simp only [decide_eq_false hx, Bool.and_false] at hq ⊢
     exact lN [rS [(0, .bit true)], rS [(0, .row i (Expr.enc (Expr.mk k1 m1 v1 (Ty.mk tk tv tl) xs)))], rS [(4, oC hc)], rS [(7, oC hq)], rS [(0, .int ((i : Int) + 1))]] [.keep [(2, []), (4, []), (5, []), (8, []), (21, []), (22, []), (208, []), (209, []), (210, [])]] (q (decide ((i : Int) < (r.length : Int)) = true) (q ((i : Int) = (i : Int)) (q ((Expr.encs r)[i]? = some (Expr.enc (Expr.mk k1 m1 v1 (Ty.mk tk tv tl) xs))) (ob1 (hc) (ob1 (hq) (qw ((i : Int) + 1) ob0)))))) (ih)
end Go.Ae
namespace Go.Ae
open Go.Proofs
theorem comp_case (es : List ByteArray) (ds : List Def) (mk mn mv mtk mtv : Int) (mtl : List Ty) (ml : List Expr) (sc : List Ty) (n v tk tv : Int) (tl : List Ty)
  (ak an av atk atv : Int) (atl : List Ty) (al : List Expr) (bk bn bv btk btv : Int) (btl : List Ty) (bl : List Expr) (r : List Expr) (hr : r.length ≤ 1000)
  (ha : TypeOk ⟨es, ds, .mk mk mn mv (.mk mtk mtv mtl) ml⟩ (.mk ak an av (.mk atk atv atl) al) sc)
  (hb : TypeOk ⟨es, ds, .mk mk mn mv (.mk mtk mtv mtl) ml⟩ (.mk bk bn bv (.mk btk btv btl) bl) sc)
  (hc : ∀ x ∈ r, TypeOk ⟨es, ds, .mk mk mn mv (.mk mtk mtv mtl) ml⟩ x sc)
  (hok : (tImp ⟨es, ds, .mk mk mn mv (.mk mtk mtv mtl) ml⟩ (.mk bk bn bv (.mk btk btv btl) bl) sc).1.ok) :
  CompOk ⟨es, ds, .mk mk mn mv (.mk mtk mtv mtl) ml⟩ (.mk 6 n v (.mk tk tv tl) (.mk ak an av (.mk atk atv atl) al :: .mk bk bn bv (.mk btk btv btl) bl :: r)) sc := by
 unfold TypeOk at ha hb
 unfold CompOk
 have ho := only_ 6 n v tk tv tl (.mk ak an av (.mk atk atv atl) al :: .mk bk bn bv (.mk btk btv btl) bl :: r) false false false (-1)
 rw [tImp.eq_def ⟨es, ds, .mk mk mn mv (.mk mtk mtv mtl) ml⟩ (.mk 6 n v (.mk tk tv tl) (.mk ak an av (.mk atk atv atl) al :: .mk bk bn bv (.mk btk btv btl) bl :: r))]
 dsimp only
 simp only [show ¬ (6 : Int) = 0 by omega, show ¬ (6 : Int) = 8 by omega, show ¬ (6 : Int) = 1 by omega, show ¬ (6 : Int) = 2 by omega, show ¬ (6 : Int) = 7 by omega, show ¬ (6 : Int) = 3 by omega, show ¬ (6 : Int) = 4 by omega, show ¬ (6 : Int) = 5 by omega, if_false, if_true]
 generalize onlyC (.mk 6 n v (.mk tk tv tl) (.mk ak an av (.mk atk atv atl) al :: .mk bk bn bv (.mk btk btv btl) bl :: r)) false false false (-1) = E at ho ⊢
 have hl := fun (uk uv : Int) (ul : List Ty) (hu : (Ty.mk uk uv ul).ok) (b : Bool) => comp_case_loop es ds mk mn mv mtk mtv mtl ml sc uk uv ul hu r hr r 0 b rfl hc
 clear hc
 generalize tImp ⟨es, ds, .mk mk mn mv (.mk mtk mtv mtl) ml⟩ (.mk ak an av (.mk atk atv atl) al) sc = T at ha ⊢
 obtain ⟨⟨rk, rv, rl⟩, rb⟩ := T
 cases E with
 | false =>
  clear ha hb hl hok
  simp only [Bool.false_eq_true, if_false]
  exact gK Tryz.func95 (rGs 6 [rS [(1, oC ho)], rG]) [.tidO 3 [none, none, some 3]] [] (ob1 (ho) ob0)
 | true =>
  simp only [if_true]
  cases rb with
  | false =>
   clear hb hl hok
   simp only [Bool.false_eq_true, if_false]
   exact gK Tryz.func95 (rGs 6 [rS [(1, oC ho), (6, .int ((r.length : Int) + 1 + 1))], rS [(5, .row 0 (xE ak an av atk atv atl al)), (7, oC ha)], rG, rG]) [.tidO 3 [none, none, some 3]] [] (ob1 (ho) (q ((↑(List.length ((xE ak an av atk atv atl al) :: (xE bk bn bv btk btv btl bl) :: Expr.encs r)) : Int) = (r.length : Int) + 1 + 1) (qI 0 (qC0 ((xE ak an av atk atv atl al)) ((xE bk bn bv btk btv btl bl) :: Expr.encs r) (ob1 (ha) ob0)))))
  | true =>
   simp only [if_true]
   by_cases hk : rk = 0
   ·by_cases hv : rv = (r.length : Int) + 1
    ·rw [if_pos ⟨hk, by simp; omega⟩]
     have hf : ∀ f b, r.attach.foldl (fun ok c => ok && (tImp ⟨es, ds, .mk mk mn mv (.mk mtk mtv mtl) ml⟩ c.1 sc).2 && decide (f = (tImp ⟨es, ds, .mk mk mn mv (.mk mtk mtv mtl) ml⟩ c.1 sc).1)) b =
       casesC ⟨es, ds, .mk mk mn mv (.mk mtk mtv mtl) ml⟩ sc f r b := fun f b => List.foldl_attach (f := fun ok c => ok && (tImp ⟨es, ds, .mk mk mn mv (.mk mtk mtv mtl) ml⟩ c sc).2 && decide (f = (tImp ⟨es, ds, .mk mk mn mv (.mk mtk mtv mtl) ml⟩ c sc).1))
     simp only [hf]
     clear hf
     generalize tImp ⟨es, ds, .mk mk mn mv (.mk mtk mtv mtl) ml⟩ (.mk bk bn bv (.mk btk btv btl) bl) sc = U at hb hok ⊢
     obtain ⟨⟨uk, uv, ul⟩, ub⟩ := U
     have hl := hl uk uv ul hok ub
     generalize casesC ⟨es, ds, .mk mk mn mv (.mk mtk mtv mtl) ml⟩ sc (.mk uk uv ul) r ub = F at hl ⊢
     clear hok
     cases ub with
     | true =>
      cases F with
      | true => exact gK Tryz.func95 (rGs 6 [rS [(1, oC ho), (6, .int ((r.length : Int) + 1 + 1))], rS [(5, .row 0 (xE ak an av atk atv atl al)), (7, oC ha)], rS [(5, .bit false), (12, .int ((r.length : Int) + 1 + 1)), (13, .int ((r.length : Int) + 1 + 1 - 1)), (14, .bit false)], rS [(5, .row 1 (xE bk bn bv btk btv btl bl)), (7, oC hb)], rS [(2, .rows (Expr.encs r)), (3, .int (r.length : Int))], oL [.keep [(2, []), (4, []), (5, []), (8, []), (21, []), (22, []), (208, []), (209, []), (210, [])]] hl, rG]) [.tidO 0 [none, none, some 3]] [] (ob1 (ho) (q ((↑(List.length ((xE ak an av atk atv atl al) :: (xE bk bn bv btk btv btl bl) :: Expr.encs r)) : Int) = (r.length : Int) + 1 + 1) (qI 0 (qC0 ((xE ak an av atk atv atl al)) ((xE bk bn bv btk btv btl bl) :: Expr.encs r) (ob1 (ha) (qU (rk != 0) (q ((↑(List.length ((xE ak an av atk atv atl al) :: (xE bk bn bv btk btv btl bl) :: Expr.encs r)) : Int) = (r.length : Int) + 1 + 1) (qw ((r.length : Int) + 1 + 1 - 1) (qU (rv != (r.length : Int) + 1 + 1 - 1) (qI 1 (qC1 ((xE ak an av atk atv atl al)) ((xE bk bn bv btk btv btl bl)) (Expr.encs r) (ob1 (hb) (q ((0 : Int) ≤ Option.getD (some (2 : Int)) (0 : Int)) (q (Option.getD (some (2 : Int)) (0 : Int) ≤ Option.getD none (↑(List.length ([I ak, I an, I av, I atk, I atv, .sl (3 : Nat) (Ty.encs atl) false, .sl (7 : Nat) (Expr.encs al) false] :: [I bk, I bn, I bv, I btk, I btv, .sl (3 : Nat) (Ty.encs btl) false, .sl (7 : Nat) (Expr.encs bl) false] :: Expr.encs r)) : Int)) (q (Option.getD none (↑(List.length ([I ak, I an, I av, I atk, I atv, .sl (3 : Nat) (Ty.encs atl) false, .sl (7 : Nat) (Expr.encs al) false] :: [I bk, I bn, I bv, I btk, I btv, .sl (3 : Nat) (Ty.encs btl) false, .sl (7 : Nat) (Expr.encs bl) false] :: Expr.encs r)) : Int) ≤ (↑(List.length ([I ak, I an, I av, I atk, I atv, .sl (3 : Nat) (Ty.encs atl) false, .sl (7 : Nat) (Expr.encs al) false] :: [I bk, I bn, I bv, I btk, I btv, .sl (3 : Nat) (Ty.encs btl) false, .sl (7 : Nat) (Expr.encs bl) false] :: Expr.encs r)) : Int)) (q (List.drop (Int.toNat (Option.getD (some (2 : Int)) (0 : Int))) (List.take (Int.toNat (Option.getD none (↑(List.length ([I ak, I an, I av, I atk, I atv, .sl (3 : Nat) (Ty.encs atl) false, .sl (7 : Nat) (Expr.encs al) false] :: [I bk, I bn, I bv, I btk, I btv, .sl (3 : Nat) (Ty.encs btl) false, .sl (7 : Nat) (Expr.encs bl) false] :: Expr.encs r)) : Int))) ([I ak, I an, I av, I atk, I atv, .sl (3 : Nat) (Ty.encs atl) false, .sl (7 : Nat) (Expr.encs al) false] :: [I bk, I bn, I bv, I btk, I btv, .sl (3 : Nat) (Ty.encs btl) false, .sl (7 : Nat) (Expr.encs bl) false] :: Expr.encs r)) = Expr.encs r) (qN Expr.encs r (ob1 (hl) ob0))))))))))))))))))
      | false => exact gK Tryz.func95 (rGs 6 [rS [(1, oC ho), (6, .int ((r.length : Int) + 1 + 1))], rS [(5, .row 0 (xE ak an av atk atv atl al)), (7, oC ha)], rS [(5, .bit false), (12, .int ((r.length : Int) + 1 + 1)), (13, .int ((r.length : Int) + 1 + 1 - 1)), (14, .bit false)], rS [(5, .row 1 (xE bk bn bv btk btv btl bl)), (7, oC hb)], rS [(2, .rows (Expr.encs r)), (3, .int (r.length : Int))], oL [.keep [(2, []), (4, []), (5, []), (8, []), (21, []), (22, []), (208, []), (209, []), (210, [])]] hl, rG]) [.tidO 0 [none, none, some 3]] [] (ob1 (ho) (q ((↑(List.length ((xE ak an av atk atv atl al) :: (xE bk bn bv btk btv btl bl) :: Expr.encs r)) : Int) = (r.length : Int) + 1 + 1) (qI 0 (qC0 ((xE ak an av atk atv atl al)) ((xE bk bn bv btk btv btl bl) :: Expr.encs r) (ob1 (ha) (qU (rk != 0) (q ((↑(List.length ((xE ak an av atk atv atl al) :: (xE bk bn bv btk btv btl bl) :: Expr.encs r)) : Int) = (r.length : Int) + 1 + 1) (qw ((r.length : Int) + 1 + 1 - 1) (qU (rv != (r.length : Int) + 1 + 1 - 1) (qI 1 (qC1 ((xE ak an av atk atv atl al)) ((xE bk bn bv btk btv btl bl)) (Expr.encs r) (ob1 (hb) (q ((0 : Int) ≤ Option.getD (some (2 : Int)) (0 : Int)) (q (Option.getD (some (2 : Int)) (0 : Int) ≤ Option.getD none (↑(List.length ([I ak, I an, I av, I atk, I atv, .sl (3 : Nat) (Ty.encs atl) false, .sl (7 : Nat) (Expr.encs al) false] :: [I bk, I bn, I bv, I btk, I btv, .sl (3 : Nat) (Ty.encs btl) false, .sl (7 : Nat) (Expr.encs bl) false] :: Expr.encs r)) : Int)) (q (Option.getD none (↑(List.length ([I ak, I an, I av, I atk, I atv, .sl (3 : Nat) (Ty.encs atl) false, .sl (7 : Nat) (Expr.encs al) false] :: [I bk, I bn, I bv, I btk, I btv, .sl (3 : Nat) (Ty.encs btl) false, .sl (7 : Nat) (Expr.encs bl) false] :: Expr.encs r)) : Int) ≤ (↑(List.length ([I ak, I an, I av, I atk, I atv, .sl (3 : Nat) (Ty.encs atl) false, .sl (7 : Nat) (Expr.encs al) false] :: [I bk, I bn, I bv, I btk, I btv, .sl (3 : Nat) (Ty.encs btl) false, .sl (7 : Nat) (Expr.encs bl) false] :: Expr.encs r)) : Int)) (q (List.drop (Int.toNat (Option.getD (some (2 : Int)) (0 : Int))) (List.take (Int.toNat (Option.getD none (↑(List.length ([I ak, I an, I av, I atk, I atv, .sl (3 : Nat) (Ty.encs atl) false, .sl (7 : Nat) (Expr.encs al) false] :: [I bk, I bn, I bv, I btk, I btv, .sl (3 : Nat) (Ty.encs btl) false, .sl (7 : Nat) (Expr.encs bl) false] :: Expr.encs r)) : Int))) ([I ak, I an, I av, I atk, I atv, .sl (3 : Nat) (Ty.encs atl) false, .sl (7 : Nat) (Expr.encs al) false] :: [I bk, I bn, I bv, I btk, I btv, .sl (3 : Nat) (Ty.encs btl) false, .sl (7 : Nat) (Expr.encs bl) false] :: Expr.encs r)) = Expr.encs r) (qN Expr.encs r (ob1 (hl) ob0))))))))))))))))))
     | false =>
      cases F with
      | true => exact gK Tryz.func95 (rGs 6 [rS [(1, oC ho), (6, .int ((r.length : Int) + 1 + 1))], rS [(5, .row 0 (xE ak an av atk atv atl al)), (7, oC ha)], rS [(5, .bit false), (12, .int ((r.length : Int) + 1 + 1)), (13, .int ((r.length : Int) + 1 + 1 - 1)), (14, .bit false)], rS [(5, .row 1 (xE bk bn bv btk btv btl bl)), (7, oC hb)], rS [(2, .rows (Expr.encs r)), (3, .int (r.length : Int))], oL [.keep [(2, []), (4, []), (5, []), (8, []), (21, []), (22, []), (208, []), (209, []), (210, [])]] hl, rG]) [.tidO 0 [none, none, some 3]] [] (ob1 (ho) (q ((↑(List.length ((xE ak an av atk atv atl al) :: (xE bk bn bv btk btv btl bl) :: Expr.encs r)) : Int) = (r.length : Int) + 1 + 1) (qI 0 (qC0 ((xE ak an av atk atv atl al)) ((xE bk bn bv btk btv btl bl) :: Expr.encs r) (ob1 (ha) (qU (rk != 0) (q ((↑(List.length ((xE ak an av atk atv atl al) :: (xE bk bn bv btk btv btl bl) :: Expr.encs r)) : Int) = (r.length : Int) + 1 + 1) (qw ((r.length : Int) + 1 + 1 - 1) (qU (rv != (r.length : Int) + 1 + 1 - 1) (qI 1 (qC1 ((xE ak an av atk atv atl al)) ((xE bk bn bv btk btv btl bl)) (Expr.encs r) (ob1 (hb) (q ((0 : Int) ≤ Option.getD (some (2 : Int)) (0 : Int)) (q (Option.getD (some (2 : Int)) (0 : Int) ≤ Option.getD none (↑(List.length ([I ak, I an, I av, I atk, I atv, .sl (3 : Nat) (Ty.encs atl) false, .sl (7 : Nat) (Expr.encs al) false] :: [I bk, I bn, I bv, I btk, I btv, .sl (3 : Nat) (Ty.encs btl) false, .sl (7 : Nat) (Expr.encs bl) false] :: Expr.encs r)) : Int)) (q (Option.getD none (↑(List.length ([I ak, I an, I av, I atk, I atv, .sl (3 : Nat) (Ty.encs atl) false, .sl (7 : Nat) (Expr.encs al) false] :: [I bk, I bn, I bv, I btk, I btv, .sl (3 : Nat) (Ty.encs btl) false, .sl (7 : Nat) (Expr.encs bl) false] :: Expr.encs r)) : Int) ≤ (↑(List.length ([I ak, I an, I av, I atk, I atv, .sl (3 : Nat) (Ty.encs atl) false, .sl (7 : Nat) (Expr.encs al) false] :: [I bk, I bn, I bv, I btk, I btv, .sl (3 : Nat) (Ty.encs btl) false, .sl (7 : Nat) (Expr.encs bl) false] :: Expr.encs r)) : Int)) (q (List.drop (Int.toNat (Option.getD (some (2 : Int)) (0 : Int))) (List.take (Int.toNat (Option.getD none (↑(List.length ([I ak, I an, I av, I atk, I atv, .sl (3 : Nat) (Ty.encs atl) false, .sl (7 : Nat) (Expr.encs al) false] :: [I bk, I bn, I bv, I btk, I btv, .sl (3 : Nat) (Ty.encs btl) false, .sl (7 : Nat) (Expr.encs bl) false] :: Expr.encs r)) : Int))) ([I ak, I an, I av, I atk, I atv, .sl (3 : Nat) (Ty.encs atl) false, .sl (7 : Nat) (Expr.encs al) false] :: [I bk, I bn, I bv, I btk, I btv, .sl (3 : Nat) (Ty.encs btl) false, .sl (7 : Nat) (Expr.encs bl) false] :: Expr.encs r)) = Expr.encs r) (qN Expr.encs r (ob1 (hl) ob0))))))))))))))))))
      | false => exact gK Tryz.func95 (rGs 6 [rS [(1, oC ho), (6, .int ((r.length : Int) + 1 + 1))], rS [(5, .row 0 (xE ak an av atk atv atl al)), (7, oC ha)], rS [(5, .bit false), (12, .int ((r.length : Int) + 1 + 1)), (13, .int ((r.length : Int) + 1 + 1 - 1)), (14, .bit false)], rS [(5, .row 1 (xE bk bn bv btk btv btl bl)), (7, oC hb)], rS [(2, .rows (Expr.encs r)), (3, .int (r.length : Int))], oL [.keep [(2, []), (4, []), (5, []), (8, []), (21, []), (22, []), (208, []), (209, []), (210, [])]] hl, rG]) [.tidO 0 [none, none, some 3]] [] (ob1 (ho) (q ((↑(List.length ((xE ak an av atk atv atl al) :: (xE bk bn bv btk btv btl bl) :: Expr.encs r)) : Int) = (r.length : Int) + 1 + 1) (qI 0 (qC0 ((xE ak an av atk atv atl al)) ((xE bk bn bv btk btv btl bl) :: Expr.encs r) (ob1 (ha) (qU (rk != 0) (q ((↑(List.length ((xE ak an av atk atv atl al) :: (xE bk bn bv btk btv btl bl) :: Expr.encs r)) : Int) = (r.length : Int) + 1 + 1) (qw ((r.length : Int) + 1 + 1 - 1) (qU (rv != (r.length : Int) + 1 + 1 - 1) (qI 1 (qC1 ((xE ak an av atk atv atl al)) ((xE bk bn bv btk btv btl bl)) (Expr.encs r) (ob1 (hb) (q ((0 : Int) ≤ Option.getD (some (2 : Int)) (0 : Int)) (q (Option.getD (some (2 : Int)) (0 : Int) ≤ Option.getD none (↑(List.length ([I ak, I an, I av, I atk, I atv, .sl (3 : Nat) (Ty.encs atl) false, .sl (7 : Nat) (Expr.encs al) false] :: [I bk, I bn, I bv, I btk, I btv, .sl (3 : Nat) (Ty.encs btl) false, .sl (7 : Nat) (Expr.encs bl) false] :: Expr.encs r)) : Int)) (q (Option.getD none (↑(List.length ([I ak, I an, I av, I atk, I atv, .sl (3 : Nat) (Ty.encs atl) false, .sl (7 : Nat) (Expr.encs al) false] :: [I bk, I bn, I bv, I btk, I btv, .sl (3 : Nat) (Ty.encs btl) false, .sl (7 : Nat) (Expr.encs bl) false] :: Expr.encs r)) : Int) ≤ (↑(List.length ([I ak, I an, I av, I atk, I atv, .sl (3 : Nat) (Ty.encs atl) false, .sl (7 : Nat) (Expr.encs al) false] :: [I bk, I bn, I bv, I btk, I btv, .sl (3 : Nat) (Ty.encs btl) false, .sl (7 : Nat) (Expr.encs bl) false] :: Expr.encs r)) : Int)) (q (List.drop (Int.toNat (Option.getD (some (2 : Int)) (0 : Int))) (List.take (Int.toNat (Option.getD none (↑(List.length ([I ak, I an, I av, I atk, I atv, .sl (3 : Nat) (Ty.encs atl) false, .sl (7 : Nat) (Expr.encs al) false] :: [I bk, I bn, I bv, I btk, I btv, .sl (3 : Nat) (Ty.encs btl) false, .sl (7 : Nat) (Expr.encs bl) false] :: Expr.encs r)) : Int))) ([I ak, I an, I av, I atk, I atv, .sl (3 : Nat) (Ty.encs atl) false, .sl (7 : Nat) (Expr.encs al) false] :: [I bk, I bn, I bv, I btk, I btv, .sl (3 : Nat) (Ty.encs btl) false, .sl (7 : Nat) (Expr.encs bl) false] :: Expr.encs r)) = Expr.encs r) (qN Expr.encs r (ob1 (hl) ob0))))))))))))))))))
    ·rw [if_neg (fun h => hv (by have := h.2; simp at this; omega))]
     clear hb hl hok
     exact gK Tryz.func95 (rGs 6 [rS [(1, oC ho), (6, .int ((r.length : Int) + 1 + 1))], rS [(5, .row 0 (xE ak an av atk atv atl al)), (7, oC ha)], rS [(5, .bit false), (12, .int ((r.length : Int) + 1 + 1)), (13, .int ((r.length : Int) + 1 + 1 - 1)), (14, .bit true)], rG]) [.tidO 3 [none, none, some 3]] [] (ob1 (ho) (q ((↑(List.length ((xE ak an av atk atv atl al) :: (xE bk bn bv btk btv btl bl) :: Expr.encs r)) : Int) = (r.length : Int) + 1 + 1) (qI 0 (qC0 ((xE ak an av atk atv atl al)) ((xE bk bn bv btk btv btl bl) :: Expr.encs r) (ob1 (ha) (qU (rk != 0) (q ((↑(List.length ((xE ak an av atk atv atl al) :: (xE bk bn bv btk btv btl bl) :: Expr.encs r)) : Int) = (r.length : Int) + 1 + 1) (qw ((r.length : Int) + 1 + 1 - 1) (qV (rv != (r.length : Int) + 1 + 1 - 1) ob0)))))))))
   ·rw [if_neg (fun h => hk h.1)]
    clear hb hl hok
    exact gK Tryz.func95 (rGs 6 [rS [(1, oC ho), (6, .int ((r.length : Int) + 1 + 1))], rS [(5, .row 0 (xE ak an av atk atv atl al)), (7, oC ha)], rS [(5, .bit true)], rG]) [.tidO 3 [none, none, some 3]] [] (ob1 (ho) (q ((↑(List.length ((xE ak an av atk atv atl al) :: (xE bk bn bv btk btv btl bl) :: Expr.encs r)) : Int) = (r.length : Int) + 1 + 1) (qI 0 (qC0 ((xE ak an av atk atv atl al)) ((xE bk bn bv btk btv btl bl) :: Expr.encs r) (ob1 (ha) (qV (rk != 0) ob0))))))
theorem comp_bad (es : List ByteArray) (ds : List Def) (mk mn mv mtk mtv : Int) (mtl : List Ty) (ml : List Expr) (sc : List Ty) (k n v tk tv : Int) (tl : List Ty) (l : List Expr)
  (h : (k = 3 ∨ k = 5) ∧ l.length ≠ 2) :
  CompOk ⟨es, ds, .mk mk mn mv (.mk mtk mtv mtl) ml⟩ (.mk k n v (.mk tk tv tl) l) sc := by
 unfold CompOk
 have ho := only_ k n v tk tv tl l false false false 2
 rw [only_len _ _ _ _ _ _ _ _ _ (by omega) (by omega)] at ho
 rw [show tImp ⟨es, ds, .mk mk mn mv (.mk mtk mtv mtl) ml⟩ (.mk k n v (.mk tk tv tl) l) sc = (tyZ, false) by
  rw [tImp.eq_def]
  dsimp only
  rcases h with ⟨rfl | rfl, h⟩
  ·simp only [show ¬ (3 : Int) = 0 by omega, show ¬ (3 : Int) = 8 by omega, show ¬ (3 : Int) = 1 by omega, show ¬ (3 : Int) = 2 by omega, show ¬ (3 : Int) = 7 by omega, if_false, if_true]
   match l, h with
   | [], _ => rfl
   | [_], _ => rfl
   | [_, _], h => exact absurd rfl h
   | _ :: _ :: _ :: _, _ => rfl
  ·simp only [show ¬ (5 : Int) = 0 by omega, show ¬ (5 : Int) = 8 by omega, show ¬ (5 : Int) = 1 by omega, show ¬ (5 : Int) = 2 by omega, show ¬ (5 : Int) = 7 by omega, show ¬ (5 : Int) = 3 by omega, show ¬ (5 : Int) = 4 by omega, if_false, if_true]
   match l, h with
   | [], _ => rfl
   | [_], _ => rfl
   | [_, _], h => exact absurd rfl h
   | _ :: _ :: _ :: _, _ => rfl]
 rcases h with ⟨rfl | rfl, h⟩
 ·exact gK Tryz.func95 (rGs 4 [rS [(1, oC ho)], rG]) [.tidO 3 [none, none, some 3]] [] (ob1 (ho) ob0)
 ·exact gK Tryz.func95 (rGs 6 [rS [(1, oC ho)], rG]) [.tidO 3 [none, none, some 3]] [] (ob1 (ho) ob0)
theorem comp_bad_lam (es : List ByteArray) (ds : List Def) (mk mn mv mtk mtv : Int) (mtl : List Ty) (ml : List Expr) (sc : List Ty) (n v tk tv : Int) (tl : List Ty) (l : List Expr) (h : l.length ≠ 1) :
  CompOk ⟨es, ds, .mk mk mn mv (.mk mtk mtv mtl) ml⟩ (.mk 4 n v (.mk tk tv tl) l) sc := by
 unfold CompOk
 have ho := only_ 4 n v tk tv tl l false false true 1
 rw [only_len _ _ _ _ _ _ _ _ _ (by omega) (by omega)] at ho
 rw [show tImp ⟨es, ds, .mk mk mn mv (.mk mtk mtv mtl) ml⟩ (.mk 4 n v (.mk tk tv tl) l) sc = (tyZ, false) by
  rw [tImp.eq_def]
  dsimp only
  simp only [show ¬ (4 : Int) = 0 by omega, show ¬ (4 : Int) = 8 by omega, show ¬ (4 : Int) = 1 by omega, show ¬ (4 : Int) = 2 by omega, show ¬ (4 : Int) = 7 by omega, show ¬ (4 : Int) = 3 by omega, if_false, if_true]
  match l, h with
  | [], _ => rfl
  | [_], h => exact absurd rfl h
  | _ :: _ :: _, _ => rfl]
 exact gK Tryz.func95 (rGs 5 [rS [(1, oC ho)], rG]) [.tidO 3 [none, none, some 3]] [] (ob1 (ho) ob0)
theorem comp_lam1 (es : List ByteArray) (ds : List Def) (mk mn mv mtk mtv : Int) (mtl : List Ty) (ml : List Expr) (sc : List Ty) (n v tk tv : Int) (tl : List Ty)
  (ak an av atk atv : Int) (atl : List Ty) (al : List Expr) (htok : (Ty.mk tk tv tl).ok) (hv : ¬ (tyC (.mk tk tv tl) 20).1 = true) :
  CompOk ⟨es, ds, .mk mk mn mv (.mk mtk mtv mtl) ml⟩ (.mk 4 n v (.mk tk tv tl) [.mk ak an av (.mk atk atv atl) al]) sc := by
 unfold CompOk
 have ho := only_ 4 n v tk tv tl [.mk ak an av (.mk atk atv atl) al] false false true 1
 have hi := isTy_ (.mk tk tv tl) htok
 rw [Bool.not_eq_true] at hv
 rw [tImp.eq_def ⟨es, ds, .mk mk mn mv (.mk mtk mtv mtl) ml⟩ (.mk 4 n v (.mk tk tv tl) [.mk ak an av (.mk atk atv atl) al])]
 dsimp only
 simp only [show ¬ (4 : Int) = 0 by omega, show ¬ (4 : Int) = 8 by omega, show ¬ (4 : Int) = 1 by omega, show ¬ (4 : Int) = 2 by omega, show ¬ (4 : Int) = 7 by omega, show ¬ (4 : Int) = 3 by omega, if_false, if_true, hv, Bool.and_false, Bool.false_eq_true]
 rw [hv] at hi
 generalize onlyC (.mk 4 n v (.mk tk tv tl) [.mk ak an av (.mk atk atv atl) al]) false false true 1 = E at ho
 clear htok
 cases E with
 | false => exact gK Tryz.func95 (rGs 5 [rS [(1, oC ho)], rG]) [.tidO 3 [none, none, some 3]] [] (ob1 (ho) ob0)
 | true => exact gK Tryz.func95 (rGs 5 [rS [(1, oC ho), (7, oC hi)], rG]) [.tidO 3 [none, none, some 3]] [] (ob1 (ho) (ob1 (hi) ob0))
theorem comp_bad_case (es : List ByteArray) (ds : List Def) (mk mn mv mtk mtv : Int) (mtl : List Ty) (ml : List Expr) (sc : List Ty) (n v tk tv : Int) (tl : List Ty) (l : List Expr) (h : l.length < 2) :
  CompOk ⟨es, ds, .mk mk mn mv (.mk mtk mtv mtl) ml⟩ (.mk 6 n v (.mk tk tv tl) l) sc := by
 unfold CompOk
 have ho := only_ 6 n v tk tv tl l false false false (-1)
 generalize onlyC (.mk 6 n v (.mk tk tv tl) l) false false false (-1) = E at ho
 rw [show tImp ⟨es, ds, .mk mk mn mv (.mk mtk mtv mtl) ml⟩ (.mk 6 n v (.mk tk tv tl) l) sc = (tyZ, false) by
  rw [tImp.eq_def]
  dsimp only
  simp only [show ¬ (6 : Int) = 0 by omega, show ¬ (6 : Int) = 8 by omega, show ¬ (6 : Int) = 1 by omega, show ¬ (6 : Int) = 2 by omega, show ¬ (6 : Int) = 7 by omega, show ¬ (6 : Int) = 3 by omega, show ¬ (6 : Int) = 4 by omega, show ¬ (6 : Int) = 5 by omega, if_false, if_true]
  match l, h with
  | [], _ => rfl
  | [_], _ => rfl
  | _ :: _ :: _, h => exact absurd h (by simp)]
 cases E with
 | true => exact gK Tryz.func95 (rGs 6 [rS [(1, oC ho), (6, .int (l.length : Int)), (7, .bit true)], rG]) [.tidO 3 [none, none, some 3]] [] (ob1 (ho) (qN Expr.encs l (qT ((l.length : Int) < 2) ob0)))
 | false => exact gK Tryz.func95 (rGs 6 [rS [(1, oC ho)], rG]) [.tidO 3 [none, none, some 3]] [] (ob1 (ho) ob0)
theorem type_comp (es : List ByteArray) (ds : List Def) (mk mn mv mtk mtv : Int) (mtl : List Ty) (ml : List Expr) (sc : List Ty) (k n v tk tv : Int) (tl : List Ty) (l : List Expr)
  (h : k = 3 ∨ k = 4 ∨ k = 5 ∨ k = 6) (hc : CompOk ⟨es, ds, .mk mk mn mv (.mk mtk mtv mtl) ml⟩ (.mk k n v (.mk tk tv tl) l) sc) :
  TypeOk ⟨es, ds, .mk mk mn mv (.mk mtk mtv mtl) ml⟩ (.mk k n v (.mk tk tv tl) l) sc := by
 unfold CompOk at hc
 unfold TypeOk
 generalize tImp ⟨es, ds, .mk mk mn mv (.mk mtk mtv mtl) ml⟩ (.mk k n v (.mk tk tv tl) l) sc = T at hc ⊢
 obtain ⟨⟨rk, rv, rl⟩, rb⟩ := T
 rcases h with rfl | rfl | rfl | rfl
 ·cases rb with
  | true => exact gK Tryz.func61 (rGs 8 [rS [(4, oC hc)]]) [.tidO 3 [none, none, some 3]] [] (ob1 (hc) ob0)
  | false => exact gK Tryz.func61 (rGs 8 [rS [(4, oC hc)]]) [.tidO 3 [none, none, some 3]] [] (ob1 (hc) ob0)
 ·cases rb with
  | true => exact gK Tryz.func61 (rGs 9 [rS [(4, oC hc)]]) [.tidO 3 [none, none, some 3]] [] (ob1 (hc) ob0)
  | false => exact gK Tryz.func61 (rGs 9 [rS [(4, oC hc)]]) [.tidO 3 [none, none, some 3]] [] (ob1 (hc) ob0)
 ·cases rb with
  | true => exact gK Tryz.func61 (rGs 10 [rS [(4, oC hc)]]) [.tidO 3 [none, none, some 3]] [] (ob1 (hc) ob0)
  | false => exact gK Tryz.func61 (rGs 10 [rS [(4, oC hc)]]) [.tidO 3 [none, none, some 3]] [] (ob1 (hc) ob0)
 ·cases rb with
  | true => exact gK Tryz.func61 (rGs 11 [rS [(4, oC hc)]]) [.tidO 3 [none, none, some 3]] [] (ob1 (hc) ob0)
  | false => exact gK Tryz.func61 (rGs 11 [rS [(4, oC hc)]]) [.tidO 3 [none, none, some 3]] [] (ob1 (hc) ob0)
theorem type_other (es : List ByteArray) (ds : List Def) (mk mn mv mtk mtv : Int) (mtl : List Ty) (ml : List Expr) (sc : List Ty) (k n v tk tv : Int) (tl : List Ty) (l : List Expr)
  (h : k < 0 ∨ 8 < k) : TypeOk ⟨es, ds, .mk mk mn mv (.mk mtk mtv mtl) ml⟩ (.mk k n v (.mk tk tv tl) l) sc := by
 unfold TypeOk
 rw [show tImp ⟨es, ds, .mk mk mn mv (.mk mtk mtv mtl) ml⟩ (.mk k n v (.mk tk tv tl) l) sc = (tyZ, false) by
  rw [tImp.eq_def]
  dsimp only
  rw [if_neg (by omega), if_neg (by omega), if_neg (by omega), if_neg (by omega), if_neg (by omega), if_neg (by omega), if_neg (by omega), if_neg (by omega), if_neg (by omega)]]
 exact gK Tryz.func61 [rG, rG, rS [(0, .bit false)], rS [(0, .bit false)], rS [(0, .bit false)], rS [(0, .bit false)], rS [(0, .bit false)], rS [(0, .bit false)], rS [(0, .bit false)], rS [(0, .bit false)], rS [(0, .bit false)], rG, rG] [.tidO 3 [none, none, some 3]] [] (qU (k == 0) (qU (k == 8) (qU (k == 1) (qU (k == 2) (qU (k == 7) (qU (k == 3) (qU (k == 4) (qU (k == 5) (qU (k == 6) ob0)))))))))
end Go.Ae

/- The fields of expressions; scopes. .. (AeEF9, AeEF10, AeED1, AeEF11, AeEF12, AeEF13, AeEF14) -/
import Derived.Test.YtmnnmjbjcdjglaaT5
set_option linter.unusedSimpArgs false
set_option linter.unusedVariables false
/- The fields of expressions; scopes. -/
namespace Go.Ae
open Go.Proofs

def onlyC : Expr → Bool → Bool → Bool → Int → Bool
  | .mk _ n v (.mk tk tv tl) l, bn, bv, bt, g => (bn || decide (n = 0)) && (bv || decide (v = 0)) && (bt || (decide (tk = 0) && decide (tv = 0) && decide ((tl.length : Int) = 0))) && (decide (g < 0) || decide ((l.length : Int) = g))

theorem only_ (k n v tk tv : Int) (tl : List Ty) (l : List Expr) (bn bv bt : Bool) (g : Int) : SoundCall Try.prog 86 [.agg (Expr.mk k n v (.mk tk tv tl) l).enc, B bn, B bv, B bt, I g] [] (B (onlyC (.mk k n v (.mk tk tv tl) l) bn bv bt g)) [] := by
  cases bn <;> cases bv <;> cases bt
  · rcases bsp (n) (0) with ⟨hb1, hb1'⟩ | ⟨hb1, hb1'⟩
    · skip
      rcases bsp (v) (0) with ⟨hb2, hb2'⟩ | ⟨hb2, hb2'⟩
      · skip
        rcases bsp (tk) (0) with ⟨hb3, hb3'⟩ | ⟨hb3, hb3'⟩
        · skip
          rcases bsp (tv) (0) with ⟨hb4, hb4'⟩ | ⟨hb4, hb4'⟩
          · skip
            rcases bsp ((↑(List.length tl) : Int)) (0) with ⟨hb5, hb5'⟩ | ⟨hb5, hb5'⟩
            · skip
              rcases dsp (g < 0) with ⟨hb6, hb6'⟩ | ⟨hb6, hb6'⟩
              · skip
                exact Fn.go KT Try.func86 [.reg [] [], .reg [] [(4, .bit true), (11, .bit true), (20, .bit true), (25, .bit true), (31, .int (↑(List.length tl) : Int)), (32, .bit true), (38, .bit true)]] [] [] (B true) ([]) (by kernel_rfl) (q ((n == 0) = true) (q ((v == 0) = true) (q ((tk == 0) = true) (q ((tv == 0) = true) (q ((↑(List.length (Ty.encs tl)) : Int) = (↑(List.length tl) : Int)) (q (((↑(List.length tl) : Int) == 0) = true) (q (decide (g < 0) = true) ob0))))))) (by (simp_all [onlyC])) (by first | rfl | (simp [*]; done))
              · skip
                rcases bsp ((↑(List.length l) : Int)) (g) with ⟨hb7, hb7'⟩ | ⟨hb7, hb7'⟩
                · skip
                  exact Fn.go KT Try.func86 [.reg [] [], .reg [] [(4, .bit true), (11, .bit true), (20, .bit true), (25, .bit true), (31, .int (↑(List.length tl) : Int)), (32, .bit true), (38, .bit false), (42, .int (↑(List.length l) : Int)), (44, .bit true)]] [] [] (B true) ([]) (by kernel_rfl) (q ((n == 0) = true) (q ((v == 0) = true) (q ((tk == 0) = true) (q ((tv == 0) = true) (q ((↑(List.length (Ty.encs tl)) : Int) = (↑(List.length tl) : Int)) (q (((↑(List.length tl) : Int) == 0) = true) (q (decide (g < 0) = false) (q ((↑(List.length (Expr.encs l)) : Int) = (↑(List.length l) : Int)) (q (((↑(List.length l) : Int) == g) = true) ob0))))))))) (by (simp_all [onlyC])) (by first | rfl | (simp [*]; done))
                · skip
                  exact Fn.go KT Try.func86 [.reg [] [], .reg [] [(4, .bit true), (11, .bit true), (20, .bit true), (25, .bit true), (31, .int (↑(List.length tl) : Int)), (32, .bit true), (38, .bit false), (42, .int (↑(List.length l) : Int)), (44, .bit false)]] [] [] (B false) ([]) (by kernel_rfl) (q ((n == 0) = true) (q ((v == 0) = true) (q ((tk == 0) = true) (q ((tv == 0) = true) (q ((↑(List.length (Ty.encs tl)) : Int) = (↑(List.length tl) : Int)) (q (((↑(List.length tl) : Int) == 0) = true) (q (decide (g < 0) = false) (q ((↑(List.length (Expr.encs l)) : Int) = (↑(List.length l) : Int)) (q (((↑(List.length l) : Int) == g) = false) ob0))))))))) (by (simp_all [onlyC])) (by first | rfl | (simp [*]; done))
            · skip
              exact Fn.go KT Try.func86 [.reg [] [], .reg [] [(4, .bit true), (11, .bit true), (20, .bit true), (25, .bit true), (31, .int (↑(List.length tl) : Int)), (32, .bit false)]] [] [] (B false) ([]) (by kernel_rfl) (q ((n == 0) = true) (q ((v == 0) = true) (q ((tk == 0) = true) (q ((tv == 0) = true) (q ((↑(List.length (Ty.encs tl)) : Int) = (↑(List.length tl) : Int)) (q (((↑(List.length tl) : Int) == 0) = false) ob0)))))) (by (simp_all [onlyC])) (by first | rfl | (simp [*]; done))
          · skip
            exact Fn.go KT Try.func86 [.reg [] [], .reg [] [(4, .bit true), (11, .bit true), (20, .bit true), (25, .bit false)]] [] [] (B false) ([]) (by kernel_rfl) (q ((n == 0) = true) (q ((v == 0) = true) (q ((tk == 0) = true) (q ((tv == 0) = false) ob0)))) (by (simp_all [onlyC])) (by first | rfl | (simp [*]; done))
        · skip
          exact Fn.go KT Try.func86 [.reg [] [], .reg [] [(4, .bit true), (11, .bit true), (20, .bit false)]] [] [] (B false) ([]) (by kernel_rfl) (q ((n == 0) = true) (q ((v == 0) = true) (q ((tk == 0) = false) ob0))) (by (simp_all [onlyC])) (by first | rfl | (simp [*]; done))
      · skip
        exact Fn.go KT Try.func86 [.reg [] [], .reg [] [(4, .bit true), (11, .bit false)]] [] [] (B false) ([]) (by kernel_rfl) (q ((n == 0) = true) (q ((v == 0) = false) ob0)) (by (simp_all [onlyC])) (by first | rfl | (simp [*]; done))
    · skip
      exact Fn.go KT Try.func86 [.reg [] [], .reg [] [(4, .bit false)]] [] [] (B false) ([]) (by kernel_rfl) (q ((n == 0) = false) ob0) (by (simp_all [onlyC])) (by first | rfl | (simp [*]; done))
  · rcases bsp (n) (0) with ⟨hb1, hb1'⟩ | ⟨hb1, hb1'⟩
    · skip
      rcases bsp (v) (0) with ⟨hb2, hb2'⟩ | ⟨hb2, hb2'⟩
      · skip
        rcases dsp (g < 0) with ⟨hb3, hb3'⟩ | ⟨hb3, hb3'⟩
        · skip
          exact Fn.go KT Try.func86 [.reg [] [], .reg [] [(4, .bit true), (11, .bit true), (38, .bit true)]] [] [] (B true) ([]) (by kernel_rfl) (q ((n == 0) = true) (q ((v == 0) = true) (q (decide (g < 0) = true) ob0))) (by (simp_all [onlyC])) (by first | rfl | (simp [*]; done))
        · skip
          rcases bsp ((↑(List.length l) : Int)) (g) with ⟨hb4, hb4'⟩ | ⟨hb4, hb4'⟩
          · skip
            exact Fn.go KT Try.func86 [.reg [] [], .reg [] [(4, .bit true), (11, .bit true), (38, .bit false), (42, .int (↑(List.length l) : Int)), (44, .bit true)]] [] [] (B true) ([]) (by kernel_rfl) (q ((n == 0) = true) (q ((v == 0) = true) (q (decide (g < 0) = false) (q ((↑(List.length (Expr.encs l)) : Int) = (↑(List.length l) : Int)) (q (((↑(List.length l) : Int) == g) = true) ob0))))) (by (simp_all [onlyC])) (by first | rfl | (simp [*]; done))
          · skip
            exact Fn.go KT Try.func86 [.reg [] [], .reg [] [(4, .bit true), (11, .bit true), (38, .bit false), (42, .int (↑(List.length l) : Int)), (44, .bit false)]] [] [] (B false) ([]) (by kernel_rfl) (q ((n == 0) = true) (q ((v == 0) = true) (q (decide (g < 0) = false) (q ((↑(List.length (Expr.encs l)) : Int) = (↑(List.length l) : Int)) (q (((↑(List.length l) : Int) == g) = false) ob0))))) (by (simp_all [onlyC])) (by first | rfl | (simp [*]; done))
      · skip
        exact Fn.go KT Try.func86 [.reg [] [], .reg [] [(4, .bit true), (11, .bit false)]] [] [] (B false) ([]) (by kernel_rfl) (q ((n == 0) = true) (q ((v == 0) = false) ob0)) (by (simp_all [onlyC])) (by first | rfl | (simp [*]; done))
    · skip
      exact Fn.go KT Try.func86 [.reg [] [], .reg [] [(4, .bit false)]] [] [] (B false) ([]) (by kernel_rfl) (q ((n == 0) = false) ob0) (by (simp_all [onlyC])) (by first | rfl | (simp [*]; done))
  · rcases bsp (n) (0) with ⟨hb1, hb1'⟩ | ⟨hb1, hb1'⟩
    · skip
      rcases bsp (tk) (0) with ⟨hb2, hb2'⟩ | ⟨hb2, hb2'⟩
      · skip
        rcases bsp (tv) (0) with ⟨hb3, hb3'⟩ | ⟨hb3, hb3'⟩
        · skip
          rcases bsp ((↑(List.length tl) : Int)) (0) with ⟨hb4, hb4'⟩ | ⟨hb4, hb4'⟩
          · skip
            rcases dsp (g < 0) with ⟨hb5, hb5'⟩ | ⟨hb5, hb5'⟩
            · skip
              exact Fn.go KT Try.func86 [.reg [] [], .reg [] [(4, .bit true), (20, .bit true), (25, .bit true), (31, .int (↑(List.length tl) : Int)), (32, .bit true), (38, .bit true)]] [] [] (B true) ([]) (by kernel_rfl) (q ((n == 0) = true) (q ((tk == 0) = true) (q ((tv == 0) = true) (q ((↑(List.length (Ty.encs tl)) : Int) = (↑(List.length tl) : Int)) (q (((↑(List.length tl) : Int) == 0) = true) (q (decide (g < 0) = true) ob0)))))) (by (simp_all [onlyC])) (by first | rfl | (simp [*]; done))
            · skip
              rcases bsp ((↑(List.length l) : Int)) (g) with ⟨hb6, hb6'⟩ | ⟨hb6, hb6'⟩
              · skip
                exact Fn.go KT Try.func86 [.reg [] [], .reg [] [(4, .bit true), (20, .bit true), (25, .bit true), (31, .int (↑(List.length tl) : Int)), (32, .bit true), (38, .bit false), (42, .int (↑(List.length l) : Int)), (44, .bit true)]] [] [] (B true) ([]) (by kernel_rfl) (q ((n == 0) = true) (q ((tk == 0) = true) (q ((tv == 0) = true) (q ((↑(List.length (Ty.encs tl)) : Int) = (↑(List.length tl) : Int)) (q (((↑(List.length tl) : Int) == 0) = true) (q (decide (g < 0) = false) (q ((↑(List.length (Expr.encs l)) : Int) = (↑(List.length l) : Int)) (q (((↑(List.length l) : Int) == g) = true) ob0)))))))) (by (simp_all [onlyC])) (by first | rfl | (simp [*]; done))
              · skip
                exact Fn.go KT Try.func86 [.reg [] [], .reg [] [(4, .bit true), (20, .bit true), (25, .bit true), (31, .int (↑(List.length tl) : Int)), (32, .bit true), (38, .bit false), (42, .int (↑(List.length l) : Int)), (44, .bit false)]] [] [] (B false) ([]) (by kernel_rfl) (q ((n == 0) = true) (q ((tk == 0) = true) (q ((tv == 0) = true) (q ((↑(List.length (Ty.encs tl)) : Int) = (↑(List.length tl) : Int)) (q (((↑(List.length tl) : Int) == 0) = true) (q (decide (g < 0) = false) (q ((↑(List.length (Expr.encs l)) : Int) = (↑(List.length l) : Int)) (q (((↑(List.length l) : Int) == g) = false) ob0)))))))) (by (simp_all [onlyC])) (by first | rfl | (simp [*]; done))
          · skip
            exact Fn.go KT Try.func86 [.reg [] [], .reg [] [(4, .bit true), (20, .bit true), (25, .bit true), (31, .int (↑(List.length tl) : Int)), (32, .bit false)]] [] [] (B false) ([]) (by kernel_rfl) (q ((n == 0) = true) (q ((tk == 0) = true) (q ((tv == 0) = true) (q ((↑(List.length (Ty.encs tl)) : Int) = (↑(List.length tl) : Int)) (q (((↑(List.length tl) : Int) == 0) = false) ob0))))) (by (simp_all [onlyC])) (by first | rfl | (simp [*]; done))
        · skip
          exact Fn.go KT Try.func86 [.reg [] [], .reg [] [(4, .bit true), (20, .bit true), (25, .bit false)]] [] [] (B false) ([]) (by kernel_rfl) (q ((n == 0) = true) (q ((tk == 0) = true) (q ((tv == 0) = false) ob0))) (by (simp_all [onlyC])) (by first | rfl | (simp [*]; done))
      · skip
        exact Fn.go KT Try.func86 [.reg [] [], .reg [] [(4, .bit true), (20, .bit false)]] [] [] (B false) ([]) (by kernel_rfl) (q ((n == 0) = true) (q ((tk == 0) = false) ob0)) (by (simp_all [onlyC])) (by first | rfl | (simp [*]; done))
    · skip
      exact Fn.go KT Try.func86 [.reg [] [], .reg [] [(4, .bit false)]] [] [] (B false) ([]) (by kernel_rfl) (q ((n == 0) = false) ob0) (by (simp_all [onlyC])) (by first | rfl | (simp [*]; done))
  · rcases bsp (n) (0) with ⟨hb1, hb1'⟩ | ⟨hb1, hb1'⟩
    · skip
      rcases dsp (g < 0) with ⟨hb2, hb2'⟩ | ⟨hb2, hb2'⟩
      · skip
        exact Fn.go KT Try.func86 [.reg [] [], .reg [] [(4, .bit true), (38, .bit true)]] [] [] (B true) ([]) (by kernel_rfl) (q ((n == 0) = true) (q (decide (g < 0) = true) ob0)) (by (simp_all [onlyC])) (by first | rfl | (simp [*]; done))
      · skip
        rcases bsp ((↑(List.length l) : Int)) (g) with ⟨hb3, hb3'⟩ | ⟨hb3, hb3'⟩
        · skip
          exact Fn.go KT Try.func86 [.reg [] [], .reg [] [(4, .bit true), (38, .bit false), (42, .int (↑(List.length l) : Int)), (44, .bit true)]] [] [] (B true) ([]) (by kernel_rfl) (q ((n == 0) = true) (q (decide (g < 0) = false) (q ((↑(List.length (Expr.encs l)) : Int) = (↑(List.length l) : Int)) (q (((↑(List.length l) : Int) == g) = true) ob0)))) (by (simp_all [onlyC])) (by first | rfl | (simp [*]; done))
        · skip
          exact Fn.go KT Try.func86 [.reg [] [], .reg [] [(4, .bit true), (38, .bit false), (42, .int (↑(List.length l) : Int)), (44, .bit false)]] [] [] (B false) ([]) (by kernel_rfl) (q ((n == 0) = true) (q (decide (g < 0) = false) (q ((↑(List.length (Expr.encs l)) : Int) = (↑(List.length l) : Int)) (q (((↑(List.length l) : Int) == g) = false) ob0)))) (by (simp_all [onlyC])) (by first | rfl | (simp [*]; done))
    · skip
      exact Fn.go KT Try.func86 [.reg [] [], .reg [] [(4, .bit false)]] [] [] (B false) ([]) (by kernel_rfl) (q ((n == 0) = false) ob0) (by (simp_all [onlyC])) (by first | rfl | (simp [*]; done))
  · rcases bsp (v) (0) with ⟨hb1, hb1'⟩ | ⟨hb1, hb1'⟩
    · skip
      rcases bsp (tk) (0) with ⟨hb2, hb2'⟩ | ⟨hb2, hb2'⟩
      · skip
        rcases bsp (tv) (0) with ⟨hb3, hb3'⟩ | ⟨hb3, hb3'⟩
        · skip
          rcases bsp ((↑(List.length tl) : Int)) (0) with ⟨hb4, hb4'⟩ | ⟨hb4, hb4'⟩
          · skip
            rcases dsp (g < 0) with ⟨hb5, hb5'⟩ | ⟨hb5, hb5'⟩
            · skip
              exact Fn.go KT Try.func86 [.reg [] [], .reg [] [(11, .bit true), (20, .bit true), (25, .bit true), (31, .int (↑(List.length tl) : Int)), (32, .bit true), (38, .bit true)]] [] [] (B true) ([]) (by kernel_rfl) (q ((v == 0) = true) (q ((tk == 0) = true) (q ((tv == 0) = true) (q ((↑(List.length (Ty.encs tl)) : Int) = (↑(List.length tl) : Int)) (q (((↑(List.length tl) : Int) == 0) = true) (q (decide (g < 0) = true) ob0)))))) (by (simp_all [onlyC])) (by first | rfl | (simp [*]; done))
            · skip
              rcases bsp ((↑(List.length l) : Int)) (g) with ⟨hb6, hb6'⟩ | ⟨hb6, hb6'⟩
              · skip
                exact Fn.go KT Try.func86 [.reg [] [], .reg [] [(11, .bit true), (20, .bit true), (25, .bit true), (31, .int (↑(List.length tl) : Int)), (32, .bit true), (38, .bit false), (42, .int (↑(List.length l) : Int)), (44, .bit true)]] [] [] (B true) ([]) (by kernel_rfl) (q ((v == 0) = true) (q ((tk == 0) = true) (q ((tv == 0) = true) (q ((↑(List.length (Ty.encs tl)) : Int) = (↑(List.length tl) : Int)) (q (((↑(List.length tl) : Int) == 0) = true) (q (decide (g < 0) = false) (q ((↑(List.length (Expr.encs l)) : Int) = (↑(List.length l) : Int)) (q (((↑(List.length l) : Int) == g) = true) ob0)))))))) (by (simp_all [onlyC])) (by first | rfl | (simp [*]; done))
              · skip
                exact Fn.go KT Try.func86 [.reg [] [], .reg [] [(11, .bit true), (20, .bit true), (25, .bit true), (31, .int (↑(List.length tl) : Int)), (32, .bit true), (38, .bit false), (42, .int (↑(List.length l) : Int)), (44, .bit false)]] [] [] (B false) ([]) (by kernel_rfl) (q ((v == 0) = true) (q ((tk == 0) = true) (q ((tv == 0) = true) (q ((↑(List.length (Ty.encs tl)) : Int) = (↑(List.length tl) : Int)) (q (((↑(List.length tl) : Int) == 0) = true) (q (decide (g < 0) = false) (q ((↑(List.length (Expr.encs l)) : Int) = (↑(List.length l) : Int)) (q (((↑(List.length l) : Int) == g) = false) ob0)))))))) (by (simp_all [onlyC])) (by first | rfl | (simp [*]; done))
          · skip
            exact Fn.go KT Try.func86 [.reg [] [], .reg [] [(11, .bit true), (20, .bit true), (25, .bit true), (31, .int (↑(List.length tl) : Int)), (32, .bit false)]] [] [] (B false) ([]) (by kernel_rfl) (q ((v == 0) = true) (q ((tk == 0) = true) (q ((tv == 0) = true) (q ((↑(List.length (Ty.encs tl)) : Int) = (↑(List.length tl) : Int)) (q (((↑(List.length tl) : Int) == 0) = false) ob0))))) (by (simp_all [onlyC])) (by first | rfl | (simp [*]; done))
        · skip
          exact Fn.go KT Try.func86 [.reg [] [], .reg [] [(11, .bit true), (20, .bit true), (25, .bit false)]] [] [] (B false) ([]) (by kernel_rfl) (q ((v == 0) = true) (q ((tk == 0) = true) (q ((tv == 0) = false) ob0))) (by (simp_all [onlyC])) (by first | rfl | (simp [*]; done))
      · skip
        exact Fn.go KT Try.func86 [.reg [] [], .reg [] [(11, .bit true), (20, .bit false)]] [] [] (B false) ([]) (by kernel_rfl) (q ((v == 0) = true) (q ((tk == 0) = false) ob0)) (by (simp_all [onlyC])) (by first | rfl | (simp [*]; done))
    · skip
      exact Fn.go KT Try.func86 [.reg [] [], .reg [] [(11, .bit false)]] [] [] (B false) ([]) (by kernel_rfl) (q ((v == 0) = false) ob0) (by (simp_all [onlyC])) (by first | rfl | (simp [*]; done))
  · rcases bsp (v) (0) with ⟨hb1, hb1'⟩ | ⟨hb1, hb1'⟩
    · skip
      rcases dsp (g < 0) with ⟨hb2, hb2'⟩ | ⟨hb2, hb2'⟩
      · skip
        exact Fn.go KT Try.func86 [.reg [] [], .reg [] [(11, .bit true), (38, .bit true)]] [] [] (B true) ([]) (by kernel_rfl) (q ((v == 0) = true) (q (decide (g < 0) = true) ob0)) (by (simp_all [onlyC])) (by first | rfl | (simp [*]; done))
      · skip
        rcases bsp ((↑(List.length l) : Int)) (g) with ⟨hb3, hb3'⟩ | ⟨hb3, hb3'⟩
        · skip
          exact Fn.go KT Try.func86 [.reg [] [], .reg [] [(11, .bit true), (38, .bit false), (42, .int (↑(List.length l) : Int)), (44, .bit true)]] [] [] (B true) ([]) (by kernel_rfl) (q ((v == 0) = true) (q (decide (g < 0) = false) (q ((↑(List.length (Expr.encs l)) : Int) = (↑(List.length l) : Int)) (q (((↑(List.length l) : Int) == g) = true) ob0)))) (by (simp_all [onlyC])) (by first | rfl | (simp [*]; done))
        · skip
          exact Fn.go KT Try.func86 [.reg [] [], .reg [] [(11, .bit true), (38, .bit false), (42, .int (↑(List.length l) : Int)), (44, .bit false)]] [] [] (B false) ([]) (by kernel_rfl) (q ((v == 0) = true) (q (decide (g < 0) = false) (q ((↑(List.length (Expr.encs l)) : Int) = (↑(List.length l) : Int)) (q (((↑(List.length l) : Int) == g) = false) ob0)))) (by (simp_all [onlyC])) (by first | rfl | (simp [*]; done))
    · skip
      exact Fn.go KT Try.func86 [.reg [] [], .reg [] [(11, .bit false)]] [] [] (B false) ([]) (by kernel_rfl) (q ((v == 0) = false) ob0) (by (simp_all [onlyC])) (by first | rfl | (simp [*]; done))
  · rcases bsp (tk) (0) with ⟨hb1, hb1'⟩ | ⟨hb1, hb1'⟩
    · skip
      rcases bsp (tv) (0) with ⟨hb2, hb2'⟩ | ⟨hb2, hb2'⟩
      · skip
        rcases bsp ((↑(List.length tl) : Int)) (0) with ⟨hb3, hb3'⟩ | ⟨hb3, hb3'⟩
        · skip
          rcases dsp (g < 0) with ⟨hb4, hb4'⟩ | ⟨hb4, hb4'⟩
          · skip
            exact Fn.go KT Try.func86 [.reg [] [], .reg [] [(20, .bit true), (25, .bit true), (31, .int (↑(List.length tl) : Int)), (32, .bit true), (38, .bit true)]] [] [] (B true) ([]) (by kernel_rfl) (q ((tk == 0) = true) (q ((tv == 0) = true) (q ((↑(List.length (Ty.encs tl)) : Int) = (↑(List.length tl) : Int)) (q (((↑(List.length tl) : Int) == 0) = true) (q (decide (g < 0) = true) ob0))))) (by (simp_all [onlyC])) (by first | rfl | (simp [*]; done))
          · skip
            rcases bsp ((↑(List.length l) : Int)) (g) with ⟨hb5, hb5'⟩ | ⟨hb5, hb5'⟩
            · skip
              exact Fn.go KT Try.func86 [.reg [] [], .reg [] [(20, .bit true), (25, .bit true), (31, .int (↑(List.length tl) : Int)), (32, .bit true), (38, .bit false), (42, .int (↑(List.length l) : Int)), (44, .bit true)]] [] [] (B true) ([]) (by kernel_rfl) (q ((tk == 0) = true) (q ((tv == 0) = true) (q ((↑(List.length (Ty.encs tl)) : Int) = (↑(List.length tl) : Int)) (q (((↑(List.length tl) : Int) == 0) = true) (q (decide (g < 0) = false) (q ((↑(List.length (Expr.encs l)) : Int) = (↑(List.length l) : Int)) (q (((↑(List.length l) : Int) == g) = true) ob0))))))) (by (simp_all [onlyC])) (by first | rfl | (simp [*]; done))
            · skip
              exact Fn.go KT Try.func86 [.reg [] [], .reg [] [(20, .bit true), (25, .bit true), (31, .int (↑(List.length tl) : Int)), (32, .bit true), (38, .bit false), (42, .int (↑(List.length l) : Int)), (44, .bit false)]] [] [] (B false) ([]) (by kernel_rfl) (q ((tk == 0) = true) (q ((tv == 0) = true) (q ((↑(List.length (Ty.encs tl)) : Int) = (↑(List.length tl) : Int)) (q (((↑(List.length tl) : Int) == 0) = true) (q (decide (g < 0) = false) (q ((↑(List.length (Expr.encs l)) : Int) = (↑(List.length l) : Int)) (q (((↑(List.length l) : Int) == g) = false) ob0))))))) (by (simp_all [onlyC])) (by first | rfl | (simp [*]; done))
        · skip
          exact Fn.go KT Try.func86 [.reg [] [], .reg [] [(20, .bit true), (25, .bit true), (31, .int (↑(List.length tl) : Int)), (32, .bit false)]] [] [] (B false) ([]) (by kernel_rfl) (q ((tk == 0) = true) (q ((tv == 0) = true) (q ((↑(List.length (Ty.encs tl)) : Int) = (↑(List.length tl) : Int)) (q (((↑(List.length tl) : Int) == 0) = false) ob0)))) (by (simp_all [onlyC])) (by first | rfl | (simp [*]; done))
      · skip
        exact Fn.go KT Try.func86 [.reg [] [], .reg [] [(20, .bit true), (25, .bit false)]] [] [] (B false) ([]) (by kernel_rfl) (q ((tk == 0) = true) (q ((tv == 0) = false) ob0)) (by (simp_all [onlyC])) (by first | rfl | (simp [*]; done))
    · skip
      exact Fn.go KT Try.func86 [.reg [] [], .reg [] [(20, .bit false)]] [] [] (B false) ([]) (by kernel_rfl) (q ((tk == 0) = false) ob0) (by (simp_all [onlyC])) (by first | rfl | (simp [*]; done))
  · rcases dsp (g < 0) with ⟨hb1, hb1'⟩ | ⟨hb1, hb1'⟩
    · skip
      exact Fn.go KT Try.func86 [.reg [] [], .reg [] [(38, .bit true)]] [] [] (B true) ([]) (by kernel_rfl) (q (decide (g < 0) = true) ob0) (by (simp_all [onlyC])) (by first | rfl | (simp [*]; done))
    · skip
      rcases bsp ((↑(List.length l) : Int)) (g) with ⟨hb2, hb2'⟩ | ⟨hb2, hb2'⟩
      · skip
        exact Fn.go KT Try.func86 [.reg [] [], .reg [] [(38, .bit false), (42, .int (↑(List.length l) : Int)), (44, .bit true)]] [] [] (B true) ([]) (by kernel_rfl) (q (decide (g < 0) = false) (q ((↑(List.length (Expr.encs l)) : Int) = (↑(List.length l) : Int)) (q (((↑(List.length l) : Int) == g) = true) ob0))) (by (simp_all [onlyC])) (by first | rfl | (simp [*]; done))
      · skip
        exact Fn.go KT Try.func86 [.reg [] [], .reg [] [(38, .bit false), (42, .int (↑(List.length l) : Int)), (44, .bit false)]] [] [] (B false) ([]) (by kernel_rfl) (q (decide (g < 0) = false) (q ((↑(List.length (Expr.encs l)) : Int) = (↑(List.length l) : Int)) (q (((↑(List.length l) : Int) == g) = false) ob0))) (by (simp_all [onlyC])) (by first | rfl | (simp [*]; done))

def emptyC : Ty → Bool
  | .mk k v l => decide (k = 0) && decide (v = 0) && decide ((l.length : Int) = 0)

theorem empty_ (k v : Int) (l : List Ty) : SoundCall Try.prog 50 [.agg (Ty.mk k v l).enc] [] (B (emptyC (.mk k v l))) [] := by
  rcases bsp (k) (0) with ⟨hb1, hb1'⟩ | ⟨hb1, hb1'⟩
  · skip
    rcases bsp (v) (0) with ⟨hb2, hb2'⟩ | ⟨hb2, hb2'⟩
    · skip
      rcases bsp ((↑(List.length l) : Int)) (0) with ⟨hb3, hb3'⟩ | ⟨hb3, hb3'⟩
      · skip
        exact Fn.go KT Try.func50 [.reg [] [], .reg [] [(2, .bit true), (6, .bit true), (11, .int (↑(List.length l) : Int)), (12, .bit true)]] [] [] (B true) ([]) (by kernel_rfl) (q ((k == 0) = true) (q ((v == 0) = true) (q ((↑(List.length (Ty.encs l)) : Int) = (↑(List.length l) : Int)) (q (((↑(List.length l) : Int) == 0) = true) ob0)))) (by (simp_all [emptyC])) (by first | rfl | (simp [*]; done))
      · skip
        exact Fn.go KT Try.func50 [.reg [] [], .reg [] [(2, .bit true), (6, .bit true), (11, .int (↑(List.length l) : Int)), (12, .bit false)]] [] [] (B false) ([]) (by kernel_rfl) (q ((k == 0) = true) (q ((v == 0) = true) (q ((↑(List.length (Ty.encs l)) : Int) = (↑(List.length l) : Int)) (q (((↑(List.length l) : Int) == 0) = false) ob0)))) (by (simp_all [emptyC])) (by first | rfl | (simp [*]; done))
    · skip
      exact Fn.go KT Try.func50 [.reg [] [], .reg [] [(2, .bit true), (6, .bit false)]] [] [] (B false) ([]) (by kernel_rfl) (q ((k == 0) = true) (q ((v == 0) = false) ob0)) (by (simp_all [emptyC])) (by first | rfl | (simp [*]; done))
  · skip
    exact Fn.go KT Try.func50 [.reg [] [], .reg [] [(2, .bit false)]] [] [] (B false) ([]) (by kernel_rfl) (q ((k == 0) = false) ob0) (by (simp_all [emptyC])) (by first | rfl | (simp [*]; done))

theorem fun_ (a b : Ty) : SoundCall Try.prog 27 [.agg a.enc, .agg b.enc] [] (.agg (Ty.mk 1 0 [a, b]).enc) [] := by
  obtain ⟨ka, va, la⟩ := a
  obtain ⟨kb, vb, lb⟩ := b
  exact Fn.go KT Try.func27 [.reg [] [], .reg [] []] [] [none, none, some 3] (AV.agg [I 1, I 0, AV.sl 3 [[I ka, I va, AV.sl 3 (Ty.encs la) false], [I kb, I vb, AV.sl 3 (Ty.encs lb) false]] false]) ([]) (by kernel_rfl) ob0

theorem inside_ (a : Ty) (us : List Ty) (h : us.length ≤ 1000) : SoundCall Try.prog 29 [.agg a.enc, .sl 3 (Ty.encs us) false] [] (.sl 3 (Ty.encs (a :: us)) false) [] := by
  obtain ⟨ka, va, la⟩ := a
  exact Fn.go KT Try.func29 [.reg [] [], .reg [] []] [] [some 3] (AV.sl 3 ([I ka, I va, AV.sl 3 (Ty.encs la) false] :: Ty.encs us) false) ([]) (by kernel_rfl) (q (Fits (1 + List.length (Ty.encs us)) 1 40) ob0)

theorem encs_append : ∀ (l r : List Ty), Ty.encs (l ++ r) = Ty.encs l ++ Ty.encs r
  | [], r => rfl
  | t :: l, r => by simp [Ty.encs, encs_append l r]

theorem under_ (a : Ty) (us : List Ty) (h : us.length ≤ 1000) : SoundCall Try.prog 98 [.sl 3 (Ty.encs us) false, .agg a.enc] [] (.sl 3 (Ty.encs (us ++ [a])) false) [] := by
  obtain ⟨ka, va, la⟩ := a
  exact Fn.go KT Try.func98 [.reg [] [], .reg [] [(1, .int (↑(List.length us) : Int)), (2, .int ((↑(List.length us) : Int) + 1)), (3, .nat 0)]] [.frz 1] [some 3] (AV.sl 3 ([] ++ Ty.encs us ++ [[I ka, I va, AV.sl 3 (Ty.encs la) false]]) false) ([]) (by kernel_rfl) (q ((↑(List.length (Ty.encs us)) : Int) = (↑(List.length us) : Int)) (qw ((↑(List.length us) : Int) + 1) (q (0 = (↑0 : Int)) (q ((↑0 : Int) ≤ (↑(List.length us) : Int) + 1) (q (((↑(List.length us) : Int) + 1) * (↑40 : Int) ≤ 281474976710656) (q (Fits (0 + List.length (Ty.encs us)) 0 40) (q (Fits (List.length ([] ++ Ty.encs us) + 1) (List.length ([] ++ Ty.encs us)) 40) ob0))))))) (by (rw [encs_append]; rfl)) (by first | rfl | (simp [*]; done))

end Go.Ae

/- ref25.plain. -/
namespace Go.Ae
open Go.Proofs

def argsC (k : Int) (n : Nat) : Bool :=
  if k = 0 ∨ k = 1 ∨ k = 2 ∨ k = 8 then decide (n = 0) else if k = 3 ∨ k = 5 then decide (n = 2) else if k = 4 ∨ k = 7 then decide (n = 1) else decide (k = 6) && decide (0 < n)

def plainC : Expr → Bool
  | .mk k n v t l => (decide (k = 0 ∨ k = 1 ∨ k = 2 ∨ k = 7) || decide (n = 0)) && (decide (k = 0 ∨ k = 8) || decide (v = 0)) && (decide (k = 4) || emptyC t) && argsC k l.length

theorem plain_ (k n v tk tv : Int) (tl : List Ty) (l : List Expr) : SoundCall Try.prog 25 [.agg (Expr.mk k n v (.mk tk tv tl) l).enc] [] (B (plainC (.mk k n v (.mk tk tv tl) l))) [] := by
  have he := empty_ tk tv tl
  generalize hE : emptyC (.mk tk tv tl) = E at he
  have hlen : ((l.length : Int) = 0 ↔ l.length = 0) ∧ ((l.length : Int) = 1 ↔ l.length = 1) ∧ ((l.length : Int) = 2 ↔ l.length = 2) := by omega
  by_cases h0 : k = 0
  · subst h0
    rcases Bool.eq_false_or_eq_true (E) with hb1 | hb1
    · have hb1' := hb1
      try simp only [decide_eq_true_eq, decide_eq_false_iff_not, beq_iff_eq, bne_iff_ne, ne_eq, beq_eq_false_iff_ne, bne_eq_false_iff_eq, Bool.not_eq_true'] at hb1'
      rcases bsp ((↑(List.length l) : Int)) (0) with ⟨hb2, hb2'⟩ | ⟨hb2, hb2'⟩
      · skip
        exact Fn.go KT Try.func25 [.reg [] [], .reg [] [], .reg [] [], .reg [] [(23, .call (B true) [])], .reg [] [], .reg [] [], .reg [] [(2, .int (↑(List.length l) : Int)), (3, .bit true)]] [] [] (B true) ([]) (by kernel_rfl) (ob1 (SoundCall.to (he) (pf (B E = B true)) rfl) (q ((↑(List.length (Expr.encs l)) : Int) = (↑(List.length l) : Int)) (q (((↑(List.length l) : Int) == 0) = true) ob0))) (by (simp_all [plainC, argsC])) (by first | rfl | (simp [*]; done))
      · skip
        exact Fn.go KT Try.func25 [.reg [] [], .reg [] [], .reg [] [], .reg [] [(23, .call (B true) [])], .reg [] [], .reg [] [], .reg [] [(2, .int (↑(List.length l) : Int)), (3, .bit false)]] [] [] (B false) ([]) (by kernel_rfl) (ob1 (SoundCall.to (he) (pf (B E = B true)) rfl) (q ((↑(List.length (Expr.encs l)) : Int) = (↑(List.length l) : Int)) (q (((↑(List.length l) : Int) == 0) = false) ob0))) (by (simp_all [plainC, argsC])) (by first | rfl | (simp [*]; done))
    · have hb1' := hb1
      try simp only [decide_eq_true_eq, decide_eq_false_iff_not, beq_iff_eq, bne_iff_ne, ne_eq, beq_eq_false_iff_ne, bne_eq_false_iff_eq, Bool.not_eq_true'] at hb1'
      exact Fn.go KT Try.func25 [.reg [] [], .reg [] [], .reg [] [], .reg [] [(23, .call (B false) [])], .reg [] []] [] [] (B false) ([]) (by kernel_rfl) (ob1 (SoundCall.to (he) (pf (B E = B false)) rfl) ob0) (by (simp_all [plainC, argsC])) (by first | rfl | (simp [*]; done))
  by_cases h1 : k = 1
  · subst h1
    rcases Bool.eq_false_or_eq_true (v != 0) with hb1 | hb1
    · have hb1' := hb1
      try simp only [decide_eq_true_eq, decide_eq_false_iff_not, beq_iff_eq, bne_iff_ne, ne_eq, beq_eq_false_iff_ne, bne_eq_false_iff_eq, Bool.not_eq_true'] at hb1'
      exact Fn.go KT Try.func25 [.reg [] [], .reg [] [], .reg [] [], .reg [] [(13, .bit true)], .reg [] []] [] [] (B false) ([]) (by kernel_rfl) (q ((v != 0) = true) ob0) (by (simp_all [plainC, argsC])) (by first | rfl | (simp [*]; done))
    · have hb1' := hb1
      try simp only [decide_eq_true_eq, decide_eq_false_iff_not, beq_iff_eq, bne_iff_ne, ne_eq, beq_eq_false_iff_ne, bne_eq_false_iff_eq, Bool.not_eq_true'] at hb1'
      rcases Bool.eq_false_or_eq_true (E) with hb2 | hb2
      · have hb2' := hb2
        try simp only [decide_eq_true_eq, decide_eq_false_iff_not, beq_iff_eq, bne_iff_ne, ne_eq, beq_eq_false_iff_ne, bne_eq_false_iff_eq, Bool.not_eq_true'] at hb2'
        rcases bsp ((↑(List.length l) : Int)) (0) with ⟨hb3, hb3'⟩ | ⟨hb3, hb3'⟩
        · skip
          exact Fn.go KT Try.func25 [.reg [] [], .reg [] [], .reg [] [], .reg [] [(13, .bit false), (23, .call (B true) [])], .reg [] [], .reg [] [], .reg [] [], .reg [] [(2, .int (↑(List.length l) : Int)), (3, .bit true)]] [] [] (B true) ([]) (by kernel_rfl) (q ((v != 0) = false) (ob1 (SoundCall.to (he) (pf (B E = B true)) rfl) (q ((↑(List.length (Expr.encs l)) : Int) = (↑(List.length l) : Int)) (q (((↑(List.length l) : Int) == 0) = true) ob0)))) (by (simp_all [plainC, argsC])) (by first | rfl | (simp [*]; done))
        · skip
          exact Fn.go KT Try.func25 [.reg [] [], .reg [] [], .reg [] [], .reg [] [(13, .bit false), (23, .call (B true) [])], .reg [] [], .reg [] [], .reg [] [], .reg [] [(2, .int (↑(List.length l) : Int)), (3, .bit false)]] [] [] (B false) ([]) (by kernel_rfl) (q ((v != 0) = false) (ob1 (SoundCall.to (he) (pf (B E = B true)) rfl) (q ((↑(List.length (Expr.encs l)) : Int) = (↑(List.length l) : Int)) (q (((↑(List.length l) : Int) == 0) = false) ob0)))) (by (simp_all [plainC, argsC])) (by first | rfl | (simp [*]; done))
      · have hb2' := hb2
        try simp only [decide_eq_true_eq, decide_eq_false_iff_not, beq_iff_eq, bne_iff_ne, ne_eq, beq_eq_false_iff_ne, bne_eq_false_iff_eq, Bool.not_eq_true'] at hb2'
        exact Fn.go KT Try.func25 [.reg [] [], .reg [] [], .reg [] [], .reg [] [(13, .bit false), (23, .call (B false) [])], .reg [] []] [] [] (B false) ([]) (by kernel_rfl) (q ((v != 0) = false) (ob1 (SoundCall.to (he) (pf (B E = B false)) rfl) ob0)) (by (simp_all [plainC, argsC])) (by first | rfl | (simp [*]; done))
  by_cases h2 : k = 2
  · subst h2
    rcases Bool.eq_false_or_eq_true (v != 0) with hb1 | hb1
    · have hb1' := hb1
      try simp only [decide_eq_true_eq, decide_eq_false_iff_not, beq_iff_eq, bne_iff_ne, ne_eq, beq_eq_false_iff_ne, bne_eq_false_iff_eq, Bool.not_eq_true'] at hb1'
      exact Fn.go KT Try.func25 [.reg [] [], .reg [] [], .reg [] [], .reg [] [(13, .bit true)], .reg [] []] [] [] (B false) ([]) (by kernel_rfl) (q ((v != 0) = true) ob0) (by (simp_all [plainC, argsC])) (by first | rfl | (simp [*]; done))
    · have hb1' := hb1
      try simp only [decide_eq_true_eq, decide_eq_false_iff_not, beq_iff_eq, bne_iff_ne, ne_eq, beq_eq_false_iff_ne, bne_eq_false_iff_eq, Bool.not_eq_true'] at hb1'
      rcases Bool.eq_false_or_eq_true (E) with hb2 | hb2
      · have hb2' := hb2
        try simp only [decide_eq_true_eq, decide_eq_false_iff_not, beq_iff_eq, bne_iff_ne, ne_eq, beq_eq_false_iff_ne, bne_eq_false_iff_eq, Bool.not_eq_true'] at hb2'
        rcases bsp ((↑(List.length l) : Int)) (0) with ⟨hb3, hb3'⟩ | ⟨hb3, hb3'⟩
        · skip
          exact Fn.go KT Try.func25 [.reg [] [], .reg [] [], .reg [] [], .reg [] [(13, .bit false), (23, .call (B true) [])], .reg [] [], .reg [] [], .reg [] [], .reg [] [], .reg [] [(2, .int (↑(List.length l) : Int)), (3, .bit true)]] [] [] (B true) ([]) (by kernel_rfl) (q ((v != 0) = false) (ob1 (SoundCall.to (he) (pf (B E = B true)) rfl) (q ((↑(List.length (Expr.encs l)) : Int) = (↑(List.length l) : Int)) (q (((↑(List.length l) : Int) == 0) = true) ob0)))) (by (simp_all [plainC, argsC])) (by first | rfl | (simp [*]; done))
        · skip
          exact Fn.go KT Try.func25 [.reg [] [], .reg [] [], .reg [] [], .reg [] [(13, .bit false), (23, .call (B true) [])], .reg [] [], .reg [] [], .reg [] [], .reg [] [], .reg [] [(2, .int (↑(List.length l) : Int)), (3, .bit false)]] [] [] (B false) ([]) (by kernel_rfl) (q ((v != 0) = false) (ob1 (SoundCall.to (he) (pf (B E = B true)) rfl) (q ((↑(List.length (Expr.encs l)) : Int) = (↑(List.length l) : Int)) (q (((↑(List.length l) : Int) == 0) = false) ob0)))) (by (simp_all [plainC, argsC])) (by first | rfl | (simp [*]; done))
      · have hb2' := hb2
        try simp only [decide_eq_true_eq, decide_eq_false_iff_not, beq_iff_eq, bne_iff_ne, ne_eq, beq_eq_false_iff_ne, bne_eq_false_iff_eq, Bool.not_eq_true'] at hb2'
        exact Fn.go KT Try.func25 [.reg [] [], .reg [] [], .reg [] [], .reg [] [(13, .bit false), (23, .call (B false) [])], .reg [] []] [] [] (B false) ([]) (by kernel_rfl) (q ((v != 0) = false) (ob1 (SoundCall.to (he) (pf (B E = B false)) rfl) ob0)) (by (simp_all [plainC, argsC])) (by first | rfl | (simp [*]; done))
  by_cases h3 : k = 3
  · subst h3
    rcases Bool.eq_false_or_eq_true (n != 0) with hb1 | hb1
    · have hb1' := hb1
      try simp only [decide_eq_true_eq, decide_eq_false_iff_not, beq_iff_eq, bne_iff_ne, ne_eq, beq_eq_false_iff_ne, bne_eq_false_iff_eq, Bool.not_eq_true'] at hb1'
      exact Fn.go KT Try.func25 [.reg [] [], .reg [] [], .reg [] [], .reg [] [(5, .bit true)], .reg [] []] [] [] (B false) ([]) (by kernel_rfl) (q ((n != 0) = true) ob0) (by (simp_all [plainC, argsC])) (by first | rfl | (simp [*]; done))
    · have hb1' := hb1
      try simp only [decide_eq_true_eq, decide_eq_false_iff_not, beq_iff_eq, bne_iff_ne, ne_eq, beq_eq_false_iff_ne, bne_eq_false_iff_eq, Bool.not_eq_true'] at hb1'
      rcases Bool.eq_false_or_eq_true (v != 0) with hb2 | hb2
      · have hb2' := hb2
        try simp only [decide_eq_true_eq, decide_eq_false_iff_not, beq_iff_eq, bne_iff_ne, ne_eq, beq_eq_false_iff_ne, bne_eq_false_iff_eq, Bool.not_eq_true'] at hb2'
        exact Fn.go KT Try.func25 [.reg [] [], .reg [] [], .reg [] [], .reg [] [(5, .bit false), (13, .bit true)], .reg [] []] [] [] (B false) ([]) (by kernel_rfl) (q ((n != 0) = false) (q ((v != 0) = true) ob0)) (by (simp_all [plainC, argsC])) (by first | rfl | (simp [*]; done))
      · have hb2' := hb2
        try simp only [decide_eq_true_eq, decide_eq_false_iff_not, beq_iff_eq, bne_iff_ne, ne_eq, beq_eq_false_iff_ne, bne_eq_false_iff_eq, Bool.not_eq_true'] at hb2'
        rcases Bool.eq_false_or_eq_true (E) with hb3 | hb3
        · have hb3' := hb3
          try simp only [decide_eq_true_eq, decide_eq_false_iff_not, beq_iff_eq, bne_iff_ne, ne_eq, beq_eq_false_iff_ne, bne_eq_false_iff_eq, Bool.not_eq_true'] at hb3'
          rcases bsp ((↑(List.length l) : Int)) (2) with ⟨hb4, hb4'⟩ | ⟨hb4, hb4'⟩
          · skip
            exact Fn.go KT Try.func25 [.reg [] [], .reg [] [], .reg [] [], .reg [] [(5, .bit false), (13, .bit false), (23, .call (B true) [])], .reg [] [], .reg [] [], .reg [] [], .reg [] [], .reg [] [], .reg [] [], .reg [] [(2, .int (↑(List.length l) : Int)), (3, .bit true)]] [] [] (B true) ([]) (by kernel_rfl) (q ((n != 0) = false) (q ((v != 0) = false) (ob1 (SoundCall.to (he) (pf (B E = B true)) rfl) (q ((↑(List.length (Expr.encs l)) : Int) = (↑(List.length l) : Int)) (q (((↑(List.length l) : Int) == 2) = true) ob0))))) (by (simp_all [plainC, argsC])) (by first | rfl | (simp [*]; done))
          · skip
            exact Fn.go KT Try.func25 [.reg [] [], .reg [] [], .reg [] [], .reg [] [(5, .bit false), (13, .bit false), (23, .call (B true) [])], .reg [] [], .reg [] [], .reg [] [], .reg [] [], .reg [] [], .reg [] [], .reg [] [(2, .int (↑(List.length l) : Int)), (3, .bit false)]] [] [] (B false) ([]) (by kernel_rfl) (q ((n != 0) = false) (q ((v != 0) = false) (ob1 (SoundCall.to (he) (pf (B E = B true)) rfl) (q ((↑(List.length (Expr.encs l)) : Int) = (↑(List.length l) : Int)) (q (((↑(List.length l) : Int) == 2) = false) ob0))))) (by (simp_all [plainC, argsC])) (by first | rfl | (simp [*]; done))
        · have hb3' := hb3
          try simp only [decide_eq_true_eq, decide_eq_false_iff_not, beq_iff_eq, bne_iff_ne, ne_eq, beq_eq_false_iff_ne, bne_eq_false_iff_eq, Bool.not_eq_true'] at hb3'
          exact Fn.go KT Try.func25 [.reg [] [], .reg [] [], .reg [] [], .reg [] [(5, .bit false), (13, .bit false), (23, .call (B false) [])], .reg [] []] [] [] (B false) ([]) (by kernel_rfl) (q ((n != 0) = false) (q ((v != 0) = false) (ob1 (SoundCall.to (he) (pf (B E = B false)) rfl) ob0))) (by (simp_all [plainC, argsC])) (by first | rfl | (simp [*]; done))
  by_cases h4 : k = 4
  · subst h4
    rcases Bool.eq_false_or_eq_true (n != 0) with hb1 | hb1
    · have hb1' := hb1
      try simp only [decide_eq_true_eq, decide_eq_false_iff_not, beq_iff_eq, bne_iff_ne, ne_eq, beq_eq_false_iff_ne, bne_eq_false_iff_eq, Bool.not_eq_true'] at hb1'
      exact Fn.go KT Try.func25 [.reg [] [], .reg [] [], .reg [] [], .reg [] [(5, .bit true)], .reg [] []] [] [] (B false) ([]) (by kernel_rfl) (q ((n != 0) = true) ob0) (by (simp_all [plainC, argsC])) (by first | rfl | (simp [*]; done))
    · have hb1' := hb1
      try simp only [decide_eq_true_eq, decide_eq_false_iff_not, beq_iff_eq, bne_iff_ne, ne_eq, beq_eq_false_iff_ne, bne_eq_false_iff_eq, Bool.not_eq_true'] at hb1'
      rcases Bool.eq_false_or_eq_true (v != 0) with hb2 | hb2
      · have hb2' := hb2
        try simp only [decide_eq_true_eq, decide_eq_false_iff_not, beq_iff_eq, bne_iff_ne, ne_eq, beq_eq_false_iff_ne, bne_eq_false_iff_eq, Bool.not_eq_true'] at hb2'
        exact Fn.go KT Try.func25 [.reg [] [], .reg [] [], .reg [] [], .reg [] [(5, .bit false), (13, .bit true)], .reg [] []] [] [] (B false) ([]) (by kernel_rfl) (q ((n != 0) = false) (q ((v != 0) = true) ob0)) (by (simp_all [plainC, argsC])) (by first | rfl | (simp [*]; done))
      · have hb2' := hb2
        try simp only [decide_eq_true_eq, decide_eq_false_iff_not, beq_iff_eq, bne_iff_ne, ne_eq, beq_eq_false_iff_ne, bne_eq_false_iff_eq, Bool.not_eq_true'] at hb2'
        rcases bsp ((↑(List.length l) : Int)) (1) with ⟨hb3, hb3'⟩ | ⟨hb3, hb3'⟩
        · skip
          exact Fn.go KT Try.func25 [.reg [] [], .reg [] [], .reg [] [], .reg [] [(5, .bit false), (13, .bit false)], .reg [] [], .reg [] [], .reg [] [], .reg [] [], .reg [] [], .reg [] [], .reg [] [], .reg [] [], .reg [] [(2, .int (↑(List.length l) : Int)), (3, .bit true)]] [] [] (B true) ([]) (by kernel_rfl) (q ((n != 0) = false) (q ((v != 0) = false) (q ((↑(List.length (Expr.encs l)) : Int) = (↑(List.length l) : Int)) (q (((↑(List.length l) : Int) == 1) = true) ob0)))) (by (simp_all [plainC, argsC])) (by first | rfl | (simp [*]; done))
        · skip
          exact Fn.go KT Try.func25 [.reg [] [], .reg [] [], .reg [] [], .reg [] [(5, .bit false), (13, .bit false)], .reg [] [], .reg [] [], .reg [] [], .reg [] [], .reg [] [], .reg [] [], .reg [] [], .reg [] [], .reg [] [(2, .int (↑(List.length l) : Int)), (3, .bit false)]] [] [] (B false) ([]) (by kernel_rfl) (q ((n != 0) = false) (q ((v != 0) = false) (q ((↑(List.length (Expr.encs l)) : Int) = (↑(List.length l) : Int)) (q (((↑(List.length l) : Int) == 1) = false) ob0)))) (by (simp_all [plainC, argsC])) (by first | rfl | (simp [*]; done))
  by_cases h5 : k = 5
  · subst h5
    rcases Bool.eq_false_or_eq_true (n != 0) with hb1 | hb1
    · have hb1' := hb1
      try simp only [decide_eq_true_eq, decide_eq_false_iff_not, beq_iff_eq, bne_iff_ne, ne_eq, beq_eq_false_iff_ne, bne_eq_false_iff_eq, Bool.not_eq_true'] at hb1'
      exact Fn.go KT Try.func25 [.reg [] [], .reg [] [], .reg [] [], .reg [] [(5, .bit true)], .reg [] []] [] [] (B false) ([]) (by kernel_rfl) (q ((n != 0) = true) ob0) (by (simp_all [plainC, argsC])) (by first | rfl | (simp [*]; done))
    · have hb1' := hb1
      try simp only [decide_eq_true_eq, decide_eq_false_iff_not, beq_iff_eq, bne_iff_ne, ne_eq, beq_eq_false_iff_ne, bne_eq_false_iff_eq, Bool.not_eq_true'] at hb1'
      rcases Bool.eq_false_or_eq_true (v != 0) with hb2 | hb2
      · have hb2' := hb2
        try simp only [decide_eq_true_eq, decide_eq_false_iff_not, beq_iff_eq, bne_iff_ne, ne_eq, beq_eq_false_iff_ne, bne_eq_false_iff_eq, Bool.not_eq_true'] at hb2'
        exact Fn.go KT Try.func25 [.reg [] [], .reg [] [], .reg [] [], .reg [] [(5, .bit false), (13, .bit true)], .reg [] []] [] [] (B false) ([]) (by kernel_rfl) (q ((n != 0) = false) (q ((v != 0) = true) ob0)) (by (simp_all [plainC, argsC])) (by first | rfl | (simp [*]; done))
      · have hb2' := hb2
        try simp only [decide_eq_true_eq, decide_eq_false_iff_not, beq_iff_eq, bne_iff_ne, ne_eq, beq_eq_false_iff_ne, bne_eq_false_iff_eq, Bool.not_eq_true'] at hb2'
        rcases Bool.eq_false_or_eq_true (E) with hb3 | hb3
        · have hb3' := hb3
          try simp only [decide_eq_true_eq, decide_eq_false_iff_not, beq_iff_eq, bne_iff_ne, ne_eq, beq_eq_false_iff_ne, bne_eq_false_iff_eq, Bool.not_eq_true'] at hb3'
          rcases bsp ((↑(List.length l) : Int)) (2) with ⟨hb4, hb4'⟩ | ⟨hb4, hb4'⟩
          · skip
            exact Fn.go KT Try.func25 [.reg [] [], .reg [] [], .reg [] [], .reg [] [(5, .bit false), (13, .bit false), (23, .call (B true) [])], .reg [] [], .reg [] [], .reg [] [], .reg [] [], .reg [] [], .reg [] [], .reg [] [], .reg [] [(2, .int (↑(List.length l) : Int)), (3, .bit true)]] [] [] (B true) ([]) (by kernel_rfl) (q ((n != 0) = false) (q ((v != 0) = false) (ob1 (SoundCall.to (he) (pf (B E = B true)) rfl) (q ((↑(List.length (Expr.encs l)) : Int) = (↑(List.length l) : Int)) (q (((↑(List.length l) : Int) == 2) = true) ob0))))) (by (simp_all [plainC, argsC])) (by first | rfl | (simp [*]; done))
          · skip
            exact Fn.go KT Try.func25 [.reg [] [], .reg [] [], .reg [] [], .reg [] [(5, .bit false), (13, .bit false), (23, .call (B true) [])], .reg [] [], .reg [] [], .reg [] [], .reg [] [], .reg [] [], .reg [] [], .reg [] [], .reg [] [(2, .int (↑(List.length l) : Int)), (3, .bit false)]] [] [] (B false) ([]) (by kernel_rfl) (q ((n != 0) = false) (q ((v != 0) = false) (ob1 (SoundCall.to (he) (pf (B E = B true)) rfl) (q ((↑(List.length (Expr.encs l)) : Int) = (↑(List.length l) : Int)) (q (((↑(List.length l) : Int) == 2) = false) ob0))))) (by (simp_all [plainC, argsC])) (by first | rfl | (simp [*]; done))
        · have hb3' := hb3
          try simp only [decide_eq_true_eq, decide_eq_false_iff_not, beq_iff_eq, bne_iff_ne, ne_eq, beq_eq_false_iff_ne, bne_eq_false_iff_eq, Bool.not_eq_true'] at hb3'
          exact Fn.go KT Try.func25 [.reg [] [], .reg [] [], .reg [] [], .reg [] [(5, .bit false), (13, .bit false), (23, .call (B false) [])], .reg [] []] [] [] (B false) ([]) (by kernel_rfl) (q ((n != 0) = false) (q ((v != 0) = false) (ob1 (SoundCall.to (he) (pf (B E = B false)) rfl) ob0))) (by (simp_all [plainC, argsC])) (by first | rfl | (simp [*]; done))
  by_cases h6 : k = 6
  · subst h6
    rcases Bool.eq_false_or_eq_true (n != 0) with hb1 | hb1
    · have hb1' := hb1
      try simp only [decide_eq_true_eq, decide_eq_false_iff_not, beq_iff_eq, bne_iff_ne, ne_eq, beq_eq_false_iff_ne, bne_eq_false_iff_eq, Bool.not_eq_true'] at hb1'
      exact Fn.go KT Try.func25 [.reg [] [], .reg [] [], .reg [] [], .reg [] [(5, .bit true)], .reg [] []] [] [] (B false) ([]) (by kernel_rfl) (q ((n != 0) = true) ob0) (by (simp_all [plainC, argsC])) (by first | rfl | (simp [*]; done))
    · have hb1' := hb1
      try simp only [decide_eq_true_eq, decide_eq_false_iff_not, beq_iff_eq, bne_iff_ne, ne_eq, beq_eq_false_iff_ne, bne_eq_false_iff_eq, Bool.not_eq_true'] at hb1'
      rcases Bool.eq_false_or_eq_true (v != 0) with hb2 | hb2
      · have hb2' := hb2
        try simp only [decide_eq_true_eq, decide_eq_false_iff_not, beq_iff_eq, bne_iff_ne, ne_eq, beq_eq_false_iff_ne, bne_eq_false_iff_eq, Bool.not_eq_true'] at hb2'
        exact Fn.go KT Try.func25 [.reg [] [], .reg [] [], .reg [] [], .reg [] [(5, .bit false), (13, .bit true)], .reg [] []] [] [] (B false) ([]) (by kernel_rfl) (q ((n != 0) = false) (q ((v != 0) = true) ob0)) (by (simp_all [plainC, argsC])) (by first | rfl | (simp [*]; done))
      · have hb2' := hb2
        try simp only [decide_eq_true_eq, decide_eq_false_iff_not, beq_iff_eq, bne_iff_ne, ne_eq, beq_eq_false_iff_ne, bne_eq_false_iff_eq, Bool.not_eq_true'] at hb2'
        rcases Bool.eq_false_or_eq_true (E) with hb3 | hb3
        · have hb3' := hb3
          try simp only [decide_eq_true_eq, decide_eq_false_iff_not, beq_iff_eq, bne_iff_ne, ne_eq, beq_eq_false_iff_ne, bne_eq_false_iff_eq, Bool.not_eq_true'] at hb3'
          rcases dsp (0 < (↑(List.length l) : Int)) with ⟨hb4, hb4'⟩ | ⟨hb4, hb4'⟩
          · skip
            exact Fn.go KT Try.func25 [.reg [] [], .reg [] [], .reg [] [], .reg [] [(5, .bit false), (13, .bit false), (23, .call (B true) [])], .reg [] [], .reg [] [], .reg [] [], .reg [] [], .reg [] [], .reg [] [], .reg [] [], .reg [] [], .reg [] [], .reg [] [(6, .int (↑(List.length l) : Int)), (7, .bit true)]] [] [] (B true) ([]) (by kernel_rfl) (q ((n != 0) = false) (q ((v != 0) = false) (ob1 (SoundCall.to (he) (pf (B E = B true)) rfl) (q ((↑(List.length (Expr.encs l)) : Int) = (↑(List.length l) : Int)) (q (decide (0 < (↑(List.length l) : Int)) = true) ob0))))) (by (simp_all [plainC, argsC])) (by first | rfl | (simp [*]; done))
          · skip
            exact Fn.go KT Try.func25 [.reg [] [], .reg [] [], .reg [] [], .reg [] [(5, .bit false), (13, .bit false), (23, .call (B true) [])], .reg [] [], .reg [] [], .reg [] [], .reg [] [], .reg [] [], .reg [] [], .reg [] [], .reg [] [], .reg [] [], .reg [] [(6, .int (↑(List.length l) : Int)), (7, .bit false)]] [] [] (B false) ([]) (by kernel_rfl) (q ((n != 0) = false) (q ((v != 0) = false) (ob1 (SoundCall.to (he) (pf (B E = B true)) rfl) (q ((↑(List.length (Expr.encs l)) : Int) = (↑(List.length l) : Int)) (q (decide (0 < (↑(List.length l) : Int)) = false) ob0))))) (by (simp_all [plainC, argsC])) (by first | rfl | (simp [*]; done))
        · have hb3' := hb3
          try simp only [decide_eq_true_eq, decide_eq_false_iff_not, beq_iff_eq, bne_iff_ne, ne_eq, beq_eq_false_iff_ne, bne_eq_false_iff_eq, Bool.not_eq_true'] at hb3'
          exact Fn.go KT Try.func25 [.reg [] [], .reg [] [], .reg [] [], .reg [] [(5, .bit false), (13, .bit false), (23, .call (B false) [])], .reg [] []] [] [] (B false) ([]) (by kernel_rfl) (q ((n != 0) = false) (q ((v != 0) = false) (ob1 (SoundCall.to (he) (pf (B E = B false)) rfl) ob0))) (by (simp_all [plainC, argsC])) (by first | rfl | (simp [*]; done))
  by_cases h7 : k = 7
  · subst h7
    rcases Bool.eq_false_or_eq_true (v != 0) with hb1 | hb1
    · have hb1' := hb1
      try simp only [decide_eq_true_eq, decide_eq_false_iff_not, beq_iff_eq, bne_iff_ne, ne_eq, beq_eq_false_iff_ne, bne_eq_false_iff_eq, Bool.not_eq_true'] at hb1'
      exact Fn.go KT Try.func25 [.reg [] [], .reg [] [], .reg [] [], .reg [] [(13, .bit true)], .reg [] []] [] [] (B false) ([]) (by kernel_rfl) (q ((v != 0) = true) ob0) (by (simp_all [plainC, argsC])) (by first | rfl | (simp [*]; done))
    · have hb1' := hb1
      try simp only [decide_eq_true_eq, decide_eq_false_iff_not, beq_iff_eq, bne_iff_ne, ne_eq, beq_eq_false_iff_ne, bne_eq_false_iff_eq, Bool.not_eq_true'] at hb1'
      rcases Bool.eq_false_or_eq_true (E) with hb2 | hb2
      · have hb2' := hb2
        try simp only [decide_eq_true_eq, decide_eq_false_iff_not, beq_iff_eq, bne_iff_ne, ne_eq, beq_eq_false_iff_ne, bne_eq_false_iff_eq, Bool.not_eq_true'] at hb2'
        rcases bsp ((↑(List.length l) : Int)) (1) with ⟨hb3, hb3'⟩ | ⟨hb3, hb3'⟩
        · skip
          exact Fn.go KT Try.func25 [.reg [] [], .reg [] [], .reg [] [], .reg [] [(13, .bit false), (23, .call (B true) [])], .reg [] [], .reg [] [], .reg [] [], .reg [] [], .reg [] [], .reg [] [], .reg [] [], .reg [] [], .reg [] [], .reg [] [(2, .int (↑(List.length l) : Int)), (3, .bit true)]] [] [] (B true) ([]) (by kernel_rfl) (q ((v != 0) = false) (ob1 (SoundCall.to (he) (pf (B E = B true)) rfl) (q ((↑(List.length (Expr.encs l)) : Int) = (↑(List.length l) : Int)) (q (((↑(List.length l) : Int) == 1) = true) ob0)))) (by (simp_all [plainC, argsC])) (by first | rfl | (simp [*]; done))
        · skip
          exact Fn.go KT Try.func25 [.reg [] [], .reg [] [], .reg [] [], .reg [] [(13, .bit false), (23, .call (B true) [])], .reg [] [], .reg [] [], .reg [] [], .reg [] [], .reg [] [], .reg [] [], .reg [] [], .reg [] [], .reg [] [], .reg [] [(2, .int (↑(List.length l) : Int)), (3, .bit false)]] [] [] (B false) ([]) (by kernel_rfl) (q ((v != 0) = false) (ob1 (SoundCall.to (he) (pf (B E = B true)) rfl) (q ((↑(List.length (Expr.encs l)) : Int) = (↑(List.length l) : Int)) (q (((↑(List.length l) : Int) == 1) = false) ob0)))) (by (simp_all [plainC, argsC])) (by first | rfl | (simp [*]; done))
      · have hb2' := hb2
        try simp only [decide_eq_true_eq, decide_eq_false_iff_not, beq_iff_eq, bne_iff_ne, ne_eq, beq_eq_false_iff_ne, bne_eq_false_iff_eq, Bool.not_eq_true'] at hb2'
        exact Fn.go KT Try.func25 [.reg [] [], .reg [] [], .reg [] [], .reg [] [(13, .bit false), (23, .call (B false) [])], .reg [] []] [] [] (B false) ([]) (by kernel_rfl) (q ((v != 0) = false) (ob1 (SoundCall.to (he) (pf (B E = B false)) rfl) ob0)) (by (simp_all [plainC, argsC])) (by first | rfl | (simp [*]; done))
  by_cases h8 : k = 8
  · subst h8
    rcases Bool.eq_false_or_eq_true (n != 0) with hb1 | hb1
    · have hb1' := hb1
      try simp only [decide_eq_true_eq, decide_eq_false_iff_not, beq_iff_eq, bne_iff_ne, ne_eq, beq_eq_false_iff_ne, bne_eq_false_iff_eq, Bool.not_eq_true'] at hb1'
      exact Fn.go KT Try.func25 [.reg [] [], .reg [] [], .reg [] [], .reg [] [(5, .bit true)], .reg [] []] [] [] (B false) ([]) (by kernel_rfl) (q ((n != 0) = true) ob0) (by (simp_all [plainC, argsC])) (by first | rfl | (simp [*]; done))
    · have hb1' := hb1
      try simp only [decide_eq_true_eq, decide_eq_false_iff_not, beq_iff_eq, bne_iff_ne, ne_eq, beq_eq_false_iff_ne, bne_eq_false_iff_eq, Bool.not_eq_true'] at hb1'
      rcases Bool.eq_false_or_eq_true (E) with hb2 | hb2
      · have hb2' := hb2
        try simp only [decide_eq_true_eq, decide_eq_false_iff_not, beq_iff_eq, bne_iff_ne, ne_eq, beq_eq_false_iff_ne, bne_eq_false_iff_eq, Bool.not_eq_true'] at hb2'
        rcases bsp ((↑(List.length l) : Int)) (0) with ⟨hb3, hb3'⟩ | ⟨hb3, hb3'⟩
        · skip
          exact Fn.go KT Try.func25 [.reg [] [], .reg [] [], .reg [] [], .reg [] [(5, .bit false), (23, .call (B true) [])], .reg [] [], .reg [] [], .reg [] [], .reg [] [], .reg [] [], .reg [] [(2, .int (↑(List.length l) : Int)), (3, .bit true)]] [] [] (B true) ([]) (by kernel_rfl) (q ((n != 0) = false) (ob1 (SoundCall.to (he) (pf (B E = B true)) rfl) (q ((↑(List.length (Expr.encs l)) : Int) = (↑(List.length l) : Int)) (q (((↑(List.length l) : Int) == 0) = true) ob0)))) (by (simp_all [plainC, argsC])) (by first | rfl | (simp [*]; done))
        · skip
          exact Fn.go KT Try.func25 [.reg [] [], .reg [] [], .reg [] [], .reg [] [(5, .bit false), (23, .call (B true) [])], .reg [] [], .reg [] [], .reg [] [], .reg [] [], .reg [] [], .reg [] [(2, .int (↑(List.length l) : Int)), (3, .bit false)]] [] [] (B false) ([]) (by kernel_rfl) (q ((n != 0) = false) (ob1 (SoundCall.to (he) (pf (B E = B true)) rfl) (q ((↑(List.length (Expr.encs l)) : Int) = (↑(List.length l) : Int)) (q (((↑(List.length l) : Int) == 0) = false) ob0)))) (by (simp_all [plainC, argsC])) (by first | rfl | (simp [*]; done))
      · have hb2' := hb2
        try simp only [decide_eq_true_eq, decide_eq_false_iff_not, beq_iff_eq, bne_iff_ne, ne_eq, beq_eq_false_iff_ne, bne_eq_false_iff_eq, Bool.not_eq_true'] at hb2'
        exact Fn.go KT Try.func25 [.reg [] [], .reg [] [], .reg [] [], .reg [] [(5, .bit false), (23, .call (B false) [])], .reg [] []] [] [] (B false) ([]) (by kernel_rfl) (q ((n != 0) = false) (ob1 (SoundCall.to (he) (pf (B E = B false)) rfl) ob0)) (by (simp_all [plainC, argsC])) (by first | rfl | (simp [*]; done))
  · rcases Bool.eq_false_or_eq_true (n != 0) with hb1 | hb1
    · have hb1' := hb1
      try simp only [decide_eq_true_eq, decide_eq_false_iff_not, beq_iff_eq, bne_iff_ne, ne_eq, beq_eq_false_iff_ne, bne_eq_false_iff_eq, Bool.not_eq_true'] at hb1'
      exact Fn.go KT Try.func25 [.reg [] [], .reg [] [(2, .bit false), (6, .bit false), (11, .bit false), (16, .bit false)], .reg [] [(2, .bit false), (6, .bit false)], .reg [] [(5, .bit true)], .reg [] []] [] [] (B false) ([]) (by kernel_rfl) (q ((k == 0) = false) (q ((k == 1) = false) (q ((k == 2) = false) (q ((k == 7) = false) (q ((k == 0) = false) (q ((k == 8) = false) (q ((n != 0) = true) ob0))))))) (by (simp_all [plainC, argsC])) (by first | rfl | (simp [*]; done))
    · have hb1' := hb1
      try simp only [decide_eq_true_eq, decide_eq_false_iff_not, beq_iff_eq, bne_iff_ne, ne_eq, beq_eq_false_iff_ne, bne_eq_false_iff_eq, Bool.not_eq_true'] at hb1'
      rcases Bool.eq_false_or_eq_true (v != 0) with hb2 | hb2
      · have hb2' := hb2
        try simp only [decide_eq_true_eq, decide_eq_false_iff_not, beq_iff_eq, bne_iff_ne, ne_eq, beq_eq_false_iff_ne, bne_eq_false_iff_eq, Bool.not_eq_true'] at hb2'
        exact Fn.go KT Try.func25 [.reg [] [], .reg [] [(2, .bit false), (6, .bit false), (11, .bit false), (16, .bit false)], .reg [] [(2, .bit false), (6, .bit false)], .reg [] [(5, .bit false), (13, .bit true)], .reg [] []] [] [] (B false) ([]) (by kernel_rfl) (q ((k == 0) = false) (q ((k == 1) = false) (q ((k == 2) = false) (q ((k == 7) = false) (q ((k == 0) = false) (q ((k == 8) = false) (q ((n != 0) = false) (q ((v != 0) = true) ob0)))))))) (by (simp_all [plainC, argsC])) (by first | rfl | (simp [*]; done))
      · have hb2' := hb2
        try simp only [decide_eq_true_eq, decide_eq_false_iff_not, beq_iff_eq, bne_iff_ne, ne_eq, beq_eq_false_iff_ne, bne_eq_false_iff_eq, Bool.not_eq_true'] at hb2'
        rcases Bool.eq_false_or_eq_true (E) with hb3 | hb3
        · have hb3' := hb3
          try simp only [decide_eq_true_eq, decide_eq_false_iff_not, beq_iff_eq, bne_iff_ne, ne_eq, beq_eq_false_iff_ne, bne_eq_false_iff_eq, Bool.not_eq_true'] at hb3'
          exact Fn.go KT Try.func25 [.reg [] [], .reg [] [(2, .bit false), (6, .bit false), (11, .bit false), (16, .bit false)], .reg [] [(2, .bit false), (6, .bit false)], .reg [] [(5, .bit false), (13, .bit false), (19, .bit true), (23, .call (B true) [])], .reg [] [], .reg [] [(0, .bit false)], .reg [] [(0, .bit false)], .reg [] [(0, .bit false)], .reg [] [(0, .bit false)], .reg [] [(0, .bit false)], .reg [] [(0, .bit false)], .reg [] [(0, .bit false)], .reg [] [(0, .bit false)], .reg [] [(2, .bit false)]] [] [] (B false) ([]) (by kernel_rfl) (q ((k == 0) = false) (q ((k == 1) = false) (q ((k == 2) = false) (q ((k == 7) = false) (q ((k == 0) = false) (q ((k == 8) = false) (q ((n != 0) = false) (q ((v != 0) = false) (q ((k != 4) = true) (ob1 (SoundCall.to (he) (pf (B E = B true)) rfl) (q ((k == 0) = false) (q ((k == 1) = false) (q ((k == 2) = false) (q ((k == 8) = false) (q ((k == 3) = false) (q ((k == 5) = false) (q ((k == 4) = false) (q ((k == 7) = false) (q ((k == 6) = false) ob0))))))))))))))))))) (by (simp_all [plainC, argsC])) (by first | rfl | (simp [*]; done))
        · have hb3' := hb3
          try simp only [decide_eq_true_eq, decide_eq_false_iff_not, beq_iff_eq, bne_iff_ne, ne_eq, beq_eq_false_iff_ne, bne_eq_false_iff_eq, Bool.not_eq_true'] at hb3'
          exact Fn.go KT Try.func25 [.reg [] [], .reg [] [(2, .bit false), (6, .bit false), (11, .bit false), (16, .bit false)], .reg [] [(2, .bit false), (6, .bit false)], .reg [] [(5, .bit false), (13, .bit false), (19, .bit true), (23, .call (B false) [])], .reg [] []] [] [] (B false) ([]) (by kernel_rfl) (q ((k == 0) = false) (q ((k == 1) = false) (q ((k == 2) = false) (q ((k == 7) = false) (q ((k == 0) = false) (q ((k == 8) = false) (q ((n != 0) = false) (q ((v != 0) = false) (q ((k != 4) = true) (ob1 (SoundCall.to (he) (pf (B E = B false)) rfl) ob0)))))))))) (by (simp_all [plainC, argsC])) (by first | rfl | (simp [*]; done))

end Go.Ae

/- The data: programs. What source.Lang.Type returns. -/
namespace Go.Ae
open Go.Proofs

structure Def where
  name : ByteArray
  param : Ty
  result : Ty
  body : Expr

def Def.enc (d : Def) : List AV := S d.name :: (d.param.enc ++ (d.result.enc ++ d.body.enc))
def Def.encs : List Def → List (List AV)
  | [] => []
  | d :: l => d.enc :: Def.encs l
@[simp] theorem Def.encs_length : ∀ l : List Def, (Def.encs l).length = l.length
  | [] => rfl
  | _ :: l => by simp [Def.encs, Def.encs_length l]
theorem Def.encs_get : ∀ (l : List Def) (i : Nat), (Def.encs l)[i]? = (l[i]?).map Def.enc
  | [], i => by simp [Def.encs]
  | t :: l, 0 => by simp [Def.encs]
  | t :: l, i + 1 => by simp [Def.encs, Def.encs_get l i]

def strs : List ByteArray → List (List AV)
  | [] => []
  | d :: l => [S d] :: strs l
@[simp] theorem strs_length : ∀ l : List ByteArray, (strs l).length = l.length
  | [] => rfl
  | _ :: l => by simp [strs, strs_length l]
theorem strs_get : ∀ (l : List ByteArray) (i : Nat), (strs l)[i]? = (l[i]?).map fun s => [S s]
  | [], i => by simp [strs]
  | t :: l, 0 => by simp [strs]
  | t :: l, i + 1 => by simp [strs, strs_get l i]

structure Prog where
  events : List ByteArray
  defs : List Def
  main : Expr

def Prog.enc (p : Prog) : List AV := .sl 1 (strs p.events) false :: .sl 14 (Def.encs p.defs) false :: p.main.enc

def Def.ok (d : Def) : Prop := d.name.size ≤ 281474976710656 ∧ d.param.ok ∧ d.result.ok ∧ d.body.ok
def Prog.ok (p : Prog) : Prop := p.events.length ≤ 281474976710656 ∧ (∀ s ∈ p.events, s.size ≤ 281474976710656) ∧ p.defs.length ≤ 281474976710656 ∧ (∀ d ∈ p.defs, d.ok) ∧ p.main.ok

def tyZ : Ty := .mk 0 0 []
def tyF (k : Int) : Ty := .mk 0 k []

/-- A function of type f applied to a value of type x. -/
noncomputable def appC (f x : Ty) : Ty × Bool :=
  match f with
  | .mk fk _ (t :: u :: _) => if fk = 1 ∧ t = x then (u, true) else (tyZ, false)
  | _ => (tyZ, false)

theorem appC_ne {fk fv : Int} {fl : List Ty} {x : Ty} (h : fk ≠ 1) : appC (.mk fk fv fl) x = (tyZ, false) := by
  match fl with
  | [] => rfl
  | [_] => rfl
  | _ :: _ :: _ => simp [appC, h]
theorem appC_two {fv : Int} {t u x : Ty} : appC (.mk 1 fv [t, u]) x = if t = x then (u, true) else (tyZ, false) := by simp [appC]

/-- What source.Lang.Type returns; the scope's innermost type is the last one. -/
noncomputable def tImp (p : Prog) : Expr → List Ty → Ty × Bool
  | .mk k n v ty l, sc =>
    if k = 0 then (tyF v, onlyC (.mk k n v ty l) true true false 0 && decide (1 ≤ v) && decide (v ≤ 4) && decide (0 ≤ n) && decide (n < v))
    else if k = 8 then (tyF v, onlyC (.mk k n v ty l) false true false 0 && decide (1 ≤ v) && decide (v ≤ 4))
    else if k = 1 then
      (if onlyC (.mk k n v ty l) true false false 0 && decide (0 ≤ n) && decide (n < (sc.length : Int)) then
        (match sc[sc.length - 1 - n.toNat]? with
        | some t => (t, true)
        | none => (tyZ, false)) else (tyZ, false))
    else if k = 2 then
      (if onlyC (.mk k n v ty l) true false false 0 && decide (0 ≤ n) && decide (n < (p.defs.length : Int)) then
        (match p.defs[n.toNat]? with
        | some d => (.mk 1 0 [d.param, d.result], (tyC (.mk 1 0 [d.param, d.result]) 20).1)
        | none => (tyZ, false)) else (tyZ, false))
    else if k = 7 then
      (match l with
      | [a] => if onlyC (.mk k n v ty [a]) true false false 1 && decide (0 ≤ n) && decide (n < (p.events.length : Int)) then tImp p a sc else (tyZ, false)
      | _ => (tyZ, false))
    else if k = 3 then
      (match l with
      | [a, b] => if onlyC (.mk k n v ty [a, b]) false false false 2 then
          (let f := tImp p a sc
           let x := tImp p b sc
           if f.2 && x.2 then appC f.1 x.1 else (tyZ, false))
        else (tyZ, false)
      | _ => (tyZ, false))
    else if k = 4 then
      (match l with
      | [a] => if onlyC (.mk k n v ty [a]) false false true 1 && (tyC ty 20).1 then
          (let b := tImp p a (sc ++ [ty])
           if b.2 && (tyC (.mk 1 0 [ty, b.1]) 20).1 then (.mk 1 0 [ty, b.1], true) else (tyZ, false))
        else (tyZ, false)
      | _ => (tyZ, false))
    else if k = 5 then
      (match l with
      | [a, b] => if onlyC (.mk k n v ty [a, b]) false false false 2 then
          (let x := tImp p a sc
           if x.2 then tImp p b (sc ++ [x.1]) else (tyZ, false))
        else (tyZ, false)
      | _ => (tyZ, false))
    else if k = 6 then
      (match l with
      | a :: b :: r => if onlyC (.mk k n v ty (a :: b :: r)) false false false (-1) then
          (let x := tImp p a sc
           if x.2 then (match x.1 with
            | .mk xk xv _ => if xk = 0 ∧ xv = ((b :: r).length : Int) then
                (let f := tImp p b sc
                 (f.1, r.attach.foldl (fun ok c => ok && (tImp p c.1 sc).2 && decide (f.1 = (tImp p c.1 sc).1)) f.2))
              else (tyZ, false)) else (tyZ, false))
        else (tyZ, false)
      | _ => (tyZ, false))
    else (tyZ, false)
termination_by e => SizeOf.sizeOf e
decreasing_by all_goals (simp_wf; first | omega | (have := List.sizeOf_lt_of_mem c.2; omega))

end Go.Ae

/- source.Lang.Type: the kinds without sub-expressions. -/
namespace Go.Ae
open Go.Proofs

theorem type_const (es : List ByteArray) (ds : List Def) (mk mn mv mtk mtv : Int) (mtl : List Ty) (ml : List Expr) (sc : List Ty) (n v tk tv : Int) (tl : List Ty) (l : List Expr) :
    SoundCall Try.prog 72 [.agg [B false], .agg (Prog.enc ⟨es, ds, .mk mk mn mv (.mk mtk mtv mtl) ml⟩), .sl 3 (Ty.encs sc) false, .agg (Expr.mk 0 n v (.mk tk tv tl) l).enc] []
      (.tup [.agg (tyF v).enc, B (onlyC (.mk 0 n v (.mk tk tv tl) l) true true false 0 && decide (1 ≤ v) && decide (v ≤ 4) && decide (0 ≤ n) && decide (n < v))]) [] := by
  have ho := only_ 0 n v tk tv tl l true true false 0
  have hf := fin_0 v
  generalize onlyC (.mk 0 n v (.mk tk tv tl) l) true true false 0 = E at ho ⊢
  cases E with
  | true =>
    rcases dsp (1 ≤ v) with ⟨hb1, hb1'⟩ | ⟨hb1, hb1'⟩
    · skip
      rcases dsp (v ≤ 4) with ⟨hb2, hb2'⟩ | ⟨hb2, hb2'⟩
      · skip
        rcases dsp (0 ≤ n) with ⟨hb3, hb3'⟩ | ⟨hb3, hb3'⟩
        · skip
          rcases dsp (n < v) with ⟨hb4, hb4'⟩ | ⟨hb4, hb4'⟩
          · skip
            exact Fn.go KT Try.func72 [.reg [] [], .reg [] [], .reg [] [], .reg [] [(2, .call (AV.agg [I 0, I v, AV.sl 3 [] false]) []), (4, .call (B true) []), (8, .bit true), (13, .bit true), (18, .bit true), (25, .bit true)]] [] [] (AV.tup [AV.agg [I 0, I v, AV.sl 3 [] false], B true]) ([]) (by kernel_rfl) (ob1 (hf) (ob1 (ho) (q (decide (1 ≤ v) = true) (q (decide (v ≤ 4) = true) (q (decide (0 ≤ n) = true) (q (decide (n < v) = true) ob0)))))) (by (simp only [tyF, Ty.enc, Ty.encs, *, decide_true, decide_false, Bool.and_true, Bool.and_false, Bool.true_and, Bool.false_and])) (by first | rfl | (simp [*]; done))
          · skip
            exact Fn.go KT Try.func72 [.reg [] [], .reg [] [], .reg [] [], .reg [] [(2, .call (AV.agg [I 0, I v, AV.sl 3 [] false]) []), (4, .call (B true) []), (8, .bit true), (13, .bit true), (18, .bit true), (25, .bit false)]] [] [] (AV.tup [AV.agg [I 0, I v, AV.sl 3 [] false], B false]) ([]) (by kernel_rfl) (ob1 (hf) (ob1 (ho) (q (decide (1 ≤ v) = true) (q (decide (v ≤ 4) = true) (q (decide (0 ≤ n) = true) (q (decide (n < v) = false) ob0)))))) (by (simp only [tyF, Ty.enc, Ty.encs, *, decide_true, decide_false, Bool.and_true, Bool.and_false, Bool.true_and, Bool.false_and])) (by first | rfl | (simp [*]; done))
        · skip
          exact Fn.go KT Try.func72 [.reg [] [], .reg [] [], .reg [] [], .reg [] [(2, .call (AV.agg [I 0, I v, AV.sl 3 [] false]) []), (4, .call (B true) []), (8, .bit true), (13, .bit true), (18, .bit false)]] [] [] (AV.tup [AV.agg [I 0, I v, AV.sl 3 [] false], B false]) ([]) (by kernel_rfl) (ob1 (hf) (ob1 (ho) (q (decide (1 ≤ v) = true) (q (decide (v ≤ 4) = true) (q (decide (0 ≤ n) = false) ob0))))) (by (simp only [tyF, Ty.enc, Ty.encs, *, decide_true, decide_false, Bool.and_true, Bool.and_false, Bool.true_and, Bool.false_and])) (by first | rfl | (simp [*]; done))
      · skip
        exact Fn.go KT Try.func72 [.reg [] [], .reg [] [], .reg [] [], .reg [] [(2, .call (AV.agg [I 0, I v, AV.sl 3 [] false]) []), (4, .call (B true) []), (8, .bit true), (13, .bit false)]] [] [] (AV.tup [AV.agg [I 0, I v, AV.sl 3 [] false], B false]) ([]) (by kernel_rfl) (ob1 (hf) (ob1 (ho) (q (decide (1 ≤ v) = true) (q (decide (v ≤ 4) = false) ob0)))) (by (simp only [tyF, Ty.enc, Ty.encs, *, decide_true, decide_false, Bool.and_true, Bool.and_false, Bool.true_and, Bool.false_and])) (by first | rfl | (simp [*]; done))
    · skip
      exact Fn.go KT Try.func72 [.reg [] [], .reg [] [], .reg [] [], .reg [] [(2, .call (AV.agg [I 0, I v, AV.sl 3 [] false]) []), (4, .call (B true) []), (8, .bit false)]] [] [] (AV.tup [AV.agg [I 0, I v, AV.sl 3 [] false], B false]) ([]) (by kernel_rfl) (ob1 (hf) (ob1 (ho) (q (decide (1 ≤ v) = false) ob0))) (by (simp only [tyF, Ty.enc, Ty.encs, *, decide_true, decide_false, Bool.and_true, Bool.and_false, Bool.true_and, Bool.false_and])) (by first | rfl | (simp [*]; done))
  | false =>
    exact Fn.go KT Try.func72 [.reg [] [], .reg [] [], .reg [] [], .reg [] [(2, .call (AV.agg [I 0, I v, AV.sl 3 [] false]) []), (4, .call (B false) [])]] [] [] (AV.tup [AV.agg [I 0, I v, AV.sl 3 [] false], B false]) ([]) (by kernel_rfl) (ob1 (hf) (ob1 (ho) ob0))

theorem type_pick (es : List ByteArray) (ds : List Def) (mk mn mv mtk mtv : Int) (mtl : List Ty) (ml : List Expr) (sc : List Ty) (n v tk tv : Int) (tl : List Ty) (l : List Expr) :
    SoundCall Try.prog 72 [.agg [B false], .agg (Prog.enc ⟨es, ds, .mk mk mn mv (.mk mtk mtv mtl) ml⟩), .sl 3 (Ty.encs sc) false, .agg (Expr.mk 8 n v (.mk tk tv tl) l).enc] []
      (.tup [.agg (tyF v).enc, B (onlyC (.mk 8 n v (.mk tk tv tl) l) false true false 0 && decide (1 ≤ v) && decide (v ≤ 4))]) [] := by
  have ho := only_ 8 n v tk tv tl l false true false 0
  have hf := fin_0 v
  generalize onlyC (.mk 8 n v (.mk tk tv tl) l) false true false 0 = E at ho ⊢
  cases E with
  | true =>
    rcases dsp (1 ≤ v) with ⟨hb1, hb1'⟩ | ⟨hb1, hb1'⟩
    · skip
      rcases dsp (v ≤ 4) with ⟨hb2, hb2'⟩ | ⟨hb2, hb2'⟩
      · skip
        exact Fn.go KT Try.func72 [.reg [] [], .reg [] [], .reg [] [], .reg [] [], .reg [] [(2, .call (AV.agg [I 0, I v, AV.sl 3 [] false]) []), (4, .call (B true) []), (8, .bit true), (13, .bit true)]] [] [] (AV.tup [AV.agg [I 0, I v, AV.sl 3 [] false], B true]) ([]) (by kernel_rfl) (ob1 (hf) (ob1 (ho) (q (decide (1 ≤ v) = true) (q (decide (v ≤ 4) = true) ob0)))) (by (simp only [tyF, Ty.enc, Ty.encs, *, decide_true, decide_false, Bool.and_true, Bool.and_false, Bool.true_and, Bool.false_and])) (by first | rfl | (simp [*]; done))
      · skip
        exact Fn.go KT Try.func72 [.reg [] [], .reg [] [], .reg [] [], .reg [] [], .reg [] [(2, .call (AV.agg [I 0, I v, AV.sl 3 [] false]) []), (4, .call (B true) []), (8, .bit true), (13, .bit false)]] [] [] (AV.tup [AV.agg [I 0, I v, AV.sl 3 [] false], B false]) ([]) (by kernel_rfl) (ob1 (hf) (ob1 (ho) (q (decide (1 ≤ v) = true) (q (decide (v ≤ 4) = false) ob0)))) (by (simp only [tyF, Ty.enc, Ty.encs, *, decide_true, decide_false, Bool.and_true, Bool.and_false, Bool.true_and, Bool.false_and])) (by first | rfl | (simp [*]; done))
    · skip
      exact Fn.go KT Try.func72 [.reg [] [], .reg [] [], .reg [] [], .reg [] [], .reg [] [(2, .call (AV.agg [I 0, I v, AV.sl 3 [] false]) []), (4, .call (B true) []), (8, .bit false)]] [] [] (AV.tup [AV.agg [I 0, I v, AV.sl 3 [] false], B false]) ([]) (by kernel_rfl) (ob1 (hf) (ob1 (ho) (q (decide (1 ≤ v) = false) ob0))) (by (simp only [tyF, Ty.enc, Ty.encs, *, decide_true, decide_false, Bool.and_true, Bool.and_false, Bool.true_and, Bool.false_and])) (by first | rfl | (simp [*]; done))
  | false =>
    exact Fn.go KT Try.func72 [.reg [] [], .reg [] [], .reg [] [], .reg [] [], .reg [] [(2, .call (AV.agg [I 0, I v, AV.sl 3 [] false]) []), (4, .call (B false) [])]] [] [] (AV.tup [AV.agg [I 0, I v, AV.sl 3 [] false], B false]) ([]) (by kernel_rfl) (ob1 (hf) (ob1 (ho) ob0))

theorem type_var (es : List ByteArray) (ds : List Def) (mk mn mv mtk mtv : Int) (mtl : List Ty) (ml : List Expr) (sc : List Ty) (n v tk tv : Int) (tl : List Ty) (l : List Expr) (hs : sc.length ≤ 1000) :
    SoundCall Try.prog 72 [.agg [B false], .agg (Prog.enc ⟨es, ds, .mk mk mn mv (.mk mtk mtv mtl) ml⟩), .sl 3 (Ty.encs sc) false, .agg (Expr.mk 1 n v (.mk tk tv tl) l).enc] []
      (.tup [.agg (tImp ⟨es, ds, .mk mk mn mv (.mk mtk mtv mtl) ml⟩ (.mk 1 n v (.mk tk tv tl) l) sc).1.enc, B (tImp ⟨es, ds, .mk mk mn mv (.mk mtk mtv mtl) ml⟩ (.mk 1 n v (.mk tk tv tl) l) sc).2]) [] := by
  have ho := only_ 1 n v tk tv tl l true false false 0
  rw [tImp.eq_def]
  dsimp only
  simp only [show ¬ (1 : Int) = 0 by omega, show ¬ (1 : Int) = 8 by omega, if_false, if_true]
  generalize onlyC (.mk 1 n v (.mk tk tv tl) l) true false false 0 = E at ho ⊢
  cases E with
  | true =>
    by_cases h1 : 0 ≤ n
    · by_cases h2 : n < (sc.length : Int)
      · have hj : sc.length - 1 - n.toNat < sc.length := by omega
        obtain ⟨ka, va, la, hg⟩ : ∃ ka va la, sc[sc.length - 1 - n.toNat]? = some (Ty.mk ka va la) := by
          rcases hx : sc[sc.length - 1 - n.toNat]'hj with ⟨ka, va, la⟩
          exact ⟨ka, va, la, by rw [List.getElem?_eq_getElem hj, hx]⟩
        have hx : (Ty.encs sc)[sc.length - 1 - n.toNat]? = some (Ty.mk ka va la).enc := by rw [Ty.encs_get, hg]; rfl
        simp only [decide_eq_true h1, decide_eq_true h2, Bool.and_true, if_true, hg]
        exact Fn.go KT Try.func72 [.reg [] [], .reg [] [], .reg [] [], .reg [] [], .reg [] [], .reg [] [(1, .call (B true) []), (6, .bit false), (12, .int (↑(List.length sc) : Int)), (13, .bit false)], .reg [] [(2, .int (↑(List.length sc) : Int)), (3, .int ((↑(List.length sc) : Int) - 1)), (6, .int ((↑(List.length sc) : Int) - 1 - n)), (7, .row (List.length sc - 1 - Int.toNat n) (Ty.enc (Ty.mk ka va la)))]] [.tidO 3 [none, none, some 3]] [] (AV.tup [AV.agg [I ka, I va, AV.sl 3 (Ty.encs la) false], B true]) ([]) (by kernel_rfl) (ob1 (ho) (q (decide (n < 0) = false) (q ((↑(List.length (Ty.encs sc)) : Int) = (↑(List.length sc) : Int)) (q (decide ((↑(List.length sc) : Int) ≤ n) = false) (q ((↑(List.length (Ty.encs sc)) : Int) = (↑(List.length sc) : Int)) (qw ((↑(List.length sc) : Int) - 1) (qw ((↑(List.length sc) : Int) - 1 - n) (q ((↑(List.length sc) : Int) - 1 - n = (↑(List.length sc - 1 - Int.toNat n) : Int)) (q ((Ty.encs sc)[List.length sc - 1 - Int.toNat n]? = some (Ty.enc (Ty.mk ka va la))) ob0)))))))))
      · simp only [decide_eq_false h2, Bool.and_false, Bool.false_eq_true, if_false]
        exact Fn.go KT Try.func72 [.reg [] [], .reg [] [], .reg [] [], .reg [] [], .reg [] [], .reg [] [(1, .call (B true) []), (6, .bit false), (12, .int (↑(List.length sc) : Int)), (13, .bit true)], .reg [] []] [.tidO 3 [none, none, some 3]] [] (AV.tup [AV.agg [I 0, I 0, AV.sl 3 [] false], B false]) ([]) (by kernel_rfl) (ob1 (ho) (q (decide (n < 0) = false) (q ((↑(List.length (Ty.encs sc)) : Int) = (↑(List.length sc) : Int)) (q (decide ((↑(List.length sc) : Int) ≤ n) = true) ob0))))
    · simp only [decide_eq_false h1, Bool.and_false, Bool.false_and, Bool.false_eq_true, if_false]
      exact Fn.go KT Try.func72 [.reg [] [], .reg [] [], .reg [] [], .reg [] [], .reg [] [], .reg [] [(1, .call (B true) []), (6, .bit true)], .reg [] []] [.tidO 3 [none, none, some 3]] [] (AV.tup [AV.agg [I 0, I 0, AV.sl 3 [] false], B false]) ([]) (by kernel_rfl) (ob1 (ho) (q (decide (n < 0) = true) ob0))
  | false =>
    simp only [Bool.false_and, Bool.false_eq_true, if_false]
    exact Fn.go KT Try.func72 [.reg [] [], .reg [] [], .reg [] [], .reg [] [], .reg [] [], .reg [] [(1, .call (B false) [])], .reg [] []] [.tidO 3 [none, none, some 3]] [] (AV.tup [AV.agg [I 0, I 0, AV.sl 3 [] false], B false]) ([]) (by kernel_rfl) (ob1 (ho) ob0)

end Go.Ae

/- source.Lang.Type of an EFun. -/
namespace Go.Ae
open Go.Proofs

theorem type_fun (es : List ByteArray) (ds : List Def) (mk mn mv mtk mtv : Int) (mtl : List Ty) (ml : List Expr) (sc : List Ty) (n v tk tv : Int) (tl : List Ty) (l : List Expr) (hs : ds.length ≤ 1000) (hd : ∀ d ∈ ds, d.ok) :
    SoundCall Try.prog 72 [.agg [B false], .agg (Prog.enc ⟨es, ds, .mk mk mn mv (.mk mtk mtv mtl) ml⟩), .sl 3 (Ty.encs sc) false, .agg (Expr.mk 2 n v (.mk tk tv tl) l).enc] []
      (.tup [.agg (tImp ⟨es, ds, .mk mk mn mv (.mk mtk mtv mtl) ml⟩ (.mk 2 n v (.mk tk tv tl) l) sc).1.enc, B (tImp ⟨es, ds, .mk mk mn mv (.mk mtk mtv mtl) ml⟩ (.mk 2 n v (.mk tk tv tl) l) sc).2]) [] := by
  have ho := only_ 2 n v tk tv tl l true false false 0
  rw [tImp.eq_def]
  dsimp only
  simp only [show ¬ (2 : Int) = 0 by omega, show ¬ (2 : Int) = 8 by omega, show ¬ (2 : Int) = 1 by omega, if_false, if_true]
  generalize onlyC (.mk 2 n v (.mk tk tv tl) l) true false false 0 = E at ho ⊢
  cases E with
  | true =>
    by_cases h1 : 0 ≤ n
    · by_cases h2 : n < (ds.length : Int)
      · have hj : n.toNat < ds.length := by omega
        obtain ⟨nm, ka, va, la, kb, vb, lb, bk, bn, bv, btk, btv, btl, bl, hg⟩ : ∃ nm ka va la kb vb lb bk bn bv btk btv btl bl, ds[n.toNat]? = some (Def.mk nm (.mk ka va la) (.mk kb vb lb) (.mk bk bn bv (.mk btk btv btl) bl)) := by
          rcases hx : ds[n.toNat]'hj with ⟨nm, ⟨ka, va, la⟩, ⟨kb, vb, lb⟩, ⟨bk, bn, bv, ⟨btk, btv, btl⟩, bl⟩⟩
          exact ⟨_, _, _, _, _, _, _, _, _, _, _, _, _, _, by rw [List.getElem?_eq_getElem hj, hx]⟩
        have hok := hd _ (List.mem_of_getElem? hg)
        have hx : (Def.encs ds)[n.toNat]? = some (Def.mk nm (.mk ka va la) (.mk kb vb lb) (.mk bk bn bv (.mk btk btv btl) bl)).enc := by rw [Def.encs_get, hg]; rfl
        have ht := isTy_ (.mk 1 0 [.mk ka va la, .mk kb vb lb]) ⟨by unfold ir; omega, by unfold ir; omega, by simp, hok.2.1, hok.2.2.1, trivial⟩
        simp only [decide_eq_true h1, decide_eq_true h2, Bool.and_true, if_true, hg]
        generalize (tyC (.mk 1 0 [.mk ka va la, .mk kb vb lb]) 20).1 = E2 at ht ⊢
        clear hok hd
        cases E2 with
        | true => 
          exact Fn.go KT Try.func72 [.reg [] [], .reg [] [], .reg [] [], .reg [] [], .reg [] [], .reg [] [], .reg [] [(1, .call (B true) []), (6, .bit false), (13, .int (↑(List.length ds) : Int)), (14, .bit false)], .reg [] [(4, .row (Int.toNat n) (Def.enc { name := nm, param := Ty.mk ka va la, result := Ty.mk kb vb lb, body := Expr.mk bk bn bv (Ty.mk btk btv btl) bl })), (11, .row (Int.toNat n) (Def.enc { name := nm, param := Ty.mk ka va la, result := Ty.mk kb vb lb, body := Expr.mk bk bn bv (Ty.mk btk btv btl) bl }))], .reg [] [(3, .call (B true) [])]] [.tidO 3 [none, none, some 3]] [] (AV.tup [AV.agg [I 1, I 0, AV.sl 3 [[I ka, I va, AV.sl 3 (Ty.encs la) false], [I kb, I vb, AV.sl 3 (Ty.encs lb) false]] false], B true]) ([]) (by kernel_rfl) (ob1 (ho) (q (decide (n < 0) = false) (q ((↑(List.length (Def.encs ds)) : Int) = (↑(List.length ds) : Int)) (q (decide ((↑(List.length ds) : Int) ≤ n) = false) (q (n = (↑(Int.toNat n) : Int)) (q ((Def.encs ds)[Int.toNat n]? = some (Def.enc { name := nm, param := Ty.mk ka va la, result := Ty.mk kb vb lb, body := Expr.mk bk bn bv (Ty.mk btk btv btl) bl })) (q (n = (↑(Int.toNat n) : Int)) (q ((Def.encs ds)[Int.toNat n]? = some (Def.enc { name := nm, param := Ty.mk ka va la, result := Ty.mk kb vb lb, body := Expr.mk bk bn bv (Ty.mk btk btv btl) bl })) (ob1 (ht) ob0)))))))))
        | false => 
          exact Fn.go KT Try.func72 [.reg [] [], .reg [] [], .reg [] [], .reg [] [], .reg [] [], .reg [] [], .reg [] [(1, .call (B true) []), (6, .bit false), (13, .int (↑(List.length ds) : Int)), (14, .bit false)], .reg [] [(4, .row (Int.toNat n) (Def.enc { name := nm, param := Ty.mk ka va la, result := Ty.mk kb vb lb, body := Expr.mk bk bn bv (Ty.mk btk btv btl) bl })), (11, .row (Int.toNat n) (Def.enc { name := nm, param := Ty.mk ka va la, result := Ty.mk kb vb lb, body := Expr.mk bk bn bv (Ty.mk btk btv btl) bl }))], .reg [] [(3, .call (B false) [])]] [.tidO 3 [none, none, some 3]] [] (AV.tup [AV.agg [I 1, I 0, AV.sl 3 [[I ka, I va, AV.sl 3 (Ty.encs la) false], [I kb, I vb, AV.sl 3 (Ty.encs lb) false]] false], B false]) ([]) (by kernel_rfl) (ob1 (ho) (q (decide (n < 0) = false) (q ((↑(List.length (Def.encs ds)) : Int) = (↑(List.length ds) : Int)) (q (decide ((↑(List.length ds) : Int) ≤ n) = false) (q (n = (↑(Int.toNat n) : Int)) (q ((Def.encs ds)[Int.toNat n]? = some (Def.enc { name := nm, param := Ty.mk ka va la, result := Ty.mk kb vb lb, body := Expr.mk bk bn bv (Ty.mk btk btv btl) bl })) (q (n = (↑(Int.toNat n) : Int)) (q ((Def.encs ds)[Int.toNat n]? = some (Def.enc { name := nm, param := Ty.mk ka va la, result := Ty.mk kb vb lb, body := Expr.mk bk bn bv (Ty.mk btk btv btl) bl })) (ob1 (ht) ob0)))))))))
      · simp only [decide_eq_false h2, Bool.and_false, Bool.false_eq_true, if_false]
        exact Fn.go KT Try.func72 [.reg [] [], .reg [] [], .reg [] [], .reg [] [], .reg [] [], .reg [] [], .reg [] [(1, .call (B true) []), (6, .bit false), (13, .int (↑(List.length ds) : Int)), (14, .bit true)], .reg [] []] [.tidO 3 [none, none, some 3]] [] (AV.tup [AV.agg [I 0, I 0, AV.sl 3 [] false], B false]) ([]) (by kernel_rfl) (ob1 (ho) (q (decide (n < 0) = false) (q ((↑(List.length (Def.encs ds)) : Int) = (↑(List.length ds) : Int)) (q (decide ((↑(List.length ds) : Int) ≤ n) = true) ob0))))
    · simp only [decide_eq_false h1, Bool.and_false, Bool.false_and, Bool.false_eq_true, if_false]
      exact Fn.go KT Try.func72 [.reg [] [], .reg [] [], .reg [] [], .reg [] [], .reg [] [], .reg [] [], .reg [] [(1, .call (B true) []), (6, .bit true)], .reg [] []] [.tidO 3 [none, none, some 3]] [] (AV.tup [AV.agg [I 0, I 0, AV.sl 3 [] false], B false]) ([]) (by kernel_rfl) (ob1 (ho) (q (decide (n < 0) = true) ob0))
  | false =>
    simp only [Bool.false_and, Bool.false_eq_true, if_false]
    exact Fn.go KT Try.func72 [.reg [] [], .reg [] [], .reg [] [], .reg [] [], .reg [] [], .reg [] [], .reg [] [(1, .call (B false) [])], .reg [] []] [.tidO 3 [none, none, some 3]] [] (AV.tup [AV.agg [I 0, I 0, AV.sl 3 [] false], B false]) ([]) (by kernel_rfl) (ob1 (ho) ob0)

end Go.Ae

/- source.Lang.Type of an EEvent. -/
namespace Go.Ae
open Go.Proofs

/-- source.Lang.Type returns what it should. -/
def TypeOk (p : Prog) (e : Expr) (sc : List Ty) : Prop :=
  SoundCall Try.prog 72 [.agg [B false], .agg p.enc, .sl 3 (Ty.encs sc) false, .agg e.enc] [] (.tup [.agg (tImp p e sc).1.enc, B (tImp p e sc).2]) []

theorem type_event1 (es : List ByteArray) (ds : List Def) (mk mn mv mtk mtv : Int) (mtl : List Ty) (ml : List Expr) (sc : List Ty) (n v tk tv : Int) (tl : List Ty) (ak an av atk atv : Int) (atl : List Ty) (al : List Expr) (hs : es.length ≤ 1000)
    (hr : TypeOk ⟨es, ds, .mk mk mn mv (.mk mtk mtv mtl) ml⟩ (.mk ak an av (.mk atk atv atl) al) sc) :
    TypeOk ⟨es, ds, .mk mk mn mv (.mk mtk mtv mtl) ml⟩ (.mk 7 n v (.mk tk tv tl) [.mk ak an av (.mk atk atv atl) al]) sc := by
  unfold TypeOk at hr ⊢
  have ho := only_ 7 n v tk tv tl [.mk ak an av (.mk atk atv atl) al] true false false 1
  rw [tImp.eq_def ⟨es, ds, .mk mk mn mv (.mk mtk mtv mtl) ml⟩ (.mk 7 n v (.mk tk tv tl) [.mk ak an av (.mk atk atv atl) al])]
  dsimp only
  simp only [show ¬ (7 : Int) = 0 by omega, show ¬ (7 : Int) = 8 by omega, show ¬ (7 : Int) = 1 by omega, show ¬ (7 : Int) = 2 by omega, if_false, if_true]
  generalize onlyC (.mk 7 n v (.mk tk tv tl) [.mk ak an av (.mk atk atv atl) al]) true false false 1 = E at ho ⊢
  generalize tImp ⟨es, ds, .mk mk mn mv (.mk mtk mtv mtl) ml⟩ (.mk ak an av (.mk atk atv atl) al) sc = T at hr ⊢
  obtain ⟨⟨rk, rv, rl⟩, rb⟩ := T
  cases E with
  | true =>
    by_cases h1 : 0 ≤ n
    · by_cases h2 : n < (es.length : Int)
      · simp only [decide_eq_true h1, decide_eq_true h2, Bool.and_true, if_true]
        cases rb with
        | true =>
          exact Fn.go KT Try.func72 [.reg [] [], .reg [] [], .reg [] [], .reg [] [], .reg [] [], .reg [] [], .reg [] [], .reg [] [(1, .call (B true) []), (6, .bit false), (13, .int (↑(List.length es) : Int)), (14, .bit false)], .reg [] [(5, .row 0 [I ak, I an, I av, I atk, I atv, AV.sl 3 (Ty.encs atl) false, AV.sl 7 (Expr.encs al) false]), (7, .call (AV.tup [AV.agg [I rk, I rv, AV.sl 3 (Ty.encs rl) false], B true]) [])]] [.tidO 3 [none, none, some 3]] [] (AV.tup [AV.agg [I rk, I rv, AV.sl 3 (Ty.encs rl) false], B true]) ([]) (by kernel_rfl) (ob1 (ho) (q (decide (n < 0) = false) (q ((↑(List.length (strs es)) : Int) = (↑(List.length es) : Int)) (q (decide ((↑(List.length es) : Int) ≤ n) = false) (q (0 = (↑0 : Int)) (q ([[I ak, I an, I av, I atk, I atv, AV.sl 3 (Ty.encs atl) false, AV.sl 7 (Expr.encs al) false]][0]? = some [I ak, I an, I av, I atk, I atv, AV.sl 3 (Ty.encs atl) false, AV.sl 7 (Expr.encs al) false]) (ob1 (hr) ob0)))))))
        | false =>
          exact Fn.go KT Try.func72 [.reg [] [], .reg [] [], .reg [] [], .reg [] [], .reg [] [], .reg [] [], .reg [] [], .reg [] [(1, .call (B true) []), (6, .bit false), (13, .int (↑(List.length es) : Int)), (14, .bit false)], .reg [] [(5, .row 0 [I ak, I an, I av, I atk, I atv, AV.sl 3 (Ty.encs atl) false, AV.sl 7 (Expr.encs al) false]), (7, .call (AV.tup [AV.agg [I rk, I rv, AV.sl 3 (Ty.encs rl) false], B false]) [])]] [.tidO 3 [none, none, some 3]] [] (AV.tup [AV.agg [I rk, I rv, AV.sl 3 (Ty.encs rl) false], B false]) ([]) (by kernel_rfl) (ob1 (ho) (q (decide (n < 0) = false) (q ((↑(List.length (strs es)) : Int) = (↑(List.length es) : Int)) (q (decide ((↑(List.length es) : Int) ≤ n) = false) (q (0 = (↑0 : Int)) (q ([[I ak, I an, I av, I atk, I atv, AV.sl 3 (Ty.encs atl) false, AV.sl 7 (Expr.encs al) false]][0]? = some [I ak, I an, I av, I atk, I atv, AV.sl 3 (Ty.encs atl) false, AV.sl 7 (Expr.encs al) false]) (ob1 (hr) ob0)))))))
      · simp only [decide_eq_false h2, Bool.and_false, Bool.false_eq_true, if_false]
        clear hr
        exact Fn.go KT Try.func72 [.reg [] [], .reg [] [], .reg [] [], .reg [] [], .reg [] [], .reg [] [], .reg [] [], .reg [] [(1, .call (B true) []), (6, .bit false), (13, .int (↑(List.length es) : Int)), (14, .bit true)], .reg [] []] [.tidO 3 [none, none, some 3]] [] (AV.tup [AV.agg [I 0, I 0, AV.sl 3 [] false], B false]) ([]) (by kernel_rfl) (ob1 (ho) (q (decide (n < 0) = false) (q ((↑(List.length (strs es)) : Int) = (↑(List.length es) : Int)) (q (decide ((↑(List.length es) : Int) ≤ n) = true) ob0))))
    · simp only [decide_eq_false h1, Bool.and_false, Bool.false_and, Bool.false_eq_true, if_false]
      clear hr
      exact Fn.go KT Try.func72 [.reg [] [], .reg [] [], .reg [] [], .reg [] [], .reg [] [], .reg [] [], .reg [] [], .reg [] [(1, .call (B true) []), (6, .bit true)], .reg [] []] [.tidO 3 [none, none, some 3]] [] (AV.tup [AV.agg [I 0, I 0, AV.sl 3 [] false], B false]) ([]) (by kernel_rfl) (ob1 (ho) (q (decide (n < 0) = true) ob0))
  | false =>
    simp only [Bool.false_and, Bool.false_eq_true, if_false]
    clear hr
    exact Fn.go KT Try.func72 [.reg [] [], .reg [] [], .reg [] [], .reg [] [], .reg [] [], .reg [] [], .reg [] [], .reg [] [(1, .call (B false) [])], .reg [] []] [.tidO 3 [none, none, some 3]] [] (AV.tup [AV.agg [I 0, I 0, AV.sl 3 [] false], B false]) ([]) (by kernel_rfl) (ob1 (ho) ob0)

end Go.Ae

/- source.Lang.Type of an EEvent with another number of Args. -/
namespace Go.Ae
open Go.Proofs

theorem only_len (k n v : Int) (t : Ty) (l : List Expr) (a b c : Bool) (g : Int) (h0 : 0 ≤ g) (h : (l.length : Int) ≠ g) : onlyC (.mk k n v t l) a b c g = false := by
  obtain ⟨tk, tv, tl⟩ := t
  simp only [onlyC, decide_eq_false (show ¬ g < 0 by omega), decide_eq_false h, Bool.or_false, Bool.and_false]

theorem type_event0 (es : List ByteArray) (ds : List Def) (mk mn mv mtk mtv : Int) (mtl : List Ty) (ml : List Expr) (sc : List Ty) (n v tk tv : Int) (tl : List Ty) (l : List Expr) (h : l.length ≠ 1) :
    TypeOk ⟨es, ds, .mk mk mn mv (.mk mtk mtv mtl) ml⟩ (.mk 7 n v (.mk tk tv tl) l) sc := by
  unfold TypeOk
  have ho := only_ 7 n v tk tv tl l true false false 1
  rw [only_len _ _ _ _ _ _ _ _ _ (by omega) (by omega)] at ho
  rw [show tImp ⟨es, ds, .mk mk mn mv (.mk mtk mtv mtl) ml⟩ (.mk 7 n v (.mk tk tv tl) l) sc = (tyZ, false) by
    rw [tImp.eq_def]
    dsimp only
    simp only [show ¬ (7 : Int) = 0 by omega, show ¬ (7 : Int) = 8 by omega, show ¬ (7 : Int) = 1 by omega, show ¬ (7 : Int) = 2 by omega, if_false, if_true]
    match l, h with
    | [], _ => rfl
    | [_], h => exact absurd rfl h
    | _ :: _ :: _, _ => rfl]
  exact Fn.go KT Try.func72 [.reg [] [], .reg [] [], .reg [] [], .reg [] [], .reg [] [], .reg [] [], .reg [] [], .reg [] [(1, .call (B false) [])], .reg [] []] [.tidO 3 [none, none, some 3]] [] (AV.tup [AV.agg [I 0, I 0, AV.sl 3 [] false], B false]) ([]) (by kernel_rfl) (ob1 (ho) ob0)

end Go.Ae

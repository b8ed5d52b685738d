/- Part 13 of the proof: AeRRNF19, AeRRNF20, AeRRNF21, AeRRNM0, AeRRNMP. -/
import Derived.Test.YtcmlbbgbfgikaaaGreatT12
set_option linter.unusedSimpArgs false
set_option linter.unusedVariables false
namespace Go.Ae.N
open Go.Proofs
theorem comp_case (es : List ByteArray) (ds : List Def) (mk mn mv mtk mtv : Int) (mtl : List Ty) (ml : List Expr) (sc : List Ty) (n v tk tv : Int) (tl : List Ty)
    (ak an av atk atv : Int) (atl : List Ty) (al : List Expr) (bk bn bv btk btv : Int) (btl : List Ty) (bl : List Expr) (r : List Expr) (hr : r.length ≤ 1000)
    (ha : TypeOk ⟨es, ds, .mk mk mn mv (.mk mtk mtv mtl) ml⟩ (.mk ak an av (.mk atk atv atl) al) sc)
    (hb : TypeOk ⟨es, ds, .mk mk mn mv (.mk mtk mtv mtl) ml⟩ (.mk bk bn bv (.mk btk btv btl) bl) sc)
    (hc : ∀ x ∈ r, TypeOk ⟨es, ds, .mk mk mn mv (.mk mtk mtv mtl) ml⟩ x sc)
    (hok : (tImp ⟨es, ds, .mk mk mn mv (.mk mtk mtv mtl) ml⟩ (.mk bk bn bv (.mk btk btv btl) bl) sc).1.ok) :
    CompOk ⟨es, ds, .mk mk mn mv (.mk mtk mtv mtl) ml⟩ (.mk 6 n v (.mk tk tv tl) (.mk ak an av (.mk atk atv atl) al :: .mk bk bn bv (.mk btk btv btl) bl :: r)) sc := by
  unfold TypeOk at ha hb
  unfold CompOk
  have ho := only_ 6 n v tk tv tl (.mk ak an av (.mk atk atv atl) al :: .mk bk bn bv (.mk btk btv btl) bl :: r) false false false (-1)
  rw [tImp.eq_def ⟨es, ds, .mk mk mn mv (.mk mtk mtv mtl) ml⟩ (.mk 6 n v (.mk tk tv tl) (.mk ak an av (.mk atk atv atl) al :: .mk bk bn bv (.mk btk btv btl) bl :: r))]
  dsimp only
  simp only [show ¬ (6 : Int) = 0 by omega, show ¬ (6 : Int) = 8 by omega, show ¬ (6 : Int) = 1 by omega, show ¬ (6 : Int) = 2 by omega, show ¬ (6 : Int) = 7 by omega, show ¬ (6 : Int) = 3 by omega, show ¬ (6 : Int) = 4 by omega, show ¬ (6 : Int) = 5 by omega, if_false, if_true]
  generalize onlyC (.mk 6 n v (.mk tk tv tl) (.mk ak an av (.mk atk atv atl) al :: .mk bk bn bv (.mk btk btv btl) bl :: r)) false false false (-1) = E at ho ⊢
  have hl := fun (uk uv : Int) (ul : List Ty) (hu : (Ty.mk uk uv ul).ok) (b : Bool) => comp_case_loop es ds mk mn mv mtk mtv mtl ml sc uk uv ul hu r hr r 0 b rfl hc
  clear hc
  generalize tImp ⟨es, ds, .mk mk mn mv (.mk mtk mtv mtl) ml⟩ (.mk ak an av (.mk atk atv atl) al) sc = T at ha ⊢
  obtain ⟨⟨rk, rv, rl⟩, rb⟩ := T
  cases E with
  | false =>
    clear ha hb hl hok
    simp only [Bool.false_eq_true, if_false]
    exact gK Tryz.func95 (rGs 6 [rS [(1, oC ho)], rG]) [.tidO 3 [none, none, some 3]] [] (ob1 (ho) ob0)
  | true =>
    simp only [if_true]
    cases rb with
    | false =>
      clear hb hl hok
      simp only [Bool.false_eq_true, if_false]
      exact gK Tryz.func95 (rGs 6 [rS [(1, oC ho), (6, .int ((r.length : Int) + 1 + 1))], rS [(5, .row 0 (xE ak an av atk atv atl al)), (7, oC ha)], rG, rG]) [.tidO 3 [none, none, some 3]] [] (ob1 (ho) (q ((↑(List.length ((xE ak an av atk atv atl al) :: (xE bk bn bv btk btv btl bl) :: Expr.encs r)) : Int) = (r.length : Int) + 1 + 1) (qI 0 (qC0 ((xE ak an av atk atv atl al)) ((xE bk bn bv btk btv btl bl) :: Expr.encs r) (ob1 (ha) ob0)))))
    | true =>
      simp only [if_true]
      by_cases hk : rk = 0
      · by_cases hv : rv = (r.length : Int) + 1
        · rw [if_pos ⟨hk, by simp; omega⟩]
          have hf : ∀ f b, r.attach.foldl (fun ok c => ok && (tImp ⟨es, ds, .mk mk mn mv (.mk mtk mtv mtl) ml⟩ c.1 sc).2 && decide (f = (tImp ⟨es, ds, .mk mk mn mv (.mk mtk mtv mtl) ml⟩ c.1 sc).1)) b =
              casesC ⟨es, ds, .mk mk mn mv (.mk mtk mtv mtl) ml⟩ sc f r b := fun f b => List.foldl_attach (f := fun ok c => ok && (tImp ⟨es, ds, .mk mk mn mv (.mk mtk mtv mtl) ml⟩ c sc).2 && decide (f = (tImp ⟨es, ds, .mk mk mn mv (.mk mtk mtv mtl) ml⟩ c sc).1))
          simp only [hf]
          clear hf
          generalize tImp ⟨es, ds, .mk mk mn mv (.mk mtk mtv mtl) ml⟩ (.mk bk bn bv (.mk btk btv btl) bl) sc = U at hb hok ⊢
          obtain ⟨⟨uk, uv, ul⟩, ub⟩ := U
          have hl := hl uk uv ul hok ub
          generalize casesC ⟨es, ds, .mk mk mn mv (.mk mtk mtv mtl) ml⟩ sc (.mk uk uv ul) r ub = F at hl ⊢
          clear hok
          cases ub with
          | true =>
            cases F with
            | true => exact gK Tryz.func95 (rGs 6 [rS [(1, oC ho), (6, .int ((r.length : Int) + 1 + 1))], rS [(5, .row 0 (xE ak an av atk atv atl al)), (7, oC ha)], rS [(5, .bit false), (12, .int ((r.length : Int) + 1 + 1)), (13, .int ((r.length : Int) + 1 + 1 - 1)), (14, .bit false)], rS [(5, .row 1 (xE bk bn bv btk btv btl bl)), (7, oC hb)], rS [(2, .rows (Expr.encs r)), (3, .int (r.length : Int))], oL [.keep [(2, []), (4, []), (5, []), (8, []), (21, []), (22, []), (208, []), (209, []), (210, [])]] hl, rG]) [.tidO 0 [none, none, some 3]] [] (ob1 (ho) (q ((↑(List.length ((xE ak an av atk atv atl al) :: (xE bk bn bv btk btv btl bl) :: Expr.encs r)) : Int) = (r.length : Int) + 1 + 1) (qI 0 (qC0 ((xE ak an av atk atv atl al)) ((xE bk bn bv btk btv btl bl) :: Expr.encs r) (ob1 (ha) (qU (rk != 0) (q ((↑(List.length ((xE ak an av atk atv atl al) :: (xE bk bn bv btk btv btl bl) :: Expr.encs r)) : Int) = (r.length : Int) + 1 + 1) (qw ((r.length : Int) + 1 + 1 - 1) (qU (rv != (r.length : Int) + 1 + 1 - 1) (qI 1 (qC1 ((xE ak an av atk atv atl al)) ((xE bk bn bv btk btv btl bl)) (Expr.encs r) (ob1 (hb) (q ((0 : Int) ≤ Option.getD (some (2 : Int)) (0 : Int)) (q (Option.getD (some (2 : Int)) (0 : Int) ≤ Option.getD none (↑(List.length ([I ak, I an, I av, I atk, I atv, .sl (3 : Nat) (Ty.encs atl) false, .sl (7 : Nat) (Expr.encs al) false] :: [I bk, I bn, I bv, I btk, I btv, .sl (3 : Nat) (Ty.encs btl) false, .sl (7 : Nat) (Expr.encs bl) false] :: Expr.encs r)) : Int)) (q (Option.getD none (↑(List.length ([I ak, I an, I av, I atk, I atv, .sl (3 : Nat) (Ty.encs atl) false, .sl (7 : Nat) (Expr.encs al) false] :: [I bk, I bn, I bv, I btk, I btv, .sl (3 : Nat) (Ty.encs btl) false, .sl (7 : Nat) (Expr.encs bl) false] :: Expr.encs r)) : Int) ≤ (↑(List.length ([I ak, I an, I av, I atk, I atv, .sl (3 : Nat) (Ty.encs atl) false, .sl (7 : Nat) (Expr.encs al) false] :: [I bk, I bn, I bv, I btk, I btv, .sl (3 : Nat) (Ty.encs btl) false, .sl (7 : Nat) (Expr.encs bl) false] :: Expr.encs r)) : Int)) (q (List.drop (Int.toNat (Option.getD (some (2 : Int)) (0 : Int))) (List.take (Int.toNat (Option.getD none (↑(List.length ([I ak, I an, I av, I atk, I atv, .sl (3 : Nat) (Ty.encs atl) false, .sl (7 : Nat) (Expr.encs al) false] :: [I bk, I bn, I bv, I btk, I btv, .sl (3 : Nat) (Ty.encs btl) false, .sl (7 : Nat) (Expr.encs bl) false] :: Expr.encs r)) : Int))) ([I ak, I an, I av, I atk, I atv, .sl (3 : Nat) (Ty.encs atl) false, .sl (7 : Nat) (Expr.encs al) false] :: [I bk, I bn, I bv, I btk, I btv, .sl (3 : Nat) (Ty.encs btl) false, .sl (7 : Nat) (Expr.encs bl) false] :: Expr.encs r)) = Expr.encs r) (qN Expr.encs r (ob1 (hl) ob0))))))))))))))))))
            | false => exact gK Tryz.func95 (rGs 6 [rS [(1, oC ho), (6, .int ((r.length : Int) + 1 + 1))], rS [(5, .row 0 (xE ak an av atk atv atl al)), (7, oC ha)], rS [(5, .bit false), (12, .int ((r.length : Int) + 1 + 1)), (13, .int ((r.length : Int) + 1 + 1 - 1)), (14, .bit false)], rS [(5, .row 1 (xE bk bn bv btk btv btl bl)), (7, oC hb)], rS [(2, .rows (Expr.encs r)), (3, .int (r.length : Int))], oL [.keep [(2, []), (4, []), (5, []), (8, []), (21, []), (22, []), (208, []), (209, []), (210, [])]] hl, rG]) [.tidO 0 [none, none, some 3]] [] (ob1 (ho) (q ((↑(List.length ((xE ak an av atk atv atl al) :: (xE bk bn bv btk btv btl bl) :: Expr.encs r)) : Int) = (r.length : Int) + 1 + 1) (qI 0 (qC0 ((xE ak an av atk atv atl al)) ((xE bk bn bv btk btv btl bl) :: Expr.encs r) (ob1 (ha) (qU (rk != 0) (q ((↑(List.length ((xE ak an av atk atv atl al) :: (xE bk bn bv btk btv btl bl) :: Expr.encs r)) : Int) = (r.length : Int) + 1 + 1) (qw ((r.length : Int) + 1 + 1 - 1) (qU (rv != (r.length : Int) + 1 + 1 - 1) (qI 1 (qC1 ((xE ak an av atk atv atl al)) ((xE bk bn bv btk btv btl bl)) (Expr.encs r) (ob1 (hb) (q ((0 : Int) ≤ Option.getD (some (2 : Int)) (0 : Int)) (q (Option.getD (some (2 : Int)) (0 : Int) ≤ Option.getD none (↑(List.length ([I ak, I an, I av, I atk, I atv, .sl (3 : Nat) (Ty.encs atl) false, .sl (7 : Nat) (Expr.encs al) false] :: [I bk, I bn, I bv, I btk, I btv, .sl (3 : Nat) (Ty.encs btl) false, .sl (7 : Nat) (Expr.encs bl) false] :: Expr.encs r)) : Int)) (q (Option.getD none (↑(List.length ([I ak, I an, I av, I atk, I atv, .sl (3 : Nat) (Ty.encs atl) false, .sl (7 : Nat) (Expr.encs al) false] :: [I bk, I bn, I bv, I btk, I btv, .sl (3 : Nat) (Ty.encs btl) false, .sl (7 : Nat) (Expr.encs bl) false] :: Expr.encs r)) : Int) ≤ (↑(List.length ([I ak, I an, I av, I atk, I atv, .sl (3 : Nat) (Ty.encs atl) false, .sl (7 : Nat) (Expr.encs al) false] :: [I bk, I bn, I bv, I btk, I btv, .sl (3 : Nat) (Ty.encs btl) false, .sl (7 : Nat) (Expr.encs bl) false] :: Expr.encs r)) : Int)) (q (List.drop (Int.toNat (Option.getD (some (2 : Int)) (0 : Int))) (List.take (Int.toNat (Option.getD none (↑(List.length ([I ak, I an, I av, I atk, I atv, .sl (3 : Nat) (Ty.encs atl) false, .sl (7 : Nat) (Expr.encs al) false] :: [I bk, I bn, I bv, I btk, I btv, .sl (3 : Nat) (Ty.encs btl) false, .sl (7 : Nat) (Expr.encs bl) false] :: Expr.encs r)) : Int))) ([I ak, I an, I av, I atk, I atv, .sl (3 : Nat) (Ty.encs atl) false, .sl (7 : Nat) (Expr.encs al) false] :: [I bk, I bn, I bv, I btk, I btv, .sl (3 : Nat) (Ty.encs btl) false, .sl (7 : Nat) (Expr.encs bl) false] :: Expr.encs r)) = Expr.encs r) (qN Expr.encs r (ob1 (hl) ob0))))))))))))))))))
          | false =>
            cases F with
            | true => exact gK Tryz.func95 (rGs 6 [rS [(1, oC ho), (6, .int ((r.length : Int) + 1 + 1))], rS [(5, .row 0 (xE ak an av atk atv atl al)), (7, oC ha)], rS [(5, .bit false), (12, .int ((r.length : Int) + 1 + 1)), (13, .int ((r.length : Int) + 1 + 1 - 1)), (14, .bit false)], rS [(5, .row 1 (xE bk bn bv btk btv btl bl)), (7, oC hb)], rS [(2, .rows (Expr.encs r)), (3, .int (r.length : Int))], oL [.keep [(2, []), (4, []), (5, []), (8, []), (21, []), (22, []), (208, []), (209, []), (210, [])]] hl, rG]) [.tidO 0 [none, none, some 3]] [] (ob1 (ho) (q ((↑(List.length ((xE ak an av atk atv atl al) :: (xE bk bn bv btk btv btl bl) :: Expr.encs r)) : Int) = (r.length : Int) + 1 + 1) (qI 0 (qC0 ((xE ak an av atk atv atl al)) ((xE bk bn bv btk btv btl bl) :: Expr.encs r) (ob1 (ha) (qU (rk != 0) (q ((↑(List.length ((xE ak an av atk atv atl al) :: (xE bk bn bv btk btv btl bl) :: Expr.encs r)) : Int) = (r.length : Int) + 1 + 1) (qw ((r.length : Int) + 1 + 1 - 1) (qU (rv != (r.length : Int) + 1 + 1 - 1) (qI 1 (qC1 ((xE ak an av atk atv atl al)) ((xE bk bn bv btk btv btl bl)) (Expr.encs r) (ob1 (hb) (q ((0 : Int) ≤ Option.getD (some (2 : Int)) (0 : Int)) (q (Option.getD (some (2 : Int)) (0 : Int) ≤ Option.getD none (↑(List.length ([I ak, I an, I av, I atk, I atv, .sl (3 : Nat) (Ty.encs atl) false, .sl (7 : Nat) (Expr.encs al) false] :: [I bk, I bn, I bv, I btk, I btv, .sl (3 : Nat) (Ty.encs btl) false, .sl (7 : Nat) (Expr.encs bl) false] :: Expr.encs r)) : Int)) (q (Option.getD none (↑(List.length ([I ak, I an, I av, I atk, I atv, .sl (3 : Nat) (Ty.encs atl) false, .sl (7 : Nat) (Expr.encs al) false] :: [I bk, I bn, I bv, I btk, I btv, .sl (3 : Nat) (Ty.encs btl) false, .sl (7 : Nat) (Expr.encs bl) false] :: Expr.encs r)) : Int) ≤ (↑(List.length ([I ak, I an, I av, I atk, I atv, .sl (3 : Nat) (Ty.encs atl) false, .sl (7 : Nat) (Expr.encs al) false] :: [I bk, I bn, I bv, I btk, I btv, .sl (3 : Nat) (Ty.encs btl) false, .sl (7 : Nat) (Expr.encs bl) false] :: Expr.encs r)) : Int)) (q (List.drop (Int.toNat (Option.getD (some (2 : Int)) (0 : Int))) (List.take (Int.toNat (Option.getD none (↑(List.length ([I ak, I an, I av, I atk, I atv, .sl (3 : Nat) (Ty.encs atl) false, .sl (7 : Nat) (Expr.encs al) false] :: [I bk, I bn, I bv, I btk, I btv, .sl (3 : Nat) (Ty.encs btl) false, .sl (7 : Nat) (Expr.encs bl) false] :: Expr.encs r)) : Int))) ([I ak, I an, I av, I atk, I atv, .sl (3 : Nat) (Ty.encs atl) false, .sl (7 : Nat) (Expr.encs al) false] :: [I bk, I bn, I bv, I btk, I btv, .sl (3 : Nat) (Ty.encs btl) false, .sl (7 : Nat) (Expr.encs bl) false] :: Expr.encs r)) = Expr.encs r) (qN Expr.encs r (ob1 (hl) ob0))))))))))))))))))
            | false => exact gK Tryz.func95 (rGs 6 [rS [(1, oC ho), (6, .int ((r.length : Int) + 1 + 1))], rS [(5, .row 0 (xE ak an av atk atv atl al)), (7, oC ha)], rS [(5, .bit false), (12, .int ((r.length : Int) + 1 + 1)), (13, .int ((r.length : Int) + 1 + 1 - 1)), (14, .bit false)], rS [(5, .row 1 (xE bk bn bv btk btv btl bl)), (7, oC hb)], rS [(2, .rows (Expr.encs r)), (3, .int (r.length : Int))], oL [.keep [(2, []), (4, []), (5, []), (8, []), (21, []), (22, []), (208, []), (209, []), (210, [])]] hl, rG]) [.tidO 0 [none, none, some 3]] [] (ob1 (ho) (q ((↑(List.length ((xE ak an av atk atv atl al) :: (xE bk bn bv btk btv btl bl) :: Expr.encs r)) : Int) = (r.length : Int) + 1 + 1) (qI 0 (qC0 ((xE ak an av atk atv atl al)) ((xE bk bn bv btk btv btl bl) :: Expr.encs r) (ob1 (ha) (qU (rk != 0) (q ((↑(List.length ((xE ak an av atk atv atl al) :: (xE bk bn bv btk btv btl bl) :: Expr.encs r)) : Int) = (r.length : Int) + 1 + 1) (qw ((r.length : Int) + 1 + 1 - 1) (qU (rv != (r.length : Int) + 1 + 1 - 1) (qI 1 (qC1 ((xE ak an av atk atv atl al)) ((xE bk bn bv btk btv btl bl)) (Expr.encs r) (ob1 (hb) (q ((0 : Int) ≤ Option.getD (some (2 : Int)) (0 : Int)) (q (Option.getD (some (2 : Int)) (0 : Int) ≤ Option.getD none (↑(List.length ([I ak, I an, I av, I atk, I atv, .sl (3 : Nat) (Ty.encs atl) false, .sl (7 : Nat) (Expr.encs al) false] :: [I bk, I bn, I bv, I btk, I btv, .sl (3 : Nat) (Ty.encs btl) false, .sl (7 : Nat) (Expr.encs bl) false] :: Expr.encs r)) : Int)) (q (Option.getD none (↑(List.length ([I ak, I an, I av, I atk, I atv, .sl (3 : Nat) (Ty.encs atl) false, .sl (7 : Nat) (Expr.encs al) false] :: [I bk, I bn, I bv, I btk, I btv, .sl (3 : Nat) (Ty.encs btl) false, .sl (7 : Nat) (Expr.encs bl) false] :: Expr.encs r)) : Int) ≤ (↑(List.length ([I ak, I an, I av, I atk, I atv, .sl (3 : Nat) (Ty.encs atl) false, .sl (7 : Nat) (Expr.encs al) false] :: [I bk, I bn, I bv, I btk, I btv, .sl (3 : Nat) (Ty.encs btl) false, .sl (7 : Nat) (Expr.encs bl) false] :: Expr.encs r)) : Int)) (q (List.drop (Int.toNat (Option.getD (some (2 : Int)) (0 : Int))) (List.take (Int.toNat (Option.getD none (↑(List.length ([I ak, I an, I av, I atk, I atv, .sl (3 : Nat) (Ty.encs atl) false, .sl (7 : Nat) (Expr.encs al) false] :: [I bk, I bn, I bv, I btk, I btv, .sl (3 : Nat) (Ty.encs btl) false, .sl (7 : Nat) (Expr.encs bl) false] :: Expr.encs r)) : Int))) ([I ak, I an, I av, I atk, I atv, .sl (3 : Nat) (Ty.encs atl) false, .sl (7 : Nat) (Expr.encs al) false] :: [I bk, I bn, I bv, I btk, I btv, .sl (3 : Nat) (Ty.encs btl) false, .sl (7 : Nat) (Expr.encs bl) false] :: Expr.encs r)) = Expr.encs r) (qN Expr.encs r (ob1 (hl) ob0))))))))))))))))))
        · rw [if_neg (fun h => hv (by have := h.2; simp at this; omega))]
          clear hb hl hok
          exact gK Tryz.func95 (rGs 6 [rS [(1, oC ho), (6, .int ((r.length : Int) + 1 + 1))], rS [(5, .row 0 (xE ak an av atk atv atl al)), (7, oC ha)], rS [(5, .bit false), (12, .int ((r.length : Int) + 1 + 1)), (13, .int ((r.length : Int) + 1 + 1 - 1)), (14, .bit true)], rG]) [.tidO 3 [none, none, some 3]] [] (ob1 (ho) (q ((↑(List.length ((xE ak an av atk atv atl al) :: (xE bk bn bv btk btv btl bl) :: Expr.encs r)) : Int) = (r.length : Int) + 1 + 1) (qI 0 (qC0 ((xE ak an av atk atv atl al)) ((xE bk bn bv btk btv btl bl) :: Expr.encs r) (ob1 (ha) (qU (rk != 0) (q ((↑(List.length ((xE ak an av atk atv atl al) :: (xE bk bn bv btk btv btl bl) :: Expr.encs r)) : Int) = (r.length : Int) + 1 + 1) (qw ((r.length : Int) + 1 + 1 - 1) (qV (rv != (r.length : Int) + 1 + 1 - 1) ob0)))))))))
      · rw [if_neg (fun h => hk h.1)]
        clear hb hl hok
        exact gK Tryz.func95 (rGs 6 [rS [(1, oC ho), (6, .int ((r.length : Int) + 1 + 1))], rS [(5, .row 0 (xE ak an av atk atv atl al)), (7, oC ha)], rS [(5, .bit true)], rG]) [.tidO 3 [none, none, some 3]] [] (ob1 (ho) (q ((↑(List.length ((xE ak an av atk atv atl al) :: (xE bk bn bv btk btv btl bl) :: Expr.encs r)) : Int) = (r.length : Int) + 1 + 1) (qI 0 (qC0 ((xE ak an av atk atv atl al)) ((xE bk bn bv btk btv btl bl) :: Expr.encs r) (ob1 (ha) (qV (rk != 0) ob0))))))
theorem comp_bad (es : List ByteArray) (ds : List Def) (mk mn mv mtk mtv : Int) (mtl : List Ty) (ml : List Expr) (sc : List Ty) (k n v tk tv : Int) (tl : List Ty) (l : List Expr)
    (h : (k = 3 ∨ k = 5) ∧ l.length ≠ 2) :
    CompOk ⟨es, ds, .mk mk mn mv (.mk mtk mtv mtl) ml⟩ (.mk k n v (.mk tk tv tl) l) sc := by
  unfold CompOk
  have ho := only_ k n v tk tv tl l false false false 2
  rw [only_len _ _ _ _ _ _ _ _ _ (by omega) (by omega)] at ho
  rw [show tImp ⟨es, ds, .mk mk mn mv (.mk mtk mtv mtl) ml⟩ (.mk k n v (.mk tk tv tl) l) sc = (tyZ, false) by
    rw [tImp.eq_def]
    dsimp only
    rcases h with ⟨rfl | rfl, h⟩
    · simp only [show ¬ (3 : Int) = 0 by omega, show ¬ (3 : Int) = 8 by omega, show ¬ (3 : Int) = 1 by omega, show ¬ (3 : Int) = 2 by omega, show ¬ (3 : Int) = 7 by omega, if_false, if_true]
      match l, h with
      | [], _ => rfl
      | [_], _ => rfl
      | [_, _], h => exact absurd rfl h
      | _ :: _ :: _ :: _, _ => rfl
    · simp only [show ¬ (5 : Int) = 0 by omega, show ¬ (5 : Int) = 8 by omega, show ¬ (5 : Int) = 1 by omega, show ¬ (5 : Int) = 2 by omega, show ¬ (5 : Int) = 7 by omega, show ¬ (5 : Int) = 3 by omega, show ¬ (5 : Int) = 4 by omega, if_false, if_true]
      match l, h with
      | [], _ => rfl
      | [_], _ => rfl
      | [_, _], h => exact absurd rfl h
      | _ :: _ :: _ :: _, _ => rfl]
  rcases h with ⟨rfl | rfl, h⟩
  · exact gK Tryz.func95 (rGs 4 [rS [(1, oC ho)], rG]) [.tidO 3 [none, none, some 3]] [] (ob1 (ho) ob0)
  · exact gK Tryz.func95 (rGs 6 [rS [(1, oC ho)], rG]) [.tidO 3 [none, none, some 3]] [] (ob1 (ho) ob0)
theorem comp_bad_lam (es : List ByteArray) (ds : List Def) (mk mn mv mtk mtv : Int) (mtl : List Ty) (ml : List Expr) (sc : List Ty) (n v tk tv : Int) (tl : List Ty) (l : List Expr) (h : l.length ≠ 1) :
    CompOk ⟨es, ds, .mk mk mn mv (.mk mtk mtv mtl) ml⟩ (.mk 4 n v (.mk tk tv tl) l) sc := by
  unfold CompOk
  have ho := only_ 4 n v tk tv tl l false false true 1
  rw [only_len _ _ _ _ _ _ _ _ _ (by omega) (by omega)] at ho
  rw [show tImp ⟨es, ds, .mk mk mn mv (.mk mtk mtv mtl) ml⟩ (.mk 4 n v (.mk tk tv tl) l) sc = (tyZ, false) by
    rw [tImp.eq_def]
    dsimp only
    simp only [show ¬ (4 : Int) = 0 by omega, show ¬ (4 : Int) = 8 by omega, show ¬ (4 : Int) = 1 by omega, show ¬ (4 : Int) = 2 by omega, show ¬ (4 : Int) = 7 by omega, show ¬ (4 : Int) = 3 by omega, if_false, if_true]
    match l, h with
    | [], _ => rfl
    | [_], h => exact absurd rfl h
    | _ :: _ :: _, _ => rfl]
  exact gK Tryz.func95 (rGs 5 [rS [(1, oC ho)], rG]) [.tidO 3 [none, none, some 3]] [] (ob1 (ho) ob0)
theorem comp_lam1 (es : List ByteArray) (ds : List Def) (mk mn mv mtk mtv : Int) (mtl : List Ty) (ml : List Expr) (sc : List Ty) (n v tk tv : Int) (tl : List Ty)
    (ak an av atk atv : Int) (atl : List Ty) (al : List Expr) (htok : (Ty.mk tk tv tl).ok) (hv : ¬ (tyC (.mk tk tv tl) 20).1 = true) :
    CompOk ⟨es, ds, .mk mk mn mv (.mk mtk mtv mtl) ml⟩ (.mk 4 n v (.mk tk tv tl) [.mk ak an av (.mk atk atv atl) al]) sc := by
  unfold CompOk
  have ho := only_ 4 n v tk tv tl [.mk ak an av (.mk atk atv atl) al] false false true 1
  have hi := isTy_ (.mk tk tv tl) htok
  rw [Bool.not_eq_true] at hv
  rw [tImp.eq_def ⟨es, ds, .mk mk mn mv (.mk mtk mtv mtl) ml⟩ (.mk 4 n v (.mk tk tv tl) [.mk ak an av (.mk atk atv atl) al])]
  dsimp only
  simp only [show ¬ (4 : Int) = 0 by omega, show ¬ (4 : Int) = 8 by omega, show ¬ (4 : Int) = 1 by omega, show ¬ (4 : Int) = 2 by omega, show ¬ (4 : Int) = 7 by omega, show ¬ (4 : Int) = 3 by omega, if_false, if_true, hv, Bool.and_false, Bool.false_eq_true]
  rw [hv] at hi
  generalize onlyC (.mk 4 n v (.mk tk tv tl) [.mk ak an av (.mk atk atv atl) al]) false false true 1 = E at ho
  clear htok
  cases E with
  | false => exact gK Tryz.func95 (rGs 5 [rS [(1, oC ho)], rG]) [.tidO 3 [none, none, some 3]] [] (ob1 (ho) ob0)
  | true => exact gK Tryz.func95 (rGs 5 [rS [(1, oC ho), (7, oC hi)], rG]) [.tidO 3 [none, none, some 3]] [] (ob1 (ho) (ob1 (hi) ob0))
theorem comp_bad_case (es : List ByteArray) (ds : List Def) (mk mn mv mtk mtv : Int) (mtl : List Ty) (ml : List Expr) (sc : List Ty) (n v tk tv : Int) (tl : List Ty) (l : List Expr) (h : l.length < 2) :
    CompOk ⟨es, ds, .mk mk mn mv (.mk mtk mtv mtl) ml⟩ (.mk 6 n v (.mk tk tv tl) l) sc := by
  unfold CompOk
  have ho := only_ 6 n v tk tv tl l false false false (-1)
  generalize onlyC (.mk 6 n v (.mk tk tv tl) l) false false false (-1) = E at ho
  rw [show tImp ⟨es, ds, .mk mk mn mv (.mk mtk mtv mtl) ml⟩ (.mk 6 n v (.mk tk tv tl) l) sc = (tyZ, false) by
    rw [tImp.eq_def]
    dsimp only
    simp only [show ¬ (6 : Int) = 0 by omega, show ¬ (6 : Int) = 8 by omega, show ¬ (6 : Int) = 1 by omega, show ¬ (6 : Int) = 2 by omega, show ¬ (6 : Int) = 7 by omega, show ¬ (6 : Int) = 3 by omega, show ¬ (6 : Int) = 4 by omega, show ¬ (6 : Int) = 5 by omega, if_false, if_true]
    match l, h with
    | [], _ => rfl
    | [_], _ => rfl
    | _ :: _ :: _, h => exact absurd h (by simp)]
  cases E with
  | true => exact gK Tryz.func95 (rGs 6 [rS [(1, oC ho), (6, .int (l.length : Int)), (7, .bit true)], rG]) [.tidO 3 [none, none, some 3]] [] (ob1 (ho) (qN Expr.encs l (qT ((l.length : Int) < 2) ob0)))
  | false => exact gK Tryz.func95 (rGs 6 [rS [(1, oC ho)], rG]) [.tidO 3 [none, none, some 3]] [] (ob1 (ho) ob0)
theorem type_comp (es : List ByteArray) (ds : List Def) (mk mn mv mtk mtv : Int) (mtl : List Ty) (ml : List Expr) (sc : List Ty) (k n v tk tv : Int) (tl : List Ty) (l : List Expr)
    (h : k = 3 ∨ k = 4 ∨ k = 5 ∨ k = 6) (hc : CompOk ⟨es, ds, .mk mk mn mv (.mk mtk mtv mtl) ml⟩ (.mk k n v (.mk tk tv tl) l) sc) :
    TypeOk ⟨es, ds, .mk mk mn mv (.mk mtk mtv mtl) ml⟩ (.mk k n v (.mk tk tv tl) l) sc := by
  unfold CompOk at hc
  unfold TypeOk
  generalize tImp ⟨es, ds, .mk mk mn mv (.mk mtk mtv mtl) ml⟩ (.mk k n v (.mk tk tv tl) l) sc = T at hc ⊢
  obtain ⟨⟨rk, rv, rl⟩, rb⟩ := T
  rcases h with rfl | rfl | rfl | rfl
  · cases rb with
    | true => exact gK Tryz.func61 (rGs 8 [rS [(4, oC hc)]]) [.tidO 3 [none, none, some 3]] [] (ob1 (hc) ob0)
    | false => exact gK Tryz.func61 (rGs 8 [rS [(4, oC hc)]]) [.tidO 3 [none, none, some 3]] [] (ob1 (hc) ob0)
  · cases rb with
    | true => exact gK Tryz.func61 (rGs 9 [rS [(4, oC hc)]]) [.tidO 3 [none, none, some 3]] [] (ob1 (hc) ob0)
    | false => exact gK Tryz.func61 (rGs 9 [rS [(4, oC hc)]]) [.tidO 3 [none, none, some 3]] [] (ob1 (hc) ob0)
  · cases rb with
    | true => exact gK Tryz.func61 (rGs 10 [rS [(4, oC hc)]]) [.tidO 3 [none, none, some 3]] [] (ob1 (hc) ob0)
    | false => exact gK Tryz.func61 (rGs 10 [rS [(4, oC hc)]]) [.tidO 3 [none, none, some 3]] [] (ob1 (hc) ob0)
  · cases rb with
    | true => exact gK Tryz.func61 (rGs 11 [rS [(4, oC hc)]]) [.tidO 3 [none, none, some 3]] [] (ob1 (hc) ob0)
    | false => exact gK Tryz.func61 (rGs 11 [rS [(4, oC hc)]]) [.tidO 3 [none, none, some 3]] [] (ob1 (hc) ob0)
def IntOk (p : Prog) (e : Expr) (sc : List Ty) : Prop :=
  SC 96 [.agg [B true], .agg p.enc, .sl 3 (Ty.encs sc) false, .agg e.enc] [] (.tup [.agg (tImp p e sc).1.enc, B (tImp p e sc).2]) []
theorem type_integer (es : List ByteArray) (ds : List Def) (mk mn mv mtk mtv : Int) (mtl : List Ty) (ml : List Expr) (sc : List Ty) (k n v tk tv : Int) (tl : List Ty) (l : List Expr)
    (h : k < 0 ∨ 8 < k) (hc : IntOk ⟨es, ds, .mk mk mn mv (.mk mtk mtv mtl) ml⟩ (.mk k n v (.mk tk tv tl) l) sc) : TypeOk ⟨es, ds, .mk mk mn mv (.mk mtk mtv mtl) ml⟩ (.mk k n v (.mk tk tv tl) l) sc := by
  unfold IntOk at hc
  unfold TypeOk
  generalize tImp ⟨es, ds, .mk mk mn mv (.mk mtk mtv mtl) ml⟩ (.mk k n v (.mk tk tv tl) l) sc = T at hc ⊢
  obtain ⟨⟨rk, rv, rl⟩, rb⟩ := T
  cases rb with
  | true => exact gK Tryz.func61 [rG, rG, rS [(0, .bit false)], rS [(0, .bit false)], rS [(0, .bit false)], rS [(0, .bit false)], rS [(0, .bit false)], rS [(0, .bit false)], rS [(0, .bit false)], rS [(0, .bit false)], rS [(0, .bit false)], rG, rS [(4, oC hc)]] [.tidO 3 [none, none, some 3]] [] (qU (k == 0) (qU (k == 8) (qU (k == 1) (qU (k == 2) (qU (k == 7) (qU (k == 3) (qU (k == 4) (qU (k == 5) (qU (k == 6) (ob1 (hc) ob0))))))))))
  | false => exact gK Tryz.func61 [rG, rG, rS [(0, .bit false)], rS [(0, .bit false)], rS [(0, .bit false)], rS [(0, .bit false)], rS [(0, .bit false)], rS [(0, .bit false)], rS [(0, .bit false)], rS [(0, .bit false)], rS [(0, .bit false)], rG, rS [(4, oC hc)]] [.tidO 3 [none, none, some 3]] [] (qU (k == 0) (qU (k == 8) (qU (k == 1) (qU (k == 2) (qU (k == 7) (qU (k == 3) (qU (k == 4) (qU (k == 5) (qU (k == 6) (ob1 (hc) ob0))))))))))
section
variable (es : List ByteArray) (ds : List Def) (mk mn mv mtk mtv : Int) (mtl : List Ty) (ml : List Expr) (sc : List Ty) (n v tk tv : Int) (tl : List Ty) (l : List Expr)
theorem int_int : IntOk ⟨es, ds, .mk mk mn mv (.mk mtk mtv mtl) ml⟩ (.mk 9 n v (.mk tk tv tl) l) sc := by
  unfold IntOk
  have ho := only_ 9 n v tk tv tl l true false false 0
  rw [show tImp ⟨es, ds, .mk mk mn mv (.mk mtk mtv mtl) ml⟩ (.mk 9 n v (.mk tk tv tl) l) sc = (tyI, onlyC (.mk 9 n v (.mk tk tv tl) l) true false false 0 && decide (-1000 ≤ n) && decide (n ≤ 1000)) by rw [tImp.eq_def]; rfl]
  generalize onlyC (.mk 9 n v (.mk tk tv tl) l) true false false 0 = E at ho ⊢
  cases E with
  | true => rcases dsp (-1000 ≤ n) with ⟨hb1, hb1'⟩ | ⟨hb1, hb1'⟩
            · skip
              rcases dsp (n ≤ 1000) with ⟨hb2, hb2'⟩ | ⟨hb2, hb2'⟩
              · skip
                exact gR Tryz.func96 (rGs 4 [rS [(2, oC ho), (6, .bit true), (11, .bit true)]]) [.tidO 3 [none, none, some 3]] [] (.tup [.agg [I 2, I 0, .sl 3 [] false], B true]) ([]) (ob1 (ho) (qT (-1000 ≤ n) (qT (n ≤ 1000) ob0))) (by (simp only [tyI, Ty.enc, Ty.encs, *, decide_true, decide_false, Bool.and_true, Bool.and_false, Bool.true_and, Bool.false_and])) (by first | rfl | (simp [*]; done))
              · skip
                exact gR Tryz.func96 (rGs 4 [rS [(2, oC ho), (6, .bit true), (11, .bit false)]]) [.tidO 3 [none, none, some 3]] [] (.tup [.agg [I 2, I 0, .sl 3 [] false], B false]) ([]) (ob1 (ho) (qT (-1000 ≤ n) (qF (n ≤ 1000) ob0))) (by (simp only [tyI, Ty.enc, Ty.encs, *, decide_true, decide_false, Bool.and_true, Bool.and_false, Bool.true_and, Bool.false_and])) (by first | rfl | (simp [*]; done))
            · skip
              exact gR Tryz.func96 (rGs 4 [rS [(2, oC ho), (6, .bit false)]]) [.tidO 3 [none, none, some 3]] [] (.tup [.agg [I 2, I 0, .sl 3 [] false], B false]) ([]) (ob1 (ho) (qF (-1000 ≤ n) ob0)) (by (simp only [tyI, Ty.enc, Ty.encs, *, decide_true, decide_false, Bool.and_true, Bool.and_false, Bool.true_and, Bool.false_and])) (by first | rfl | (simp [*]; done))
  | false => exact gK Tryz.func96 (rGs 4 [rS [(2, oC ho)]]) [.tidO 3 [none, none, some 3]] [] (ob1 (ho) ob0)
theorem int_any : IntOk ⟨es, ds, .mk mk mn mv (.mk mtk mtv mtl) ml⟩ (.mk 10 n v (.mk tk tv tl) l) sc := by
  unfold IntOk
  have ho := only_ 10 n v tk tv tl l false false false 0
  rw [show tImp ⟨es, ds, .mk mk mn mv (.mk mtk mtv mtl) ml⟩ (.mk 10 n v (.mk tk tv tl) l) sc = (tyI, onlyC (.mk 10 n v (.mk tk tv tl) l) false false false 0) by rw [tImp.eq_def]; rfl]
  generalize onlyC (.mk 10 n v (.mk tk tv tl) l) false false false 0 = E at ho ⊢
  cases E with
  | true => exact gK Tryz.func96 (rGs 5 [rS [(2, oC ho)]]) [.tidO 3 [none, none, some 3]] [] (ob1 (ho) ob0)
  | false => exact gK Tryz.func96 (rGs 5 [rS [(2, oC ho)]]) [.tidO 3 [none, none, some 3]] [] (ob1 (ho) ob0)
end
theorem int_add11 (es : List ByteArray) (ds : List Def) (mk mn mv mtk mtv : Int) (mtl : List Ty) (ml : List Expr) (sc : List Ty) (n v tk tv : Int) (tl : List Ty)
    (ak an av atk atv : Int) (atl : List Ty) (al : List Expr) (ha : TypeOk ⟨es, ds, .mk mk mn mv (.mk mtk mtv mtl) ml⟩ (.mk ak an av (.mk atk atv atl) al) sc) :
    IntOk ⟨es, ds, .mk mk mn mv (.mk mtk mtv mtl) ml⟩ (.mk 11 n v (.mk tk tv tl) [.mk ak an av (.mk atk atv atl) al]) sc := by
  unfold TypeOk at ha
  unfold IntOk
  have ho := only_ 11 n v tk tv tl [.mk ak an av (.mk atk atv atl) al] true false false 1
  have hf := fin_0 2
  rw [show tImp ⟨es, ds, .mk mk mn mv (.mk mtk mtv mtl) ml⟩ (.mk 11 n v (.mk tk tv tl) [.mk ak an av (.mk atk atv atl) al]) sc = if onlyC (.mk 11 n v (.mk tk tv tl) [.mk ak an av (.mk atk atv atl) al]) true false false 1 then addC 11 n (tImp ⟨es, ds, .mk mk mn mv (.mk mtk mtv mtl) ml⟩ (.mk ak an av (.mk atk atv atl) al) sc) else (tyZ, false) by rw [tImp.eq_def]; rfl]
  generalize onlyC (.mk 11 n v (.mk tk tv tl) [.mk ak an av (.mk atk atv atl) al]) true false false 1 = E at ho ⊢
  generalize tImp ⟨es, ds, .mk mk mn mv (.mk mtk mtv mtl) ml⟩ (.mk ak an av (.mk atk atv atl) al) sc = T at ha ⊢
  obtain ⟨⟨rk, rv, rl⟩, rb⟩ := T
  cases E with
  | false =>
    clear ha hf
    simp only [Bool.false_eq_true, if_false]
    exact gK Tryz.func96 (rGs 6 [rS [(1, oC ho)], rG]) [.tidO 3 [none, none, some 3]] [] (ob1 (ho) ob0)
  | true =>
    simp only [if_true, addC]
    cases rb with
    | false =>
      clear hf
      simp only [Bool.false_and, Bool.false_eq_true, if_false]
      exact gK Tryz.func96 (rGs 6 [rS [(1, oC ho)], rS [(5, .row 0 (xE ak an av atk atv atl al)), (7, oC ha)], rG, rG]) [.tidO 3 [none, none, some 3]] [] (ob1 (ho) (qI 0 (qC0 ((xE ak an av atk atv atl al)) [] (ob1 (ha) ob0))))
    | true =>
      by_cases hk : rk = 2
      · subst hk
        simp only [decide_true, Bool.and_true, if_true, show ¬ ((12 : Int) = 11) by omega, if_false]
        rcases bsp (n) (1) with ⟨hb1, hb1'⟩ | ⟨hb1, hb1'⟩
        · skip
          exact gR Tryz.func96 (rGs 6 [rS [(1, oC ho)], rS [(5, .row 0 (xE ak an av atk atv atl al)), (7, oC ha)], rG, rG, rS [(3, .bit true)]]) [.tidO 3 [none, none, some 3]] [] (.tup [.agg [I 2, I 0, .sl 3 [] false], B true]) ([]) (ob1 (ho) (qI 0 (qC0 ((xE ak an av atk atv atl al)) [] (ob1 (ha) (qV (n == 1) ob0))))) (by (simp only [tyI, tyF, Ty.enc, Ty.encs, *, decide_true, decide_false, Bool.and_true, Bool.and_false, Bool.true_and, Bool.false_and, Bool.or_true, Bool.or_false, Bool.true_or, Bool.false_or])) (by first | rfl | (simp [*]; done))
        · skip
          rcases bsp (n) (-1) with ⟨hb2, hb2'⟩ | ⟨hb2, hb2'⟩
          · skip
            exact gR Tryz.func96 (rGs 6 [rS [(1, oC ho)], rS [(5, .row 0 (xE ak an av atk atv atl al)), (7, oC ha)], rG, rG, rS [(3, .bit false), (7, .bit true)]]) [.tidO 3 [none, none, some 3]] [] (.tup [.agg [I 2, I 0, .sl 3 [] false], B true]) ([]) (ob1 (ho) (qI 0 (qC0 ((xE ak an av atk atv atl al)) [] (ob1 (ha) (qU (n == 1) (qV (n == -1) ob0)))))) (by (simp only [tyI, tyF, Ty.enc, Ty.encs, *, decide_true, decide_false, Bool.and_true, Bool.and_false, Bool.true_and, Bool.false_and, Bool.or_true, Bool.or_false, Bool.true_or, Bool.false_or])) (by first | rfl | (simp [*]; done))
          · skip
            exact gR Tryz.func96 (rGs 6 [rS [(1, oC ho)], rS [(5, .row 0 (xE ak an av atk atv atl al)), (7, oC ha)], rG, rG, rS [(3, .bit false), (7, .bit false)]]) [.tidO 3 [none, none, some 3]] [] (.tup [.agg [I 2, I 0, .sl 3 [] false], B false]) ([]) (ob1 (ho) (qI 0 (qC0 ((xE ak an av atk atv atl al)) [] (ob1 (ha) (qU (n == 1) (qU (n == -1) ob0)))))) (by (simp only [tyI, tyF, Ty.enc, Ty.encs, *, decide_true, decide_false, Bool.and_true, Bool.and_false, Bool.true_and, Bool.false_and, Bool.or_true, Bool.or_false, Bool.true_or, Bool.false_or])) (by first | rfl | (simp [*]; done))
      · clear hf
        simp only [decide_eq_false hk, Bool.and_false, Bool.false_eq_true, if_false]
        exact gK Tryz.func96 (rGs 6 [rS [(1, oC ho)], rS [(5, .row 0 (xE ak an av atk atv atl al)), (7, oC ha)], rS [(5, .bit true)], rG]) [.tidO 3 [none, none, some 3]] [] (ob1 (ho) (qI 0 (qC0 ((xE ak an av atk atv atl al)) [] (ob1 (ha) (qV (rk != 2) ob0)))))
theorem int_bad11 (es : List ByteArray) (ds : List Def) (mk mn mv mtk mtv : Int) (mtl : List Ty) (ml : List Expr) (sc : List Ty) (n v tk tv : Int) (tl : List Ty) (l : List Expr) (h : l.length ≠ 1) :
    IntOk ⟨es, ds, .mk mk mn mv (.mk mtk mtv mtl) ml⟩ (.mk 11 n v (.mk tk tv tl) l) sc := by
  unfold IntOk
  have ho := only_ 11 n v tk tv tl l true false false 1
  rw [only_len _ _ _ _ _ _ _ _ _ (by omega) (by omega)] at ho
  rw [show tImp ⟨es, ds, .mk mk mn mv (.mk mtk mtv mtl) ml⟩ (.mk 11 n v (.mk tk tv tl) l) sc = (tyZ, false) by
    rw [tImp.eq_def]
    match l, h with
    | [], _ => rfl
    | [_], h => exact absurd rfl h
    | _ :: _ :: _, _ => rfl]
  exact gK Tryz.func96 (rGs 6 [rS [(1, oC ho)], rG]) [.tidO 3 [none, none, some 3]] [] (ob1 (ho) ob0)
theorem int_add12 (es : List ByteArray) (ds : List Def) (mk mn mv mtk mtv : Int) (mtl : List Ty) (ml : List Expr) (sc : List Ty) (n v tk tv : Int) (tl : List Ty)
    (ak an av atk atv : Int) (atl : List Ty) (al : List Expr) (ha : TypeOk ⟨es, ds, .mk mk mn mv (.mk mtk mtv mtl) ml⟩ (.mk ak an av (.mk atk atv atl) al) sc) :
    IntOk ⟨es, ds, .mk mk mn mv (.mk mtk mtv mtl) ml⟩ (.mk 12 n v (.mk tk tv tl) [.mk ak an av (.mk atk atv atl) al]) sc := by
  unfold TypeOk at ha
  unfold IntOk
  have ho := only_ 12 n v tk tv tl [.mk ak an av (.mk atk atv atl) al] true false false 1
  have hf := fin_0 2
  rw [show tImp ⟨es, ds, .mk mk mn mv (.mk mtk mtv mtl) ml⟩ (.mk 12 n v (.mk tk tv tl) [.mk ak an av (.mk atk atv atl) al]) sc = if onlyC (.mk 12 n v (.mk tk tv tl) [.mk ak an av (.mk atk atv atl) al]) true false false 1 then addC 12 n (tImp ⟨es, ds, .mk mk mn mv (.mk mtk mtv mtl) ml⟩ (.mk ak an av (.mk atk atv atl) al) sc) else (tyZ, false) by rw [tImp.eq_def]; rfl]
  generalize onlyC (.mk 12 n v (.mk tk tv tl) [.mk ak an av (.mk atk atv atl) al]) true false false 1 = E at ho ⊢
  generalize tImp ⟨es, ds, .mk mk mn mv (.mk mtk mtv mtl) ml⟩ (.mk ak an av (.mk atk atv atl) al) sc = T at ha ⊢
  obtain ⟨⟨rk, rv, rl⟩, rb⟩ := T
  cases E with
  | false =>
    clear ha hf
    simp only [Bool.false_eq_true, if_false]
    exact gK Tryz.func96 (rGs 7 [rS [(1, oC ho)], rG]) [.tidO 3 [none, none, some 3]] [] (ob1 (ho) ob0)
  | true =>
    simp only [if_true, addC]
    cases rb with
    | false =>
      clear hf
      simp only [Bool.false_and, Bool.false_eq_true, if_false]
      exact gK Tryz.func96 (rGs 7 [rS [(1, oC ho)], rS [(5, .row 0 (xE ak an av atk atv atl al)), (7, oC ha)], rG, rG]) [.tidO 3 [none, none, some 3]] [] (ob1 (ho) (qI 0 (qC0 ((xE ak an av atk atv atl al)) [] (ob1 (ha) ob0))))
    | true =>
      by_cases hk : rk = 2
      · subst hk
        simp only [decide_true, Bool.and_true, if_true, show ¬ ((12 : Int) = 11) by omega, if_false]
        rcases dsp (-1000 ≤ n) with ⟨hb1, hb1'⟩ | ⟨hb1, hb1'⟩
        · skip
          rcases dsp (n ≤ 1000) with ⟨hb2, hb2'⟩ | ⟨hb2, hb2'⟩
          · skip
            exact gR Tryz.func96 (rGs 7 [rS [(1, oC ho)], rS [(5, .row 0 (xE ak an av atk atv atl al)), (7, oC ha)], rG, rG, rS [(0, oC hf), (3, .bit true), (7, .bit true)]]) [.tidO 3 [none, none, some 3]] [] (.tup [.agg [I 0, I 2, .sl 3 [] false], B true]) ([]) (ob1 (ho) (qI 0 (qC0 ((xE ak an av atk atv atl al)) [] (ob1 (ha) (ob1 (hf) (qT (-1000 ≤ n) (qT (n ≤ 1000) ob0))))))) (by (simp only [tyI, tyF, Ty.enc, Ty.encs, *, decide_true, decide_false, Bool.and_true, Bool.and_false, Bool.true_and, Bool.false_and, Bool.or_true, Bool.or_false, Bool.true_or, Bool.false_or])) (by first | rfl | (simp [*]; done))
          · skip
            exact gR Tryz.func96 (rGs 7 [rS [(1, oC ho)], rS [(5, .row 0 (xE ak an av atk atv atl al)), (7, oC ha)], rG, rG, rS [(0, oC hf), (3, .bit true), (7, .bit false)]]) [.tidO 3 [none, none, some 3]] [] (.tup [.agg [I 0, I 2, .sl 3 [] false], B false]) ([]) (ob1 (ho) (qI 0 (qC0 ((xE ak an av atk atv atl al)) [] (ob1 (ha) (ob1 (hf) (qT (-1000 ≤ n) (qF (n ≤ 1000) ob0))))))) (by (simp only [tyI, tyF, Ty.enc, Ty.encs, *, decide_true, decide_false, Bool.and_true, Bool.and_false, Bool.true_and, Bool.false_and, Bool.or_true, Bool.or_false, Bool.true_or, Bool.false_or])) (by first | rfl | (simp [*]; done))
        · skip
          exact gR Tryz.func96 (rGs 7 [rS [(1, oC ho)], rS [(5, .row 0 (xE ak an av atk atv atl al)), (7, oC ha)], rG, rG, rS [(0, oC hf), (3, .bit false)]]) [.tidO 3 [none, none, some 3]] [] (.tup [.agg [I 0, I 2, .sl 3 [] false], B false]) ([]) (ob1 (ho) (qI 0 (qC0 ((xE ak an av atk atv atl al)) [] (ob1 (ha) (ob1 (hf) (qF (-1000 ≤ n) ob0)))))) (by (simp only [tyI, tyF, Ty.enc, Ty.encs, *, decide_true, decide_false, Bool.and_true, Bool.and_false, Bool.true_and, Bool.false_and, Bool.or_true, Bool.or_false, Bool.true_or, Bool.false_or])) (by first | rfl | (simp [*]; done))
      · clear hf
        simp only [decide_eq_false hk, Bool.and_false, Bool.false_eq_true, if_false]
        exact gK Tryz.func96 (rGs 7 [rS [(1, oC ho)], rS [(5, .row 0 (xE ak an av atk atv atl al)), (7, oC ha)], rS [(5, .bit true)], rG]) [.tidO 3 [none, none, some 3]] [] (ob1 (ho) (qI 0 (qC0 ((xE ak an av atk atv atl al)) [] (ob1 (ha) (qV (rk != 2) ob0)))))
theorem int_bad12 (es : List ByteArray) (ds : List Def) (mk mn mv mtk mtv : Int) (mtl : List Ty) (ml : List Expr) (sc : List Ty) (n v tk tv : Int) (tl : List Ty) (l : List Expr) (h : l.length ≠ 1) :
    IntOk ⟨es, ds, .mk mk mn mv (.mk mtk mtv mtl) ml⟩ (.mk 12 n v (.mk tk tv tl) l) sc := by
  unfold IntOk
  have ho := only_ 12 n v tk tv tl l true false false 1
  rw [only_len _ _ _ _ _ _ _ _ _ (by omega) (by omega)] at ho
  rw [show tImp ⟨es, ds, .mk mk mn mv (.mk mtk mtv mtl) ml⟩ (.mk 12 n v (.mk tk tv tl) l) sc = (tyZ, false) by
    rw [tImp.eq_def]
    match l, h with
    | [], _ => rfl
    | [_], h => exact absurd rfl h
    | _ :: _ :: _, _ => rfl]
  exact gK Tryz.func96 (rGs 7 [rS [(1, oC ho)], rG]) [.tidO 3 [none, none, some 3]] [] (ob1 (ho) ob0)
theorem int_other (es : List ByteArray) (ds : List Def) (mk mn mv mtk mtv : Int) (mtl : List Ty) (ml : List Expr) (sc : List Ty) (k n v tk tv : Int) (tl : List Ty) (l : List Expr)
    (h : k < 0 ∨ 12 < k) : IntOk ⟨es, ds, .mk mk mn mv (.mk mtk mtv mtl) ml⟩ (.mk k n v (.mk tk tv tl) l) sc := by
  unfold IntOk
  rw [show tImp ⟨es, ds, .mk mk mn mv (.mk mtk mtv mtl) ml⟩ (.mk k n v (.mk tk tv tl) l) sc = (tyZ, false) by
    rw [tImp.eq_def]
    dsimp only
    rw [if_neg (by omega), if_neg (by omega), if_neg (by omega), if_neg (by omega), if_neg (by omega), if_neg (by omega), if_neg (by omega), if_neg (by omega), if_neg (by omega), if_neg (by omega), if_neg (by omega), if_neg (by omega)]]
  exact gK Tryz.func96 [rG, rG, rG, rS [(0, .bit false)], rS [(0, .bit false)], rS [(0, .bit false)], rS [(0, .bit false)], rG] [.tidO 3 [none, none, some 3]] [] (qU (k == 9) (qU (k == 10) (qU (k == 11) (qU (k == 12) ob0))))
end Go.Ae.N
namespace Go.Ae.N
open Go.Proofs
section
variable (p : Prog) (n v : Int) (ty : Ty) (l : List Expr) (sc : List Ty)
theorem tImp_const : tImp p (.mk 0 n v ty l) sc = (tyF v, onlyC (.mk 0 n v ty l) true true false 0 && decide (1 ≤ v) && decide (v ≤ 4) && decide (0 ≤ n) && decide (n < v)) := by
 rw [tImp.eq_def]; rfl
theorem tImp_pick : tImp p (.mk 8 n v ty l) sc = (tyF v, onlyC (.mk 8 n v ty l) false true false 0 && decide (1 ≤ v) && decide (v ≤ 4)) := by
 rw [tImp.eq_def]; rfl
theorem tImp_var : tImp p (.mk 1 n v ty l) sc = (if onlyC (.mk 1 n v ty l) true false false 0 && decide (0 ≤ n) && decide (n < (sc.length : Int)) then
    (match sc[sc.length - 1 - n.toNat]? with
    | some t => (t, true)
    | none => (tyZ, false)) else (tyZ, false)) := by
 rw [tImp.eq_def]; rfl
theorem tImp_fun : tImp p (.mk 2 n v ty l) sc = (if onlyC (.mk 2 n v ty l) true false false 0 && decide (0 ≤ n) && decide (n < (p.defs.length : Int)) then
    (match p.defs[n.toNat]? with
    | some d => (.mk 1 0 [d.param, d.result], (tyC (.mk 1 0 [d.param, d.result]) 20).1)
    | none => (tyZ, false)) else (tyZ, false)) := by
 rw [tImp.eq_def]; rfl
theorem tImp_event (a : Expr) : tImp p (.mk 7 n v ty [a]) sc = if onlyC (.mk 7 n v ty [a]) true false false 1 && decide (0 ≤ n) && decide (n < (p.events.length : Int)) then tImp p a sc else (tyZ, false) := by
 rw [tImp.eq_def]; rfl
theorem tImp_event0 (h : l.length ≠ 1) : tImp p (.mk 7 n v ty l) sc = (tyZ, false) := by
 rw [tImp.eq_def]
 match l, h with
 | [], _ => rfl
 | [_], h => exact absurd rfl h
 | _ :: _ :: _, _ => rfl
theorem tImp_app (a b : Expr) : tImp p (.mk 3 n v ty [a, b]) sc = if onlyC (.mk 3 n v ty [a, b]) false false false 2 then
  (if (tImp p a sc).2 && (tImp p b sc).2 then appC (tImp p a sc).1 (tImp p b sc).1 else (tyZ, false)) else (tyZ, false) := by
 rw [tImp.eq_def]; rfl
theorem tImp_app0 (h : l.length ≠ 2) : tImp p (.mk 3 n v ty l) sc = (tyZ, false) := by
 rw [tImp.eq_def]
 match l, h with
 | [], _ => rfl
 | [_], _ => rfl
 | [_, _], h => exact absurd rfl h
 | _ :: _ :: _ :: _, _ => rfl
theorem tImp_lam (a : Expr) : tImp p (.mk 4 n v ty [a]) sc = if onlyC (.mk 4 n v ty [a]) false false true 1 && (tyC ty 20).1 then
  (if (tImp p a (sc ++ [ty])).2 && (tyC (.mk 1 0 [ty, (tImp p a (sc ++ [ty])).1]) 20).1 then (.mk 1 0 [ty, (tImp p a (sc ++ [ty])).1], true) else (tyZ, false)) else (tyZ, false) := by
 rw [tImp.eq_def]; rfl
theorem tImp_lam0 (h : l.length ≠ 1) : tImp p (.mk 4 n v ty l) sc = (tyZ, false) := by
 rw [tImp.eq_def]
 match l, h with
 | [], _ => rfl
 | [_], h => exact absurd rfl h
 | _ :: _ :: _, _ => rfl
theorem tImp_let (a b : Expr) : tImp p (.mk 5 n v ty [a, b]) sc = if onlyC (.mk 5 n v ty [a, b]) false false false 2 then
  (if (tImp p a sc).2 then tImp p b (sc ++ [(tImp p a sc).1]) else (tyZ, false)) else (tyZ, false) := by
 rw [tImp.eq_def]; rfl
theorem tImp_let0 (h : l.length ≠ 2) : tImp p (.mk 5 n v ty l) sc = (tyZ, false) := by
 rw [tImp.eq_def]
 match l, h with
 | [], _ => rfl
 | [_], _ => rfl
 | [_, _], h => exact absurd rfl h
 | _ :: _ :: _ :: _, _ => rfl
theorem tImp_case (a b : Expr) (r : List Expr) : tImp p (.mk 6 n v ty (a :: b :: r)) sc = if onlyC (.mk 6 n v ty (a :: b :: r)) false false false (-1) then
  (if (tImp p a sc).2 then (if (tImp p a sc).1.kd = 0 ∧ (tImp p a sc).1.vl = ((b :: r).length : Int) then ((tImp p b sc).1, casesC p sc (tImp p b sc).1 r (tImp p b sc).2) else (tyZ, false)) else (tyZ, false)) else (tyZ, false) := by
 have hf : ∀ f b, r.attach.foldl (fun ok c => ok && (tImp p c.1 sc).2 && decide (f = (tImp p c.1 sc).1)) b = casesC p sc f r b :=
  fun f b => List.foldl_attach (f := fun ok c => ok && (tImp p c sc).2 && decide (f = (tImp p c sc).1))
 rw [tImp.eq_def]
 dsimp only
 simp only [hf]
 generalize tImp p a sc = T
 obtain ⟨⟨k, w, m⟩, t⟩ := T
 rfl
theorem tImp_case0 (h : l.length < 2) : tImp p (.mk 6 n v ty l) sc = (tyZ, false) := by
 rw [tImp.eq_def]
 match l, h with
 | [], _ => rfl
 | [_], _ => rfl
 | _ :: _ :: _, h => exact absurd h (by simp)
theorem tImp_int : tImp p (.mk 9 n v ty l) sc = (tyI, onlyC (.mk 9 n v ty l) true false false 0 && decide (-1000 ≤ n) && decide (n ≤ 1000)) := by
 rw [tImp.eq_def]; rfl
theorem tImp_any : tImp p (.mk 10 n v ty l) sc = (tyI, onlyC (.mk 10 n v ty l) false false false 0) := by
 rw [tImp.eq_def]; rfl
theorem tImp_add (a : Expr) : tImp p (.mk 11 n v ty [a]) sc = if onlyC (.mk 11 n v ty [a]) true false false 1 then addC 11 n (tImp p a sc) else (tyZ, false) := by
 rw [tImp.eq_def]; rfl
theorem tImp_less (a : Expr) : tImp p (.mk 12 n v ty [a]) sc = if onlyC (.mk 12 n v ty [a]) true false false 1 then addC 12 n (tImp p a sc) else (tyZ, false) := by
 rw [tImp.eq_def]; rfl
theorem tImp_add0 (h : l.length ≠ 1) : tImp p (.mk 11 n v ty l) sc = (tyZ, false) := by
 rw [tImp.eq_def]
 match l, h with
 | [], _ => rfl
 | [_], h => exact absurd rfl h
 | _ :: _ :: _, _ => rfl
theorem tImp_less0 (h : l.length ≠ 1) : tImp p (.mk 12 n v ty l) sc = (tyZ, false) := by
 rw [tImp.eq_def]
 match l, h with
 | [], _ => rfl
 | [_], h => exact absurd rfl h
 | _ :: _ :: _, _ => rfl
theorem tImp_other (k : Int) (h : k < 0 ∨ 12 < k) : tImp p (.mk k n v ty l) sc = (tyZ, false) := by
 rw [tImp.eq_def]
 dsimp only
 rw [if_neg (by omega), if_neg (by omega), if_neg (by omega), if_neg (by omega), if_neg (by omega), if_neg (by omega), if_neg (by omega), if_neg (by omega), if_neg (by omega), if_neg (by omega), if_neg (by omega), if_neg (by omega)]
end
theorem kind9 (k : Int) : k = 0 ∨ k = 1 ∨ k = 2 ∨ k = 3 ∨ k = 4 ∨ k = 5 ∨ k = 6 ∨ k = 7 ∨ k = 8 ∨ (k < 0 ∨ 8 < k) := by omega
theorem kindI {k : Int} (h : k < 0 ∨ 8 < k) : k = 9 ∨ k = 10 ∨ k = 11 ∨ k = 12 ∨ (k < 0 ∨ 12 < k) := by omega
theorem len1 {α : Type} {l : List α} (h : l.length = 1) : ∃ a, l = [a] := by
 match l, h with
 | [a], _ => exact ⟨a, rfl⟩
theorem len2 {α : Type} {l : List α} (h : l.length = 2) : ∃ a b, l = [a, b] := by
 match l, h with
 | [a, b], _ => exact ⟨a, b, rfl⟩
def _root_.Go.Ae.Ty.VI (t : Ty) : Prop := (tyC t 20).1 = true
mutual
theorem tyC_mono : ∀ (t : Ty) (n m : Int), n ≤ m → (tyC t n).1 = true → (tyC t m).1 = true ∧ (tyC t n).2 - n = (tyC t m).2 - m
 | .mk k v l, n, m, h, ht => by
  simp only [tyC] at ht ⊢
  split at ht
  ·simp at ht
  ·rw [if_neg (by omega)]
   rename_i h1
   rw [if_neg h1]
   split
   ·rename_i hk
    rw [if_pos hk] at ht
    exact ⟨ht, by simp; omega⟩
   ·rename_i hk
    rw [if_neg hk] at ht
    split
    ·rename_i hk1
     rw [if_pos hk1] at ht
     split at ht
     ·rename_i h2
      rw [if_pos h2, if_pos h2]
      have := tyCs_mono l (n - 1) (m - 1) (by omega) ht
      exact ⟨this.1, by omega⟩
     ·simp at ht
    ·rename_i hk1
     rw [if_neg hk1] at ht
     split
     ·rename_i hk2
      rw [if_pos hk2] at ht
      exact ⟨ht, by simp only [if_neg hk1, if_pos hk2]; omega⟩
     ·rename_i hk2
      rw [if_neg hk2] at ht
      simp at ht
theorem tyCs_mono : ∀ (l : List Ty) (n m : Int), n ≤ m → (tyCs l n).1 = true → (tyCs l m).1 = true ∧ (tyCs l n).2 - n = (tyCs l m).2 - m
 | [], n, m, _, _ => by simp [tyCs]
 | t :: l, n, m, h, ht => by
  simp only [tyCs] at ht ⊢
  split at ht
  ·rename_i h1
   have h2 := tyC_mono t n m h h1
   rw [if_pos h1, if_pos h2.1]
   have h3 := tyCs_mono l (tyC t n).2 (tyC t m).2 (by omega) ht
   exact ⟨h3.1, by omega⟩
  ·simp at ht
end
theorem V_two {k v : Int} {l : List Ty} (h : (Ty.mk k v l).VI) (hk : k = 1) : ∃ a b, l = [a, b] ∧ a.VI ∧ b.VI ∧ v = 0 := by
 subst hk
 unfold Ty.VI at h ⊢
 simp only [tyC, show ¬ ((20 : Int) - 1 < 0) by omega, show ¬ ((1 : Int) = 0) by omega, if_false, if_true] at h
 split at h
 ·rename_i h2
  obtain ⟨hv, hl⟩ := h2
  match l, hl with
  | [a, b], _ =>
   simp only [tyCs] at h
   split at h
   ·rename_i ha
    split at h
    ·rename_i hb
     have hbd := tyC_bound a (20 - 1) (by omega)
     exact ⟨a, b, rfl, (tyC_mono a (20 - 1) 20 (by omega) ha).1, (tyC_mono b _ 20 (by omega) hb).1, hv⟩
    ·simp at h
   ·simp at h
 ·simp at h
theorem V_fin {k : Int} (h1 : 1 ≤ k) (h2 : k ≤ 4) : (tyF k).VI := by
 unfold Ty.VI tyF
 simp [tyC, h1, h2]
theorem V_int : tyI.VI := by
 unfold Ty.VI tyI
 simp [tyC]
theorem V_kd2 {k v : Int} {l : List Ty} (h : (Ty.mk k v l).VI) (hk : k = 2) : v = 0 ∧ l = [] := by
 subst hk
 unfold Ty.VI at h
 simpa [tyC] using h
theorem addC_true {k n : Int} {x : Ty × Bool} (h : (addC k n x).2 = true) : x.2 = true ∧ x.1.kd = 2 ∧ (k = 11 → addC k n x = (tyI, decide (n = 1) || decide (n = -1))) ∧ (k ≠ 11 → addC k n x = (tyF 2, decide (-1000 ≤ n) && decide (n ≤ 1000))) := by
 obtain ⟨⟨xk, xv, xl⟩, b⟩ := x
 simp only [addC] at h ⊢
 split at h
 ·rename_i h1
  simp only [Bool.and_eq_true, decide_eq_true_eq] at h1
  refine ⟨h1.1, h1.2, fun e => ?_, fun e => ?_⟩
  ·simp [h1.1, h1.2, e]
  ·simp [h1.1, h1.2, e]
 ·simp at h
theorem V_kd0 {k v : Int} {l : List Ty} (h : (Ty.mk k v l).VI) (hk : k = 0) : 1 ≤ v ∧ v ≤ 4 ∧ l = [] := by
 subst hk
 unfold Ty.VI at h
 simpa [tyC, and_assoc] using h
theorem appC_V {f x : Ty} (hf : f.VI) (h : (appC f x).2 = true) : (appC f x).1.VI ∧ ∃ t u, f = .mk 1 0 [t, u] ∧ t = x ∧ (appC f x).1 = u := by
 obtain ⟨k, v, l⟩ := f
 by_cases hk : k = 1
 ·obtain ⟨a, b, rfl, ha, hb, rfl⟩ := V_two hf hk
  subst hk
  rw [appC_two] at h ⊢
  split
  ·rename_i e
   exact ⟨hb, a, b, rfl, e, rfl⟩
  ·rename_i e
   rw [if_neg e] at h
   simp at h
 ·rw [appC_ne hk] at h
  simp at h
theorem casesC_true {p : Prog} {sc : List Ty} {f : Ty} : ∀ {r : List Expr} {b : Bool}, casesC p sc f r b = true → b = true ∧ ∀ c ∈ r, (tImp p c sc).2 = true ∧ f = (tImp p c sc).1
 | [], b, h => ⟨h, by simp⟩
 | c :: r, b, h => by
  have h' : casesC p sc f r (b && (tImp p c sc).2 && decide (f = (tImp p c sc).1)) = true := h
  obtain ⟨h1, h2⟩ := casesC_true h'
  simp only [Bool.and_eq_true, decide_eq_true_eq] at h1
  exact ⟨h1.1.1, fun x hx => by
   rcases List.mem_cons.1 hx with rfl | hx
   ·exact ⟨h1.1.2, h1.2⟩
   ·exact h2 x hx⟩
theorem tImp_V (p : Prog) (hd : ∀ d ∈ p.defs, d.param.VI ∧ d.result.VI) : ∀ (e : Expr) (sc : List Ty), (∀ t ∈ sc, t.VI) → (tImp p e sc).2 = true → (tImp p e sc).1.VI := by
 intro e
 induction e using Expr.sind with
 | _ k n v ty l ih =>
  intro sc hs h
  rcases kind9 k with rfl | rfl | rfl | rfl | rfl | rfl | rfl | rfl | rfl | hk
  ·rw [tImp_const] at h ⊢
   simp only [Bool.and_eq_true, decide_eq_true_eq] at h
   exact V_fin h.1.1.1.2 h.1.1.2
  ·rw [tImp_var] at h ⊢
   split
   ·rename_i h1
    rw [if_pos h1] at h
    split
    ·rename_i t ht
     exact hs t (List.mem_of_getElem? ht)
    ·rename_i ht
     rw [ht] at h
     simp at h
   ·rename_i h1
    rw [if_neg h1] at h
    simp at h
  ·rw [tImp_fun] at h ⊢
   split
   ·rename_i h1
    rw [if_pos h1] at h
    split
    ·rename_i t ht
     rw [ht] at h
     exact h
    ·rename_i ht
     rw [ht] at h
     simp at h
   ·rename_i h1
    rw [if_neg h1] at h
    simp at h
  ·by_cases hl : l.length = 2
   ·obtain ⟨a, b, rfl⟩ := len2 hl
    ·have iha := ih a (by simp)
     have ihb := ih b (by simp)
     rw [tImp_app] at h ⊢
     split
     ·rename_i h1
      rw [if_pos h1] at h
      split
      ·rename_i h2
       rw [if_pos h2] at h
       simp only [Bool.and_eq_true] at h2
       exact (appC_V (iha sc hs h2.1) h).1
      ·rename_i h2
       rw [if_neg h2] at h
       simp at h
     ·rename_i h1
      rw [if_neg h1] at h
      simp at h
   ·rw [tImp_app0 _ _ _ _ _ _ hl] at h
    simp at h
  ·by_cases hl : l.length = 1
   ·obtain ⟨a, rfl⟩ := len1 hl
    ·have iha := ih a (by simp)
     rw [tImp_lam] at h ⊢
     split
     ·rename_i h1
      rw [if_pos h1] at h
      split
      ·rename_i h2
       simp only [Bool.and_eq_true] at h2
       exact h2.2
      ·rename_i h2
       rw [if_neg h2] at h
       simp at h
     ·rename_i h1
      rw [if_neg h1] at h
      simp at h
   ·rw [tImp_lam0 _ _ _ _ _ _ hl] at h
    simp at h
  ·by_cases hl : l.length = 2
   ·obtain ⟨a, b, rfl⟩ := len2 hl
    ·have iha := ih a (by simp)
     have ihb := ih b (by simp)
     rw [tImp_let] at h ⊢
     split
     ·rename_i h1
      rw [if_pos h1] at h
      split
      ·rename_i h2
       rw [if_pos h2] at h
       exact ihb _ (fun t ht => by
        rcases List.mem_append.1 ht with ht | ht
        ·exact hs t ht
        ·simp only [List.mem_singleton] at ht
         rw [ht]
         exact iha sc hs h2) h
      ·rename_i h2
       rw [if_neg h2] at h
       simp at h
     ·rename_i h1
      rw [if_neg h1] at h
      simp at h
   ·rw [tImp_let0 _ _ _ _ _ _ hl] at h
    simp at h
  ·rcases l with _ | ⟨a, _ | ⟨b, r⟩⟩
   ·rw [tImp_case0 _ _ _ _ _ _ (by simp)] at h; simp at h
   ·rw [tImp_case0 _ _ _ _ _ _ (by simp)] at h; simp at h
   ·have ihb := ih b (by simp)
    rw [tImp_case] at h ⊢
    split
    ·rename_i h1
     rw [if_pos h1] at h
     split
     ·rename_i h2
      rw [if_pos h2] at h
      split
      ·rename_i h3
       rw [if_pos h3] at h
       exact ihb sc hs (casesC_true h).1
      ·rename_i h3
       rw [if_neg h3] at h
       simp at h
     ·rename_i h2
      rw [if_neg h2] at h
      simp at h
    ·rename_i h1
     rw [if_neg h1] at h
     simp at h
  ·by_cases hl : l.length = 1
   ·obtain ⟨a, rfl⟩ := len1 hl
    ·have iha := ih a (by simp)
     rw [tImp_event] at h ⊢
     split
     ·rename_i h1
      rw [if_pos h1] at h
      exact iha sc hs h
     ·rename_i h1
      rw [if_neg h1] at h
      simp at h
   ·rw [tImp_event0 _ _ _ _ _ _ hl] at h
    simp at h
  ·rw [tImp_pick] at h ⊢
   simp only [Bool.and_eq_true, decide_eq_true_eq] at h
   exact V_fin h.1.2 h.2
  ·rcases kindI hk with rfl | rfl | rfl | rfl | hk
   ·rw [tImp_int]; exact V_int
   ·rw [tImp_any]; exact V_int
   ·by_cases hl : l.length = 1
    ·obtain ⟨a, rfl⟩ := len1 hl
     rw [tImp_add] at h ⊢
     split at h
     ·rename_i h1
      rw [if_pos h1, (addC_true h).2.2.1 rfl]
      exact V_int
     ·simp at h
    ·rw [tImp_add0 _ _ _ _ _ _ hl] at h; simp at h
   ·by_cases hl : l.length = 1
    ·obtain ⟨a, rfl⟩ := len1 hl
     rw [tImp_less] at h ⊢
     split at h
     ·rename_i h1
      rw [if_pos h1, (addC_true h).2.2.2 (by omega)]
      exact V_fin (by omega) (by omega)
     ·simp at h
    ·rw [tImp_less0 _ _ _ _ _ _ hl] at h; simp at h
   ·rw [tImp_other _ _ _ _ _ _ _ hk] at h
    simp at h
end Go.Ae.N
namespace Go.Ae.N
open Go.Proofs
theorem tyZ_ok : tyZ.ok := ⟨by unfold ir; omega, by unfold ir; omega, by simp, trivial⟩
theorem appC_ok {f x : Ty} (hf : f.ok) : (appC f x).1.ok := by
 unfold appC
 split
 ·rename_i fk fv t u l
  split
  ·exact (Ty.oks_mem hf.2.2.2 u (by simp))
  ·exact tyZ_ok
 ·exact tyZ_ok
theorem fun_ok {a b : Ty} (ha : a.ok) (hb : b.ok) : (Ty.mk 1 0 [a, b]).ok := ⟨by unfold ir; omega, by unfold ir; omega, by simp, ha, hb, trivial⟩
theorem tImp_ok (p : Prog) (hd : ∀ d ∈ p.defs, d.ok) : ∀ (e : Expr) (sc : List Ty), e.ok → (∀ t ∈ sc, t.ok) → (tImp p e sc).1.ok := by
 intro e
 induction e using Expr.sind with
 | _ k n v ty l ih =>
  intro sc he hs
  have hl := Expr.oks_mem he.2.2.2.2.2
  have hv : (tyF v).ok := ⟨by unfold ir; omega, he.2.2.1, by simp, trivial⟩
  rcases kind9 k with rfl | rfl | rfl | rfl | rfl | rfl | rfl | rfl | rfl | hk
  ·rw [tImp_const]; exact hv
  ·rw [tImp_var]
   split
   ·split
    ·rename_i t ht
     exact hs t (List.mem_of_getElem? ht)
    ·exact tyZ_ok
   ·exact tyZ_ok
  ·rw [tImp_fun]
   split
   ·split
    ·rename_i t ht
     have := hd t (List.mem_of_getElem? ht)
     exact fun_ok this.2.1 this.2.2.1
    ·exact tyZ_ok
   ·exact tyZ_ok
  ·by_cases h2 : l.length = 2
   ·obtain ⟨a, b, rfl⟩ := len2 h2
    rw [tImp_app]
    split
    ·split
     ·exact appC_ok (ih a (by simp) sc (hl a (by simp)) hs)
     ·exact tyZ_ok
    ·exact tyZ_ok
   ·rw [tImp_app0 _ _ _ _ _ _ h2]; exact tyZ_ok
  ·by_cases h2 : l.length = 1
   ·obtain ⟨a, rfl⟩ := len1 h2
    rw [tImp_lam]
    split
    ·split
     ·refine fun_ok he.2.2.2.1 (ih a (by simp) _ (hl a (by simp)) fun t ht => ?_)
      rcases List.mem_append.1 ht with ht | ht
      ·exact hs t ht
      ·simp only [List.mem_singleton] at ht; rw [ht]; exact he.2.2.2.1
     ·exact tyZ_ok
    ·exact tyZ_ok
   ·rw [tImp_lam0 _ _ _ _ _ _ h2]; exact tyZ_ok
  ·by_cases h2 : l.length = 2
   ·obtain ⟨a, b, rfl⟩ := len2 h2
    rw [tImp_let]
    split
    ·split
     ·refine ih b (by simp) _ (hl b (by simp)) fun t ht => ?_
      rcases List.mem_append.1 ht with ht | ht
      ·exact hs t ht
      ·simp only [List.mem_singleton] at ht; rw [ht]; exact ih a (by simp) sc (hl a (by simp)) hs
     ·exact tyZ_ok
    ·exact tyZ_ok
   ·rw [tImp_let0 _ _ _ _ _ _ h2]; exact tyZ_ok
  ·rcases l with _ | ⟨a, _ | ⟨b, r⟩⟩
   ·rw [tImp_case0 _ _ _ _ _ _ (by simp)]; exact tyZ_ok
   ·rw [tImp_case0 _ _ _ _ _ _ (by simp)]; exact tyZ_ok
   ·rw [tImp_case]
    split
    ·split
     ·split
      ·exact ih b (by simp) sc (hl b (by simp)) hs
      ·exact tyZ_ok
     ·exact tyZ_ok
    ·exact tyZ_ok
  ·by_cases h2 : l.length = 1
   ·obtain ⟨a, rfl⟩ := len1 h2
    rw [tImp_event]
    split
    ·exact ih a (by simp) sc (hl a (by simp)) hs
    ·exact tyZ_ok
   ·rw [tImp_event0 _ _ _ _ _ _ h2]; exact tyZ_ok
  ·rw [tImp_pick]; exact hv
  ·have hI : tyI.ok := ⟨by unfold ir; omega, by unfold ir; omega, by simp, trivial⟩
   have hF : (tyF 2).ok := ⟨by unfold ir; omega, by unfold ir; omega, by simp, trivial⟩
   have hA : ∀ k x, (addC k n x).1.ok := fun k x => by
    obtain ⟨⟨xk, xv, xl⟩, b⟩ := x
    simp only [addC]
    split
    ·split
     ·exact hI
     ·exact hF
    ·exact tyZ_ok
   rcases kindI hk with rfl | rfl | rfl | rfl | hk
   ·rw [tImp_int]; exact hI
   ·rw [tImp_any]; exact hI
   ·by_cases h2 : l.length = 1
    ·obtain ⟨a, rfl⟩ := len1 h2
     rw [tImp_add]
     split
     ·exact hA _ _
     ·exact tyZ_ok
    ·rw [tImp_add0 _ _ _ _ _ _ h2]; exact tyZ_ok
   ·by_cases h2 : l.length = 1
    ·obtain ⟨a, rfl⟩ := len1 h2
     rw [tImp_less]
     split
     ·exact hA _ _
     ·exact tyZ_ok
    ·rw [tImp_less0 _ _ _ _ _ _ h2]; exact tyZ_ok
   ·rw [tImp_other _ _ _ _ _ _ _ hk]; exact tyZ_ok
theorem szCs_mem : ∀ (l : List Expr) (d n : Int), 0 ≤ n → (szCs l d n).1 = true → (l.length : Int) ≤ n ∧ ∀ x ∈ l, ∃ n', 0 ≤ n' ∧ n' ≤ n ∧ (szC x d n').1 = true
 | [], d, n, h, _ => ⟨by simpa using h, by simp⟩
 | x :: l, d, n, h, ht => by
  rw [szCs_cons] at ht
  split at ht
  ·rename_i h1
   have hb := szC_bound x d n h
   obtain ⟨k1, k2⟩ := szCs_mem l d _ (hb.2.2 h1) ht
   have hlt : (szC x d n).2 ≤ n - 1 := by
    obtain ⟨k, a, b, c, m⟩ := x
    rw [szC] at h1 ⊢
    split at h1
    ·simp at h1
    ·rename_i h3
     rw [if_neg h3]
     split at h1
     ·simp at h1
     ·rename_i h4
      rw [if_neg h4]
      exact (szCs_bound m (d - 1) (n - 1) (by omega)).2.1
   refine ⟨by simp only [List.length_cons, Int.natCast_add]; omega, fun y hy => ?_⟩
   rcases List.mem_cons.1 hy with rfl | hy
   ·exact ⟨n, h, Int.le_refl n, h1⟩
   ·obtain ⟨n', q1, q2, q3⟩ := k2 y hy
    exact ⟨n', q1, by omega, q3⟩
  ·simp at ht
theorem szC_true {k n v d m : Int} {ty : Ty} {l : List Expr} (h : (szC (.mk k n v ty l) d m).1 = true) : 1 ≤ m ∧ d ≠ 0 ∧ (szCs l (d - 1) (m - 1)).1 = true := by
 rw [szC] at h
 split at h
 ·simp at h
 ·split at h
  ·simp at h
  ·exact ⟨by omega, by assumption, h⟩
theorem type_all (es : List ByteArray) (ds : List Def) (mk mn mv mtk mtv : Int) (mtl : List Ty) (ml : List Expr) (hes : es.length ≤ 1000) (hds : ds.length ≤ 1000) (hd : ∀ d ∈ ds, d.ok ∧ d.param.VI ∧ d.result.VI) :
  ∀ (e : Expr) (sc : List Ty) (d m : Int), e.ok → (szC e d m).1 = true → 0 ≤ d → m ≤ 1000 → d + sc.length ≤ 1000 → (∀ t ∈ sc, t.ok ∧ t.VI) → TypeOk ⟨es, ds, .mk mk mn mv (.mk mtk mtv mtl) ml⟩ e sc := by
 intro e
 induction e using Expr.sind with
 | _ k n v ty l ih =>
  intro sc d m he hz hd0 hm hsc hs
  obtain ⟨tk, tv, tl⟩ := ty
  have hl := Expr.oks_mem he.2.2.2.2.2
  obtain ⟨hm1, hd1, hz1⟩ := szC_true hz
  obtain ⟨hlen, hmem⟩ := szCs_mem l (d - 1) (m - 1) (by omega) hz1
  have hV := fun (e : Expr) (sc : List Ty) => tImp_V ⟨es, ds, .mk mk mn mv (.mk mtk mtv mtl) ml⟩ (fun d h => (hd d h).2) e sc
  have hO := fun (e : Expr) (sc : List Ty) => tImp_ok ⟨es, ds, .mk mk mn mv (.mk mtk mtv mtl) ml⟩ (fun d h => (hd d h).1) e sc
  have rec1 : ∀ x ∈ l, ∀ sc', (sc'.length : Int) ≤ sc.length + 1 → (∀ t ∈ sc', t.ok ∧ t.VI) → TypeOk ⟨es, ds, .mk mk mn mv (.mk mtk mtv mtl) ml⟩ x sc' := fun x hx sc' h1 h2 => by
   obtain ⟨n', q1, q2, q3⟩ := hmem x hx
   exact ih x hx sc' (d - 1) n' (hl x hx) q3 (by omega) (by omega) (by omega) h2
  rcases kind9 k with rfl | rfl | rfl | rfl | rfl | rfl | rfl | rfl | rfl | hk
  ·have := type_const es ds mk mn mv mtk mtv mtl ml sc n v tk tv tl l
   unfold TypeOk; rw [tImp_const]; exact this
  ·exact type_var es ds mk mn mv mtk mtv mtl ml sc n v tk tv tl l (by omega)
  ·exact type_fun es ds mk mn mv mtk mtv mtl ml sc n v tk tv tl l hds (fun d h => (hd d h).1)
  ·refine type_comp _ _ _ _ _ _ _ _ _ _ _ _ _ _ _ _ _ (by omega) ?_
   by_cases h2 : l.length = 2
   ·obtain ⟨⟨ak, an, av, ⟨atk, atv, atl⟩, al⟩, ⟨bk, bn, bv, ⟨btk, btv, btl⟩, bl⟩, rfl⟩ := len2 h2
    refine comp_app _ _ _ _ _ _ _ _ _ _ _ _ _ _ _ _ _ _ _ _ _ _ _ _ _ _ _ _ _ (rec1 _ (by simp) sc (by omega) hs) (rec1 _ (by simp) sc (by omega) hs) fun h => ?_
    have v1 := hV _ sc (fun t ht => (hs t ht).2) h
    have o1 := hO (.mk ak an av (.mk atk atv atl) al) sc (hl _ (by simp)) (fun t ht => (hs t ht).1)
    generalize (tImp ⟨es, ds, .mk mk mn mv (.mk mtk mtv mtl) ml⟩ (.mk ak an av (.mk atk atv atl) al) sc).1 = T at v1 o1
    obtain ⟨k, w, l⟩ := T
    refine ⟨k, w, l, rfl, fun hk => ?_⟩
    obtain ⟨a, b, rfl, _, _, _⟩ := V_two v1 hk
    exact ⟨a, b, rfl, Ty.oks_mem o1.2.2.2 a (by simp)⟩
   ·exact comp_bad _ _ _ _ _ _ _ _ _ _ _ _ _ _ _ _ _ ⟨.inl rfl, h2⟩
  ·refine type_comp _ _ _ _ _ _ _ _ _ _ _ _ _ _ _ _ _ (by omega) ?_
   by_cases h2 : l.length = 1
   ·obtain ⟨⟨ak, an, av, ⟨atk, atv, atl⟩, al⟩, rfl⟩ := len1 h2
    by_cases hv1 : (Ty.mk tk tv tl).VI
    ·have hs' : ∀ t ∈ sc ++ [Ty.mk tk tv tl], t.ok ∧ t.VI := fun t ht => by
      rcases List.mem_append.1 ht with ht | ht
      ·exact hs t ht
      ·simp only [List.mem_singleton] at ht; rw [ht]; exact ⟨he.2.2.2.1, hv1⟩
     exact comp_lam _ _ _ _ _ _ _ _ _ _ _ _ _ _ _ _ _ _ _ _ _ _ (by omega) he.2.2.2.1 (rec1 _ (by simp) _ (by simp) hs')
      (hO _ _ (hl _ (by simp)) (fun t ht => (hs' t ht).1))
    ·exact comp_lam1 _ _ _ _ _ _ _ _ _ _ _ _ _ _ _ _ _ _ _ _ _ _ he.2.2.2.1 hv1
   ·exact comp_bad_lam _ _ _ _ _ _ _ _ _ _ _ _ _ _ _ _ h2
  ·refine type_comp _ _ _ _ _ _ _ _ _ _ _ _ _ _ _ _ _ (by omega) ?_
   by_cases h2 : l.length = 2
   ·obtain ⟨⟨ak, an, av, ⟨atk, atv, atl⟩, al⟩, ⟨bk, bn, bv, ⟨btk, btv, btl⟩, bl⟩, rfl⟩ := len2 h2
    refine comp_let _ _ _ _ _ _ _ _ _ _ _ _ _ _ _ _ _ _ _ _ _ _ _ _ _ _ _ _ _ (by omega) (rec1 _ (by simp) sc (by omega) hs) fun t ht => ?_
    refine rec1 _ (by simp) _ (by simp) fun u hu => ?_
    rcases List.mem_append.1 hu with hu | hu
    ·exact hs u hu
    ·simp only [List.mem_singleton] at hu
     rw [hu]
     have v1 := hV (.mk ak an av (.mk atk atv atl) al) sc (fun t ht => (hs t ht).2) (by rw [ht])
     have o1 := hO (.mk ak an av (.mk atk atv atl) al) sc (hl _ (by simp)) (fun t ht => (hs t ht).1)
     rw [ht] at v1 o1
     exact ⟨o1, v1⟩
   ·exact comp_bad _ _ _ _ _ _ _ _ _ _ _ _ _ _ _ _ _ ⟨.inr rfl, h2⟩
  ·refine type_comp _ _ _ _ _ _ _ _ _ _ _ _ _ _ _ _ _ (by omega) ?_
   rcases l with _ | ⟨⟨ak, an, av, ⟨atk, atv, atl⟩, al⟩, _ | ⟨⟨bk, bn, bv, ⟨btk, btv, btl⟩, bl⟩, r⟩⟩
   ·exact comp_bad_case _ _ _ _ _ _ _ _ _ _ _ _ _ _ _ _ (by simp)
   ·exact comp_bad_case _ _ _ _ _ _ _ _ _ _ _ _ _ _ _ _ (by simp)
   ·exact comp_case _ _ _ _ _ _ _ _ _ _ _ _ _ _ _ _ _ _ _ _ _ _ _ _ _ _ _ _ _ _ (by simp at hlen; omega) (rec1 _ (by simp) sc (by omega) hs) (rec1 _ (by simp) sc (by omega) hs)
     (fun x hx => rec1 _ (by simp [hx]) sc (by omega) hs) (hO _ _ (hl _ (by simp)) (fun t ht => (hs t ht).1))
  ·by_cases h2 : l.length = 1
   ·obtain ⟨⟨ak, an, av, ⟨atk, atv, atl⟩, al⟩, rfl⟩ := len1 h2
    exact type_event1 _ _ _ _ _ _ _ _ _ _ _ _ _ _ _ _ _ _ _ _ _ _ hes (rec1 _ (by simp) sc (by omega) hs)
   ·exact type_event0 _ _ _ _ _ _ _ _ _ _ _ _ _ _ _ _ h2
  ·have := type_pick es ds mk mn mv mtk mtv mtl ml sc n v tk tv tl l
   unfold TypeOk; rw [tImp_pick]; exact this
  ·refine type_integer _ _ _ _ _ _ _ _ _ _ _ _ _ _ _ _ _ hk ?_
   rcases kindI hk with rfl | rfl | rfl | rfl | hk
   ·exact int_int _ _ _ _ _ _ _ _ _ _ _ _ _ _ _ _
   ·exact int_any _ _ _ _ _ _ _ _ _ _ _ _ _ _ _ _
   ·by_cases h2 : l.length = 1
    ·obtain ⟨⟨ak, an, av, ⟨atk, atv, atl⟩, al⟩, rfl⟩ := len1 h2
     exact int_add11 _ _ _ _ _ _ _ _ _ _ _ _ _ _ _ _ _ _ _ _ _ _ (rec1 _ (by simp) sc (by omega) hs)
    ·exact int_bad11 _ _ _ _ _ _ _ _ _ _ _ _ _ _ _ _ h2
   ·by_cases h2 : l.length = 1
    ·obtain ⟨⟨ak, an, av, ⟨atk, atv, atl⟩, al⟩, rfl⟩ := len1 h2
     exact int_add12 _ _ _ _ _ _ _ _ _ _ _ _ _ _ _ _ _ _ _ _ _ _ (rec1 _ (by simp) sc (by omega) hs)
    ·exact int_bad12 _ _ _ _ _ _ _ _ _ _ _ _ _ _ _ _ h2
   ·exact int_other _ _ _ _ _ _ _ _ _ _ _ _ _ _ _ _ _ hk
end Go.Ae.N
namespace Go.Ae.N
open Go.Proofs
abbrev lists (ch is : List Int) (ui used width : Int) : AObj := .cells [.sl 1 (ints ch) false, .sl 1 (ints is) false, I used, I ui, I width] []
end Go.Ae.N
namespace Go.Ae.N
structure MS where
 steps : Int
 ev : List Int
 fr : List Fr
 expr : Option Expr
 env : List Vl
 val : Vl
 used : Nat
 ui : Nat
inductive Out where
 | go (s : MS)
 | stop (s : MS) (en value width : Int) (wrong : Bool)
theorem nodes_mem : ∀ {l : List Expr} {x : Expr}, x ∈ l → x.nodes ≤ Expr.nodesL l
 | y :: l, x, h => by
  rcases List.mem_cons.1 h with rfl | h
  ·simp only [Expr.nodesL]; omega
  ·have := nodes_mem h; simp only [Expr.nodesL]; omega
theorem nodes_pos : ∀ e : Expr, 1 ≤ e.nodes
 | .mk _ _ _ _ l => by simp only [Expr.nodes]; omega
theorem nodesL_len : ∀ l : List Expr, l.length ≤ Expr.nodesL l
 | [] => by simp
 | e :: l => by have := nodesL_len l; have := nodes_pos e; simp only [Expr.nodesL, List.length_cons]; omega
inductive Mv (p : Prog) (fuel : Int) (ch is : List Int) : MS → Out → Prop
 | const {st ev fr n v ty l env val us ui} : Mv p fuel ch is ⟨st, ev, fr, some (.mk 0 n v ty l), env, val, us, ui⟩ (.go ⟨st, ev, fr, none, [], .mk n 0 none [], us, ui⟩)
 | var {st ev fr} {n : Nat} {v ty l env val us ui w} (h : env[n]? = some w) (hn : n ≤ 9223372036854775807) :
   Mv p fuel ch is ⟨st, ev, fr, some (.mk 1 (n : Int) v ty l), env, val, us, ui⟩ (.go ⟨st, ev, fr, none, [], w, us, ui⟩)
 | fn {st ev fr n v ty l env val us ui} (h0 : 0 ≤ n) (h1 : n ≤ 100000) : Mv p fuel ch is ⟨st, ev, fr, some (.mk 2 n v ty l), env, val, us, ui⟩ (.go ⟨st, ev, fr, none, [], .mk 0 (n + 1) none [], us, ui⟩)
 | lam {st ev fr n v ty l env val us ui} : Mv p fuel ch is ⟨st, ev, fr, some (.mk 4 n v ty l), env, val, us, ui⟩ (.go ⟨st, ev, fr, none, [], .mk 0 0 (some (.mk 4 n v ty l)) env, us, ui⟩)
 | app {st ev fr n v ty a l env val us ui} (hl : l.length ≤ 1000) : Mv p fuel ch is ⟨st, ev, fr, some (.mk 3 n v ty (a :: l)), env, val, us, ui⟩ (.go ⟨st, ev, ⟨0, some (.mk 3 n v ty (a :: l)), env, vZ⟩ :: fr, some a, env, val, us, ui⟩)
 | lt {st ev fr n v ty a l env val us ui} (hl : l.length ≤ 1000) : Mv p fuel ch is ⟨st, ev, fr, some (.mk 5 n v ty (a :: l)), env, val, us, ui⟩ (.go ⟨st, ev, ⟨2, some (.mk 5 n v ty (a :: l)), env, vZ⟩ :: fr, some a, env, val, us, ui⟩)
 | cs {st ev fr n v ty a l env val us ui} (hl : l.length ≤ 1000) : Mv p fuel ch is ⟨st, ev, fr, some (.mk 6 n v ty (a :: l)), env, val, us, ui⟩ (.go ⟨st, ev, ⟨3, some (.mk 6 n v ty (a :: l)), env, vZ⟩ :: fr, some a, env, val, us, ui⟩)
 | more {st ev fr k n v ty l env val us ui} (hk : k = 7 ∨ k = 8 ∨ k = 10) (hf : fuel ≤ st) : Mv p fuel ch is ⟨st, ev, fr, some (.mk k n v ty l), env, val, us, ui⟩ (.stop ⟨st, ev, fr, some (.mk k n v ty l), env, val, us, ui⟩ 1 0 0 false)
 | want {st ev fr n v ty l env val us ui} (hf : st < fuel) (hu : us = ch.length) : Mv p fuel ch is ⟨st, ev, fr, some (.mk 8 n v ty l), env, val, us, ui⟩ (.stop ⟨st, ev, fr, some (.mk 8 n v ty l), env, val, us, ui⟩ 2 0 v false)
 | wrong {st ev fr n v ty l env val us ui c} (hf : st < fuel) (hc : ch[us]? = some c) (hw : c < 0 ∨ v ≤ c) : Mv p fuel ch is ⟨st, ev, fr, some (.mk 8 n v ty l), env, val, us, ui⟩ (.stop ⟨st, ev, fr, some (.mk 8 n v ty l), env, val, us, ui⟩ 0 0 0 true)
 | fine {st ev fr n v ty l env val us ui c} (hf : st < fuel) (hc : ch[us]? = some c) (h0 : 0 ≤ c) (h1 : c < v) : Mv p fuel ch is ⟨st, ev, fr, some (.mk 8 n v ty l), env, val, us, ui⟩ (.go ⟨st + 1, ev, fr, none, [], .mk c 0 none [], us + 1, ui⟩)
 | full {st ev fr n v ty l env val us ui} (hf : st < fuel) (he : 4096 ≤ ev.length) : Mv p fuel ch is ⟨st, ev, fr, some (.mk 7 n v ty l), env, val, us, ui⟩ (.stop ⟨st, ev, fr, some (.mk 7 n v ty l), env, val, us, ui⟩ 1 0 0 false)
 | event {st ev fr n v ty a l env val us ui} (hf : st < fuel) (he : ev.length < 4096) (hl : l.length ≤ 1000) : Mv p fuel ch is ⟨st, ev, fr, some (.mk 7 n v ty (a :: l)), env, val, us, ui⟩ (.go ⟨st + 1, ev ++ [n], fr, some a, env, val, us, ui⟩)
 | int {st ev fr n v ty l env val us ui} : Mv p fuel ch is ⟨st, ev, fr, some (.mk 9 n v ty l), env, val, us, ui⟩ (.go ⟨st, ev, fr, none, [], .mk n 0 none [], us, ui⟩)
 | awant {st ev fr n v ty l env val us ui} (hf : st < fuel) (hu : ui = is.length) : Mv p fuel ch is ⟨st, ev, fr, some (.mk 10 n v ty l), env, val, us, ui⟩ (.stop ⟨st, ev, fr, some (.mk 10 n v ty l), env, val, us, ui⟩ 2 0 0 false)
 | awrong {st ev fr n v ty l env val us ui x} (hf : st < fuel) (hc : is[ui]? = some x) (hw : x < -1099511627776 ∨ 1099511627776 < x) : Mv p fuel ch is ⟨st, ev, fr, some (.mk 10 n v ty l), env, val, us, ui⟩ (.stop ⟨st, ev, fr, some (.mk 10 n v ty l), env, val, us, ui⟩ 0 0 0 true)
 | afine {st ev fr n v ty l env val us ui x} (hf : st < fuel) (hc : is[ui]? = some x) (h0 : -1099511627776 ≤ x) (h1 : x ≤ 1099511627776) : Mv p fuel ch is ⟨st, ev, fr, some (.mk 10 n v ty l), env, val, us, ui⟩ (.go ⟨st + 1, ev, fr, none, [], .mk x 0 none [], us, ui + 1⟩)
 | add {st ev fr n v ty a l env val us ui} (hl : l.length ≤ 1000) : Mv p fuel ch is ⟨st, ev, fr, some (.mk 11 n v ty (a :: l)), env, val, us, ui⟩ (.go ⟨st, ev, ⟨4, some (.mk 11 n v ty (a :: l)), env, vZ⟩ :: fr, some a, env, val, us, ui⟩)
 | less {st ev fr n v ty a l env val us ui} (hl : l.length ≤ 1000) : Mv p fuel ch is ⟨st, ev, fr, some (.mk 12 n v ty (a :: l)), env, val, us, ui⟩ (.go ⟨st, ev, ⟨5, some (.mk 12 n v ty (a :: l)), env, vZ⟩ :: fr, some a, env, val, us, ui⟩)
 | badd {st ev fr n v ty l env fn env' w wf wl we us ui} (hf : st < fuel) : Mv p fuel ch is ⟨st, ev, ⟨4, some (.mk 11 n v ty l), env, fn⟩ :: fr, none, env', .mk w wf wl we, us, ui⟩ (.go ⟨st + 1, ev, fr, none, [], .mk (IntKind.wrap .i64 (w + n)) 0 none [], us, ui⟩)
 | bless {st ev fr n v ty l env fn env' w wf wl we us ui} (hf : st < fuel) : Mv p fuel ch is ⟨st, ev, ⟨5, some (.mk 12 n v ty l), env, fn⟩ :: fr, none, env', .mk w wf wl we, us, ui⟩ (.go ⟨st + 1, ev, fr, none, [], .mk (if w < n then 1 else 0) 0 none [], us, ui⟩)
 | done {st ev env val us ui} : Mv p fuel ch is ⟨st, ev, [], none, env, val, us, ui⟩ (.stop ⟨st, ev, [], none, env, val, us, ui⟩ 0 (match val with | .mk n _ _ _ => n) 0 false)
 | arg {st ev fr n v ty a b env fn env' val us ui} : Mv p fuel ch is ⟨st, ev, ⟨0, some (.mk 3 n v ty [a, b]), env, fn⟩ :: fr, none, env', val, us, ui⟩ (.go ⟨st, ev, ⟨1, none, [], val⟩ :: fr, some b, env, val, us, ui⟩)
 | bmore {st ev fr k e env fn env' val us ui} (hk : k ≠ 0) (hf : fuel ≤ st) : Mv p fuel ch is ⟨st, ev, ⟨k, e, env, fn⟩ :: fr, none, env', val, us, ui⟩ (.stop ⟨st, ev, ⟨k, e, env, fn⟩ :: fr, none, env', val, us, ui⟩ 1 0 0 false)
 | blet {st ev fr n v ty a b env fn env' val us ui} (hf : st < fuel) : Mv p fuel ch is ⟨st, ev, ⟨2, some (.mk 5 n v ty [a, b]), env, fn⟩ :: fr, none, env', val, us, ui⟩ (.go ⟨st + 1, ev, fr, some b, val :: env, val, us, ui⟩)
 | bcase {st ev fr n v ty l env fn env'} {w : Nat} {wf wl we us ui b} (hf : st < fuel) (hl : l.length ≤ 1000) (hw : l[1 + w]? = some b) :
   Mv p fuel ch is ⟨st, ev, ⟨3, some (.mk 6 n v ty l), env, fn⟩ :: fr, none, env', .mk (w : Int) wf wl we, us, ui⟩ (.go ⟨st + 1, ev, fr, some b, env, .mk (w : Int) wf wl we, us, ui⟩)
 | bfun {st ev fr} {i : Nat} {gl ge env' val us ui d} (hf : st < fuel) (hd : p.defs[i]? = some d) :
   Mv p fuel ch is ⟨st, ev, ⟨1, none, [], .mk 0 ((i : Int) + 1) gl ge⟩ :: fr, none, env', val, us, ui⟩ (.go ⟨st + 1, ev, fr, some d.body, [val], val, us, ui⟩)
 | bclo {st ev fr n v ty b ge env' val us ui} (hf : st < fuel) :
   Mv p fuel ch is ⟨st, ev, ⟨1, none, [], .mk 0 0 (some (.mk 4 n v ty [b])) ge⟩ :: fr, none, env', val, us, ui⟩ (.go ⟨st + 1, ev, fr, some b, val :: ge, val, us, ui⟩)
def ScV (sc : List Ty) : Prop := ∀ t ∈ sc, t.VI
inductive VT (p : Prog) : Vl → Ty → Prop
 | num {n k : Int} (h0 : 0 ≤ n) (h1 : n < k) : VT p (.mk n 0 none []) (tyF k)
 | int {n : Int} : VT p (.mk n 0 none []) tyI
 | fn {i : Nat} {d : Def} (h : p.defs[i]? = some d) : VT p (.mk 0 ((i : Int) + 1) none []) (.mk 1 0 [d.param, d.result])
 | clo {n v : Int} {ty b : Ty} {a : Expr} {env : List Vl} (sc : List Ty) (hl : env.length = sc.length)
   (he : ∀ (i : Nat) (w : Vl) (t : Ty), env[i]? = some w → sc[i]? = some t → VT p w t) (hv : ScV (ty :: sc)) (ht : tImp p a (ty :: sc).reverse = (b, true)) (hn : a.nodes ≤ 400) (ho : a.ok) :
   VT p (.mk 0 0 (some (.mk 4 n v ty [a])) env) (.mk 1 0 [ty, b])
def EnvT (p : Prog) (env : List Vl) (sc : List Ty) : Prop := env.length = sc.length ∧ (∀ (i : Nat) (w : Vl) (t : Ty), env[i]? = some w → sc[i]? = some t → VT p w t) ∧ ScV sc
theorem EnvT.nil {p : Prog} : EnvT p [] [] := ⟨rfl, by simp, by simp [ScV]⟩
theorem EnvT.cons {p : Prog} {v : Vl} {t : Ty} {env : List Vl} {sc : List Ty} (hv : VT p v t) (ht : t.VI) (h : EnvT p env sc) : EnvT p (v :: env) (t :: sc) := by
 refine ⟨by simp [h.1], fun i w u e1 e2 => ?_, fun u hu => ?_⟩
 ·cases i with
  | zero => simp at e1 e2; subst e1; subst e2; exact hv
  | succ i => exact h.2.1 i w u (by simpa using e1) (by simpa using e2)
 ·rcases List.mem_cons.1 hu with rfl | hu
  ·exact ht
  ·exact h.2.2 u hu
def ET (p : Prog) (e : Expr) (env : List Vl) (t : Ty) : Prop := ∃ sc, EnvT p env sc ∧ tImp p e sc.reverse = (t, true) ∧ e.nodes ≤ 400 ∧ e.ok
inductive ST (p : Prog) (T : Ty) : List Fr → Ty → Prop
 | nil : ST p T [] T
 | arg {n v : Int} {ty a b : Ty} {f x : Expr} {env : List Vl} {fn : Vl} {r : List Fr} (hx : ET p x env a) (hr : ST p T r b) : ST p T (⟨0, some (.mk 3 n v ty [f, x]), env, fn⟩ :: r) (.mk 1 0 [a, b])
 | call {a b : Ty} {fn : Vl} {r : List Fr} (ha : a.VI) (hf : VT p fn (.mk 1 0 [a, b])) (hr : ST p T r b) : ST p T (⟨1, none, [], fn⟩ :: r) a
 | lt {n v : Int} {ty a b : Ty} {f x : Expr} {env : List Vl} {fn : Vl} {r : List Fr} (hx : ∀ w, VT p w a → ET p x (w :: env) b) (hr : ST p T r b) : ST p T (⟨2, some (.mk 5 n v ty [f, x]), env, fn⟩ :: r) a
 | cs {n v : Int} {ty b : Ty} {f : Expr} {l : List Expr} {env : List Vl} {fn : Vl} {r : List Fr} (hl : l.length ≤ 900) (hx : ∀ x ∈ l, ET p x env b) (hr : ST p T r b) :
   ST p T (⟨3, some (.mk 6 n v ty (f :: l)), env, fn⟩ :: r) (tyF l.length)
 | ad {n v : Int} {ty : Ty} {l : List Expr} {env : List Vl} {fn : Vl} {r : List Fr} (hr : ST p T r tyI) : ST p T (⟨4, some (.mk 11 n v ty l), env, fn⟩ :: r) tyI
 | ls {n v : Int} {ty : Ty} {l : List Expr} {env : List Vl} {fn : Vl} {r : List Fr} (hr : ST p T r (tyF 2)) : ST p T (⟨5, some (.mk 12 n v ty l), env, fn⟩ :: r) tyI
def WT (p : Prog) (T : Ty) (s : MS) : Prop :=
 match s.expr with
 | some e => ∃ t, ET p e s.env t ∧ ST p T s.fr t
 | none => ∃ t, VT p s.val t ∧ ST p T s.fr t
structure PT (p : Prog) : Prop where
 defs : ∀ d ∈ p.defs, tImp p d.body [d.param] = (d.result, true) ∧ d.body.nodes ≤ 400 ∧ d.body.ok
 defsV : ∀ d ∈ p.defs, d.param.VI ∧ d.result.VI
 len : p.defs.length ≤ 1000
section
variable {p : Prog} {n v : Int} {ty t : Ty} {l : List Expr} {sc : List Ty}
theorem inv_const (h : tImp p (.mk 0 n v ty l) sc = (t, true)) : t = tyF v ∧ 0 ≤ n ∧ n < v := by
 rw [tImp_const] at h
 simp only [Prod.mk.injEq, Bool.and_eq_true, decide_eq_true_eq] at h
 exact ⟨h.1.symm, h.2.1.2, h.2.2⟩
theorem inv_int (h : tImp p (.mk 9 n v ty l) sc = (t, true)) : t = tyI := by
 rw [tImp_int] at h
 simp only [Prod.mk.injEq] at h
 exact h.1.symm
theorem inv_any (h : tImp p (.mk 10 n v ty l) sc = (t, true)) : t = tyI := by
 rw [tImp_any] at h
 simp only [Prod.mk.injEq] at h
 exact h.1.symm
theorem tyI_of {x : Ty} (hV : x.VI) (hk : x.kd = 2) : x = tyI := by
 obtain ⟨k, w, m⟩ := x
 have := V_kd2 hV hk
 rw [this.1, this.2]
 simp only [Ty.kd] at hk
 rw [hk]; rfl
theorem inv_add (hd : ∀ d ∈ p.defs, d.param.VI ∧ d.result.VI) (hs : ScV sc) (h : tImp p (.mk 11 n v ty l) sc = (t, true)) : ∃ a, l = [a] ∧ tImp p a sc = (tyI, true) ∧ t = tyI := by
 by_cases h2 : l.length = 1
 ·obtain ⟨a, rfl⟩ := len1 h2
  rw [tImp_add] at h
  split at h
  ·obtain ⟨k1, k2, k3, _⟩ := addC_true (k := 11) (n := n) (x := tImp p a sc) (by rw [h])
   rw [k3 rfl] at h
   simp only [Prod.mk.injEq] at h
   exact ⟨a, rfl, Prod.ext (tyI_of (tImp_V p hd a sc hs k1) k2) k1, h.1.symm⟩
  ·simp at h
 ·rw [tImp_add0 _ _ _ _ _ _ h2] at h; simp at h
theorem inv_less (hd : ∀ d ∈ p.defs, d.param.VI ∧ d.result.VI) (hs : ScV sc) (h : tImp p (.mk 12 n v ty l) sc = (t, true)) : ∃ a, l = [a] ∧ tImp p a sc = (tyI, true) ∧ t = tyF 2 := by
 by_cases h2 : l.length = 1
 ·obtain ⟨a, rfl⟩ := len1 h2
  rw [tImp_less] at h
  split at h
  ·obtain ⟨k1, k2, _, k3⟩ := addC_true (k := 12) (n := n) (x := tImp p a sc) (by rw [h])
   rw [k3 (by omega)] at h
   simp only [Prod.mk.injEq] at h
   exact ⟨a, rfl, Prod.ext (tyI_of (tImp_V p hd a sc hs k1) k2) k1, h.1.symm⟩
  ·simp at h
 ·rw [tImp_less0 _ _ _ _ _ _ h2] at h; simp at h
theorem inv_pick (h : tImp p (.mk 8 n v ty l) sc = (t, true)) : t = tyF v := by
 rw [tImp_pick] at h
 simp only [Prod.mk.injEq] at h
 exact h.1.symm
theorem inv_var (h : tImp p (.mk 1 n v ty l) sc = (t, true)) : 0 ≤ n ∧ n < (sc.length : Int) ∧ sc[sc.length - 1 - n.toNat]? = some t := by
 rw [tImp_var] at h
 split at h
 ·rename_i h1
  simp only [Bool.and_eq_true, decide_eq_true_eq] at h1
  split at h
  ·rename_i u hu
   simp only [Prod.mk.injEq, and_true] at h
   subst h
   exact ⟨h1.1.2, h1.2, hu⟩
  ·simp at h
 ·simp at h
theorem inv_fun (h : tImp p (.mk 2 n v ty l) sc = (t, true)) : 0 ≤ n ∧ n < (p.defs.length : Int) ∧ ∃ d, p.defs[n.toNat]? = some d ∧ t = .mk 1 0 [d.param, d.result] := by
 rw [tImp_fun] at h
 split at h
 ·rename_i h1
  simp only [Bool.and_eq_true, decide_eq_true_eq] at h1
  split at h
  ·rename_i u hu
   simp only [Prod.mk.injEq] at h
   exact ⟨h1.1.2, h1.2, u, hu, h.1.symm⟩
  ·simp at h
 ·simp at h
theorem inv_event (h : tImp p (.mk 7 n v ty l) sc = (t, true)) : ∃ a, l = [a] ∧ 0 ≤ n ∧ n < (p.events.length : Int) ∧ tImp p a sc = (t, true) := by
 by_cases h2 : l.length = 1
 ·obtain ⟨a, rfl⟩ := len1 h2
  rw [tImp_event] at h
  split at h
  ·rename_i h1
   simp only [Bool.and_eq_true, decide_eq_true_eq] at h1
   exact ⟨a, rfl, h1.1.2, h1.2, h⟩
  ·simp at h
 ·rw [tImp_event0 _ _ _ _ _ _ h2] at h; simp at h
theorem inv_app (hd : ∀ d ∈ p.defs, d.param.VI ∧ d.result.VI) (hs : ScV sc) (h : tImp p (.mk 3 n v ty l) sc = (t, true)) :
  ∃ a b x, l = [a, b] ∧ tImp p a sc = (.mk 1 0 [x, t], true) ∧ tImp p b sc = (x, true) := by
 by_cases h2 : l.length = 2
 ·obtain ⟨a, b, rfl⟩ := len2 h2
  rw [tImp_app] at h
  split at h
  ·split at h
   ·rename_i h1
    simp only [Bool.and_eq_true] at h1
    obtain ⟨x, u, e1, e2, e3⟩ := (appC_V (tImp_V p hd a sc hs h1.1) (by rw [h])).2
    refine ⟨a, b, x, rfl, ?_, ?_⟩
    ·rw [h] at e3
     simp only at e3
     subst e3
     rw [← e1, ← h1.1]
    ·rw [e2, ← h1.2]
   ·simp at h
  ·simp at h
 ·rw [tImp_app0 _ _ _ _ _ _ h2] at h; simp at h
theorem inv_lam (h : tImp p (.mk 4 n v ty l) sc = (t, true)) : ∃ a b, l = [a] ∧ ty.VI ∧ tImp p a (sc ++ [ty]) = (b, true) ∧ t = .mk 1 0 [ty, b] := by
 by_cases h2 : l.length = 1
 ·obtain ⟨a, rfl⟩ := len1 h2
  rw [tImp_lam] at h
  split at h
  ·rename_i h0
   simp only [Bool.and_eq_true] at h0
   split at h
   ·rename_i h1
    simp only [Bool.and_eq_true] at h1
    simp only [Prod.mk.injEq, and_true] at h
    exact ⟨a, _, rfl, h0.2, by rw [← h1.1], h.symm⟩
   ·simp at h
  ·simp at h
 ·rw [tImp_lam0 _ _ _ _ _ _ h2] at h; simp at h
theorem inv_let (h : tImp p (.mk 5 n v ty l) sc = (t, true)) : ∃ a b x, l = [a, b] ∧ tImp p a sc = (x, true) ∧ tImp p b (sc ++ [x]) = (t, true) := by
 by_cases h2 : l.length = 2
 ·obtain ⟨a, b, rfl⟩ := len2 h2
  rw [tImp_let] at h
  split at h
  ·split at h
   ·rename_i h1
    exact ⟨a, b, _, rfl, by rw [← h1], h⟩
   ·simp at h
  ·simp at h
 ·rw [tImp_let0 _ _ _ _ _ _ h2] at h; simp at h
theorem inv_case (hd : ∀ d ∈ p.defs, d.param.VI ∧ d.result.VI) (hs : ScV sc) (h : tImp p (.mk 6 n v ty l) sc = (t, true)) :
  ∃ a r, l = a :: r ∧ tImp p a sc = (tyF r.length, true) ∧ ∀ x ∈ r, tImp p x sc = (t, true) := by
 rcases l with _ | ⟨a, _ | ⟨b, r⟩⟩
 ·rw [tImp_case0 _ _ _ _ _ _ (by simp)] at h; simp at h
 ·rw [tImp_case0 _ _ _ _ _ _ (by simp)] at h; simp at h
 ·rw [tImp_case] at h
  split at h
  ·split at h
   ·rename_i h1
    split at h
    ·rename_i h2
     simp only [Prod.mk.injEq] at h
     obtain ⟨e1, e2⟩ := h
     rw [e1] at e2
     obtain ⟨c1, c2⟩ := casesC_true e2
     refine ⟨a, b :: r, rfl, ?_, fun x hx => ?_⟩
     ·have hV := tImp_V p hd a sc hs h1
      generalize hT : tImp p a sc = T at h1 h2 hV
      obtain ⟨⟨k, w, m⟩, q⟩ := T
      simp only [Ty.kd, Ty.vl] at h2 h1
      have := V_kd0 hV h2.1
      rw [this.2.2, h2.1, h2.2, h1]
      rfl
     ·rcases List.mem_cons.1 hx with rfl | hx
      ·rw [← e1, ← c1]
      ·have := c2 x hx; rw [this.2, ← this.1]
    ·simp at h
   ·simp at h
  ·simp at h
end
def pends : List Fr → Nat
 | [] => 0
 | f :: l => f.pend + pends l
def nodesO : Option Expr → Nat
 | none => 0
 | some e => e.nodes
def MS.psi (s : MS) : Nat := pends s.fr + 3 * nodesO s.expr
theorem pend_pos (f : Fr) : 1 ≤ f.pend := by
 obtain ⟨k, e, env, fn⟩ := f
 simp only [Fr.pend]
 split
 ·split <;> omega
 ·omega
theorem pends_len : ∀ l : List Fr, l.length ≤ pends l
 | [] => by simp
 | f :: l => by have := pends_len l; have := pend_pos f; simp only [pends, List.length_cons]; omega
def Dec (fuel : Int) (s s' : MS) : Prop := (s'.steps = s.steps ∧ s'.psi < s.psi) ∨ (s'.steps = s.steps + 1 ∧ s.steps < fuel ∧ s'.psi ≤ s.psi + 1200)
theorem rev_snoc {α : Type} (l : List α) (t : α) : (t :: l).reverse = l.reverse ++ [t] := by simp
theorem EnvT.get {p : Prog} {env : List Vl} {sc : List Ty} (h : EnvT p env sc) {n : Int} {t : Ty} (h0 : 0 ≤ n) (h1 : n < (sc.reverse.length : Int)) (h2 : sc.reverse[sc.reverse.length - 1 - n.toNat]? = some t) :
  ∃ w, env[n.toNat]? = some w ∧ VT p w t := by
 have hn : n.toNat < sc.length := by simp at h1; omega
 have : sc[n.toNat]? = some t := by
  rw [List.getElem?_reverse (by simp; omega)] at h2
  rw [← h2]
  congr 1
  simp
  omega
 have hn2 : n.toNat < env.length := by rw [h.1]; exact hn
 exact ⟨env[n.toNat], List.getElem?_eq_getElem hn2, h.2.1 _ _ _ (List.getElem?_eq_getElem hn2) this⟩
theorem ScV.rev {sc : List Ty} (h : ScV sc) : ScV sc.reverse := fun t ht => h t (by simpa using ht)
theorem WT.step {p : Prog} (hp : PT p) {T : Ty} (fuel : Int) (ch is : List Int) {s : MS} (hu : s.used ≤ ch.length) (hui : s.ui ≤ is.length) (h : WT p T s) :
  ∃ o, Mv p fuel ch is s o ∧ ∀ s', o = .go s' → WT p T s' ∧ Dec fuel s s' ∧ s'.used ≤ ch.length ∧ s'.ui ≤ is.length ∧ (s.ev.length ≤ 4096 → s'.ev.length ≤ 4096) ∧ ∀ m ∈ s'.ev, m ∈ s.ev ∨ (0 ≤ m ∧ m < (p.events.length : Int)) := by
 obtain ⟨st, ev, fr, expr, env, val, us, ui⟩ := s
 simp only at hu hui
 cases expr with
 | some e =>
  obtain ⟨t, ⟨sc, henv, hty, hnd, hok⟩, hfr⟩ := h
  obtain ⟨k, n, v, ty, l⟩ := e
  simp only at henv hfr
  have hsV : ScV sc.reverse := henv.2.2.rev
  have hln : l.length ≤ 400 := by have := nodesL_len l; simp only [Expr.nodes] at hnd; omega
  have hol := Expr.oks_mem hok.2.2.2.2.2
  have hsub : ∀ x ∈ l, x.nodes < (Expr.mk k n v ty l).nodes ∧ x.nodes ≤ 400 ∧ x.ok := fun x hx => by
   have := nodes_mem hx
   simp only [Expr.nodes] at hnd ⊢
   exact ⟨by omega, by omega, hol x hx⟩
  have hpos := nodes_pos (.mk k n v ty l)
  rcases kind9 k with rfl | rfl | rfl | rfl | rfl | rfl | rfl | rfl | rfl | hk
  ·obtain ⟨rfl, h0, h1⟩ := inv_const hty
   exact ⟨_, .const, fun s' e => by cases e; exact ⟨⟨_, .num h0 h1, hfr⟩, .inl ⟨rfl, by simp only [MS.psi, nodesO]; omega⟩, hu, hui, id, fun _ h => .inl h⟩⟩
  ·obtain ⟨h0, h1, h2⟩ := inv_var hty
   obtain ⟨w, hw, hwt⟩ := henv.get h0 h1 h2
   have := hok.2.1
   unfold ir at this
   obtain ⟨n, rfl⟩ := Int.eq_ofNat_of_zero_le h0
   exact ⟨_, .var hw (by omega), fun s' e => by cases e; exact ⟨⟨_, hwt, hfr⟩, .inl ⟨rfl, by simp only [MS.psi, nodesO]; omega⟩, hu, hui, id, fun _ h => .inl h⟩⟩
  ·obtain ⟨h0, h1, d, hd, rfl⟩ := inv_fun hty
   have := hp.len
   obtain ⟨n, rfl⟩ := Int.eq_ofNat_of_zero_le h0
   exact ⟨_, .fn h0 (by omega), fun s' e => by cases e; exact ⟨⟨_, .fn hd, hfr⟩, .inl ⟨rfl, by simp only [MS.psi, nodesO]; omega⟩, hu, hui, id, fun _ h => .inl h⟩⟩
  ·obtain ⟨a, b, x, rfl, ha, hb⟩ := inv_app hp.defsV hsV hty
   have h1 := hsub a (by simp)
   have h2 := hsub b (by simp)
   refine ⟨_, .app (by simp), fun s' e => ?_⟩
   cases e
   refine ⟨⟨_, ⟨sc, henv, ha, h1.2⟩, .arg ⟨sc, henv, hb, h2.2⟩ hfr⟩, .inl ⟨rfl, ?_⟩, hu, hui, id, fun _ h => .inl h⟩
   simp only [MS.psi, nodesO, pends, Fr.pend, Expr.nodes, Expr.nodesL, if_true]
   omega
  ·obtain ⟨a, b, rfl, hv, ha, rfl⟩ := inv_lam hty
   have h1 := hsub a (by simp)
   refine ⟨_, .lam, fun s' e => ?_⟩
   cases e
   refine ⟨⟨_, .clo sc henv.1 henv.2.1 (fun u hu => ?_) (by rw [rev_snoc]; exact ha) h1.2.1 h1.2.2, hfr⟩, .inl ⟨rfl, by simp only [MS.psi, nodesO]; omega⟩, hu, hui, id, fun _ h => .inl h⟩
   rcases List.mem_cons.1 hu with rfl | hu
   ·exact hv
   ·exact henv.2.2 u hu
  ·obtain ⟨a, b, x, rfl, ha, hb⟩ := inv_let hty
   have h1 := hsub a (by simp)
   have h2 := hsub b (by simp)
   have hxV : x.VI := by have := tImp_V p hp.defsV a sc.reverse hsV (by rw [ha]); rwa [ha] at this
   refine ⟨_, .lt (by simp), fun s' e => ?_⟩
   cases e
   refine ⟨⟨_, ⟨sc, henv, ha, h1.2⟩, .lt (fun w hw => ⟨x :: sc, henv.cons hw hxV, by rw [rev_snoc]; exact hb, h2.2⟩) hfr⟩, .inl ⟨rfl, ?_⟩, hu, hui, id, fun _ h => .inl h⟩
   simp only [MS.psi, nodesO, pends, Fr.pend, Expr.nodes, Expr.nodesL, show ¬ ((2 : Int) = 0) by omega, if_false]
   omega
  ·obtain ⟨a, r, rfl, ha, hr⟩ := inv_case hp.defsV hsV hty
   have h1 := hsub a (by simp)
   refine ⟨_, .cs (by simp at hln ⊢; omega), fun s' e => ?_⟩
   cases e
   refine ⟨⟨_, ⟨sc, henv, ha, h1.2⟩, .cs (by simp at hln; omega) (fun x hx => ⟨sc, henv, hr x hx, (hsub x (by simp [hx])).2⟩) hfr⟩, .inl ⟨rfl, ?_⟩, hu, hui, id, fun _ h => .inl h⟩
   simp only [MS.psi, nodesO, pends, Fr.pend, Expr.nodes, Expr.nodesL, show ¬ ((3 : Int) = 0) by omega, if_false]
   omega
  ·obtain ⟨a, rfl, h0, h1, ha⟩ := inv_event hty
   by_cases hf : fuel ≤ st
   ·exact ⟨_, .more (.inl rfl) hf, fun s' e => by cases e⟩
   ·by_cases he : 4096 ≤ ev.length
    ·exact ⟨_, .full (by omega) he, fun s' e => by cases e⟩
    ·have h3 := hsub a (by simp)
     refine ⟨_, .event (by omega) (by omega) (by simp), fun s' e => ?_⟩
     cases e
     refine ⟨⟨_, ⟨sc, henv, ha, h3.2⟩, hfr⟩, .inr ⟨rfl, by simp only; omega, ?_⟩, hu, hui, fun _ => by simp; omega, fun m hm => ?_⟩
     rotate_left
     ·rcases List.mem_append.1 hm with hm | hm
      ·exact .inl hm
      ·simp only [List.mem_singleton] at hm; subst hm; exact .inr ⟨h0, h1⟩
     simp only [MS.psi, nodesO]
     omega
  ·obtain rfl := inv_pick hty
   by_cases hf : fuel ≤ st
   ·exact ⟨_, .more (.inr (.inl rfl)) hf, fun s' e => by cases e⟩
   ·by_cases hc : us = ch.length
    ·exact ⟨_, .want (by omega) hc, fun s' e => by cases e⟩
    ·have hlt : us < ch.length := by omega
     have hg : ch[us]? = some ch[us] := List.getElem?_eq_getElem hlt
     by_cases hw : ch[us] < 0 ∨ v ≤ ch[us]
     ·exact ⟨_, .wrong (by omega) hg hw, fun s' e => by cases e⟩
     ·refine ⟨_, .fine (by omega) hg (by omega) (by omega), fun s' e => ?_⟩
      cases e
      exact ⟨⟨_, .num (by omega) (by omega), hfr⟩, .inr ⟨rfl, by simp only; omega, by simp only [MS.psi, nodesO]; omega⟩, by simp only; omega, hui, id, fun _ h => .inl h⟩
  ·rcases kindI hk with rfl | rfl | rfl | rfl | hk
   ·obtain rfl := inv_int hty
    exact ⟨_, .int, fun s' e => by cases e; exact ⟨⟨_, .int, hfr⟩, .inl ⟨rfl, by simp only [MS.psi, nodesO]; omega⟩, hu, hui, id, fun _ h => .inl h⟩⟩
   ·obtain rfl := inv_any hty
    by_cases hf : fuel ≤ st
    ·exact ⟨_, .more (.inr (.inr rfl)) hf, fun s' e => by cases e⟩
    ·by_cases hc : ui = is.length
     ·exact ⟨_, .awant (by omega) hc, fun s' e => by cases e⟩
     ·have hlt : ui < is.length := by omega
      have hg : is[ui]? = some is[ui] := List.getElem?_eq_getElem hlt
      by_cases hw : is[ui] < -1099511627776 ∨ 1099511627776 < is[ui]
      ·exact ⟨_, .awrong (by omega) hg hw, fun s' e => by cases e⟩
      ·refine ⟨_, .afine (by omega) hg (by omega) (by omega), fun s' e => ?_⟩
       cases e
       exact ⟨⟨_, .int, hfr⟩, .inr ⟨rfl, by simp only; omega, by simp only [MS.psi, nodesO]; omega⟩, hu, by simp only; omega, id, fun _ h => .inl h⟩
   ·obtain ⟨a, rfl, ha, rfl⟩ := inv_add hp.defsV hsV hty
    have h1 := hsub a (by simp)
    refine ⟨_, .add (by simp), fun s' e => ?_⟩
    cases e
    refine ⟨⟨_, ⟨sc, henv, ha, h1.2⟩, .ad hfr⟩, .inl ⟨rfl, ?_⟩, hu, hui, id, fun _ h => .inl h⟩
    simp only [MS.psi, nodesO, pends, Fr.pend, Expr.nodes, Expr.nodesL, show ¬ ((4 : Int) = 0) by omega, if_false]
    omega
   ·obtain ⟨a, rfl, ha, rfl⟩ := inv_less hp.defsV hsV hty
    have h1 := hsub a (by simp)
    refine ⟨_, .less (by simp), fun s' e => ?_⟩
    cases e
    refine ⟨⟨_, ⟨sc, henv, ha, h1.2⟩, .ls hfr⟩, .inl ⟨rfl, ?_⟩, hu, hui, id, fun _ h => .inl h⟩
    simp only [MS.psi, nodesO, pends, Fr.pend, Expr.nodes, Expr.nodesL, show ¬ ((5 : Int) = 0) by omega, if_false]
    omega
   ·rw [tImp_other _ _ _ _ _ _ _ hk] at hty; simp at hty
 | none =>
  obtain ⟨t, hv, hfr⟩ := h
  simp only at hv hfr
  cases hfr with
  | nil => exact ⟨_, .done, fun s' e => by cases e⟩
  | @arg n v ty a b f x env' fn r hx hr =>
   refine ⟨_, .arg, fun s' e => ?_⟩
   cases e
   refine ⟨⟨_, hx, .call ?_ hv hr⟩, .inl ⟨rfl, ?_⟩, hu, hui, id, fun _ h => .inl h⟩
   ·obtain ⟨sc, he, ht, _⟩ := hx
    have := tImp_V p hp.defsV x sc.reverse he.2.2.rev (by rw [ht])
    rwa [ht] at this
   ·simp only [MS.psi, nodesO, pends, Fr.pend, if_true, show ¬ ((1 : Int) = 0) by omega, if_false]
    omega
  | @call a b fn r ha hf hr =>
   by_cases hfu : fuel ≤ st
   ·exact ⟨_, .bmore (by omega) hfu, fun s' e => by cases e⟩
   ·cases hf with
    | @fn i d hd =>
     have hm := List.mem_of_getElem? hd
     have h3 := hp.defs d hm
     refine ⟨_, .bfun (by omega) hd, fun s' e => ?_⟩
     cases e
     refine ⟨⟨_, ⟨[d.param], EnvT.nil.cons hv ha, h3.1, h3.2⟩, hr⟩, .inr ⟨rfl, by simp only; omega, ?_⟩, hu, hui, id, fun _ h => .inl h⟩
     simp only [MS.psi, nodesO, pends]
     have := h3.2.1
     omega
    | @clo n v ty b a env sc hl he hV ht hn ho =>
     try cases hty
     refine ⟨_, .bclo (by omega), fun s' e => ?_⟩
     cases e
     refine ⟨⟨_, ⟨_, EnvT.cons hv ha ⟨hl, he, fun u hu => hV u (by simp [hu])⟩, ht, hn, ho⟩, hr⟩, .inr ⟨rfl, by simp only; omega, ?_⟩, hu, hui, id, fun _ h => .inl h⟩
     simp only [MS.psi, nodesO, pends]
     omega
  | @lt n v ty a b f x env' fn r hx hr =>
   by_cases hfu : fuel ≤ st
   ·exact ⟨_, .bmore (by omega) hfu, fun s' e => by cases e⟩
   ·refine ⟨_, .blet (by omega), fun s' e => ?_⟩
    cases e
    have h3 := hx val hv
    refine ⟨⟨_, h3, hr⟩, .inr ⟨rfl, by simp only; omega, ?_⟩, hu, hui, id, fun _ h => .inl h⟩
    simp only [MS.psi, nodesO, pends]
    obtain ⟨_, _, _, h4, _⟩ := h3
    omega
  | @cs n v ty b f l env' fn r hl hx hr =>
   by_cases hfu : fuel ≤ st
   ·exact ⟨_, .bmore (by omega) hfu, fun s' e => by cases e⟩
   ·generalize hk : tyF (l.length : Int) = u at hv
    cases hv with
    | @num w k h0 h1 =>
     unfold tyF at hk
     cases hk
     obtain ⟨w, rfl⟩ := Int.eq_ofNat_of_zero_le h0
     have hw : w < l.length := by omega
     refine ⟨_, .bcase (by omega) (by simp; omega) (b := l[w]) (by rw [Nat.add_comm]; simp [List.getElem?_eq_getElem hw]), fun s' e => ?_⟩
     cases e
     have h3 := hx l[w] (List.getElem_mem hw)
     refine ⟨⟨_, h3, hr⟩, .inr ⟨rfl, by simp only; omega, ?_⟩, hu, hui, id, fun _ h => .inl h⟩
     simp only [MS.psi, nodesO, pends]
     obtain ⟨_, _, _, h4, _⟩ := h3
     omega
    | int => simp [tyF, tyI] at hk
    | fn => simp [tyF] at hk
    | clo => simp [tyF] at hk
  | ad hr =>
   by_cases hfu : fuel ≤ st
   ·exact ⟨_, .bmore (by omega) hfu, fun s' e => by cases e⟩
   ·obtain ⟨w, wf, wl, we⟩ := val
    refine ⟨_, .badd (by omega), fun s' e => ?_⟩
    cases e
    refine ⟨⟨_, .int, hr⟩, .inr ⟨rfl, by simp only; omega, ?_⟩, hu, hui, id, fun _ h => .inl h⟩
    simp only [MS.psi, nodesO, pends]
    omega
  | ls hr =>
   by_cases hfu : fuel ≤ st
   ·exact ⟨_, .bmore (by omega) hfu, fun s' e => by cases e⟩
   ·obtain ⟨w, wf, wl, we⟩ := val
    refine ⟨_, .bless (by omega), fun s' e => ?_⟩
    cases e
    refine ⟨⟨_, .num (by split <;> omega) (by split <;> omega), hr⟩, .inr ⟨rfl, by simp only; omega, ?_⟩, hu, hui, id, fun _ h => .inl h⟩
    simp only [MS.psi, nodesO, pends]
    omega
end Go.Ae.N

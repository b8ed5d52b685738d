/- Part 10 of the proof: AeRF24, AeRF25, AeRM17, AeRRI2, AeRRB0, AeRRB1, AeRRB2, AeRRB3. -/
import Derived.Test.YtcmlbbgbfgikaaaGreatT9
set_option linter.unusedSimpArgs false
set_option linter.unusedVariables false
namespace Go.Ae
open Go.Proofs
theorem of_case_loop (es : List ByteArray) (ds : List Def) (mk mn mv mtk mtv : Int) (mtl : List Ty) (ml : List Expr) (sc : List Ty) (uk uv : Int) (ul : List Ty) (hu : (Ty.mk uk uv ul).ok) (r : List Expr) (hr : r.length ≤ 1000) :
  ∀ (r' : List Expr) (i : Nat) (b : Bool), r.drop i = r' → (∀ x ∈ r', OfOk ⟨es, ds, .mk mk mn mv (.mk mtk mtv mtl) ml⟩ x sc) →
  Lp Tryz.prog 288 0 (loopN Tryz.f42 0) ⟨lookT [(1, .sl 3 (Ty.encs sc) false), (3, .lp 0 0), (6, .lp 1 0), (14, B b), (17, .lp 2 0), (263, .sl 7 (Expr.encs r) false), (264, I (r.length : Int)), (265, I (i : Int))],
   [.cells (Prog.enc ⟨es, ds, .mk mk mn mv (.mk mtk mtv mtl) ml⟩) [], .cells [I 0, I 0, .nil] [], .cells [I uk, I uv, .sl 3 (Ty.encs ul) false] []]⟩
   (.exit 2) ⟨lookT [(6, .lp 0 0), (14, B (casesR ⟨es, ds, .mk mk mn mv (.mk mtk mtv mtl) ml⟩ sc (.mk uk uv ul) r' b)), (17, .lp 1 0)], [.cells [I 0, I 0, .nil] [], .cells [I uk, I uv, .sl 3 (Ty.encs ul) false] []]⟩
 | [], i, b, hd, _ => by
  have hi := drop_end hd
  simp only [casesR, List.foldl_nil]
  exact lL [rS [(0, .bit false)]] [.keep [(6, []), (14, []), (17, [])]] (qF ((i : Int) < (r.length : Int)) ob0)
 | .mk k1 m1 v1 (.mk tk tv tl) xs :: r', i, b, hd, hs => by
  have hi := drop_lt hd
  have hx : (Expr.encs r)[i]? = some (Expr.mk k1 m1 v1 (.mk tk tv tl) xs).enc := by rw [Expr.encs_get, drop_get hd]; rfl
  have hc := hs (.mk k1 m1 v1 (.mk tk tv tl) xs) (by simp)
  have ih := fun b => of_case_loop es ds mk mn mv mtk mtv mtl ml sc uk uv ul hu r hr r' (i + 1) b (drop_next hd) (fun x hx => hs x (by simp [hx]))
  have he : ∀ b, casesR ⟨es, ds, .mk mk mn mv (.mk mtk mtv mtl) ml⟩ sc (.mk uk uv ul) (.mk k1 m1 v1 (.mk tk tv tl) xs :: r') b =
   casesR ⟨es, ds, .mk mk mn mv (.mk mtk mtv mtl) ml⟩ sc (.mk uk uv ul) r' (b && (tRef ⟨es, ds, .mk mk mn mv (.mk mtk mtv mtl) ml⟩ (.mk k1 m1 v1 (.mk tk tv tl) xs) sc).2 && decide (.mk uk uv ul = (tRef ⟨es, ds, .mk mk mn mv (.mk mtk mtv mtl) ml⟩ (.mk k1 m1 v1 (.mk tk tv tl) xs) sc).1)) := fun b => rfl
  rw [he]
  unfold OfOk at hc
  clear hs he hd
  generalize casesR ⟨es, ds, .mk mk mn mv (.mk mtk mtv mtl) ml⟩ sc (.mk uk uv ul) r' = F at ih ⊢
  generalize tRef ⟨es, ds, .mk mk mn mv (.mk mtk mtv mtl) ml⟩ (.mk k1 m1 v1 (.mk tk tv tl) xs) sc = T at hc ⊢
  obtain ⟨⟨rk, rv, rl⟩, rb⟩ := T
  have hq := eqTy_1 (.mk uk uv ul) (.mk rk rv rl) hu
  simp only [Int.natCast_add] at ih
  cases b with
  | false =>
   replace ih := ih false
   simp only [Bool.false_and]
   cases rb with
   | false => exact lN [rS [(0, .bit true)], rS [(0, oW hx)], rS [(3, oC hc)], rG, rS [(0, .int ((i : Int) + 1))]] [.keep [(1, []), (3, []), (6, []), (14, []), (17, []), (263, []), (264, []), (265, [])]] (qT ((i : Int) < (r.length : Int)) (qI i (ob1 hx (ob1 (hc) (qw ((i : Int) + 1) ob0))))) (ih)
   | true => exact lN [rS [(0, .bit true)], rS [(0, oW hx)], rS [(3, oC hc)], rG, rS [(0, .int ((i : Int) + 1))]] [.keep [(1, []), (3, []), (6, []), (14, []), (17, []), (263, []), (264, []), (265, [])]] (qT ((i : Int) < (r.length : Int)) (qI i (ob1 hx (ob1 (hc) (qw ((i : Int) + 1) ob0))))) (ih)
  | true =>
   cases rb with
   | false =>
    replace ih := ih false
    simp only [Bool.and_false, Bool.false_and]
    exact lN [rS [(0, .bit true)], rS [(0, oW hx)], rS [(3, oC hc)], rG, rS [(0, .int ((i : Int) + 1))]] [.keep [(1, []), (3, []), (6, []), (14, []), (17, []), (263, []), (264, []), (265, [])]] (qT ((i : Int) < (r.length : Int)) (qI i (ob1 hx (ob1 (hc) (qw ((i : Int) + 1) ob0))))) (ih)
   | true =>
    by_cases hx : Ty.mk uk uv ul = Ty.mk rk rv rl
    ·replace ih := ih true
     simp only [decide_eq_true hx] at hq ⊢
     exact lN [rS [(0, .bit true)], rS [(0, .row i (Expr.enc (Expr.mk k1 m1 v1 (Ty.mk tk tv tl) xs)))], rS [(3, oC hc)], rS [(7, oC hq)], rS [(0, .int ((i : Int) + 1))]] [.keep [(1, []), (3, []), (6, []), (14, []), (17, []), (263, []), (264, []), (265, [])]] (q (decide ((i : Int) < (r.length : Int)) = true) (q ((i : Int) = (i : Int)) (q ((Expr.encs r)[i]? = some (Expr.enc (Expr.mk k1 m1 v1 (Ty.mk tk tv tl) xs))) (ob1 (hc) (ob1 (hq) (qw ((i : Int) + 1) ob0)))))) (ih)
    ·replace ih := ih false
     simp only [decide_eq_false hx, Bool.and_false] at hq ⊢
     exact lN [rS [(0, .bit true)], rS [(0, .row i (Expr.enc (Expr.mk k1 m1 v1 (Ty.mk tk tv tl) xs)))], rS [(3, oC hc)], rS [(7, oC hq)], rS [(0, .int ((i : Int) + 1))]] [.keep [(1, []), (3, []), (6, []), (14, []), (17, []), (263, []), (264, []), (265, [])]] (q (decide ((i : Int) < (r.length : Int)) = true) (q ((i : Int) = (i : Int)) (q ((Expr.encs r)[i]? = some (Expr.enc (Expr.mk k1 m1 v1 (Ty.mk tk tv tl) xs))) (ob1 (hc) (ob1 (hq) (qw ((i : Int) + 1) ob0)))))) (ih)
theorem of_case (es : List ByteArray) (ds : List Def) (mk mn mv mtk mtv : Int) (mtl : List Ty) (ml : List Expr) (sc : List Ty) (n v tk tv : Int) (tl : List Ty)
  (ak an av atk atv : Int) (atl : List Ty) (al : List Expr) (bk bn bv btk btv : Int) (btl : List Ty) (bl : List Expr) (r : List Expr) (hr : r.length ≤ 1000)
  (ha : OfOk ⟨es, ds, .mk mk mn mv (.mk mtk mtv mtl) ml⟩ (.mk ak an av (.mk atk atv atl) al) sc)
  (hb : OfOk ⟨es, ds, .mk mk mn mv (.mk mtk mtv mtl) ml⟩ (.mk bk bn bv (.mk btk btv btl) bl) sc)
  (hc : ∀ x ∈ r, OfOk ⟨es, ds, .mk mk mn mv (.mk mtk mtv mtl) ml⟩ x sc)
  (h : plainC (.mk 6 n v (.mk tk tv tl) (.mk ak an av (.mk atk atv atl) al :: .mk bk bn bv (.mk btk btv btl) bl :: r)) = true)
  (hV : (tRef ⟨es, ds, .mk mk mn mv (.mk mtk mtv mtl) ml⟩ (.mk ak an av (.mk atk atv atl) al) sc).2 = true → (tRef ⟨es, ds, .mk mk mn mv (.mk mtk mtv mtl) ml⟩ (.mk ak an av (.mk atk atv atl) al) sc).1.V)
  (hok : (tRef ⟨es, ds, .mk mk mn mv (.mk mtk mtv mtl) ml⟩ (.mk bk bn bv (.mk btk btv btl) bl) sc).1.ok) :
  OfOk ⟨es, ds, .mk mk mn mv (.mk mtk mtv mtl) ml⟩ (.mk 6 n v (.mk tk tv tl) (.mk ak an av (.mk atk atv atl) al :: .mk bk bn bv (.mk btk btv btl) bl :: r)) sc := by
 unfold OfOk at ha hb ⊢
 have hp := plain_ 6 n v tk tv tl (.mk ak an av (.mk atk atv atl) al :: .mk bk bn bv (.mk btk btv btl) bl :: r)
 rw [h] at hp
 rw [tRef_case _ _ _ _ _ _ _ _ h]
 have hl := fun (uk uv : Int) (ul : List Ty) (hu : (Ty.mk uk uv ul).ok) (b : Bool) => of_case_loop es ds mk mn mv mtk mtv mtl ml sc uk uv ul hu r hr r 0 b rfl hc
 clear hc
 generalize tRef ⟨es, ds, .mk mk mn mv (.mk mtk mtv mtl) ml⟩ (.mk ak an av (.mk atk atv atl) al) sc = T at ha hV ⊢
 obtain ⟨⟨rk, rv, rl⟩, rb⟩ := T
 cases rb with
 | false =>
  clear hb hl hok hV
  simp only [Bool.false_eq_true, if_false]
  exact gK Tryz.func42 ([rG, rS [(1, oC hp)]] ++ (rGs 7 [rS [(4, .row 0 (xE ak an av atk atv atl al)), (6, oC ha)], rG, rG])) [.tidO 2 [none, none, some 3]] [] (ob1 (hp) (qI 0 (qC0 ((xE ak an av atk atv atl al)) ((xE bk bn bv btk btv btl bl) :: Expr.encs r) (ob1 (ha) ob0))))
 | true =>
  have hV := hV rfl
  simp only [if_true]
  by_cases hk : rk = 0
  ·subst hk
   obtain ⟨w1, w2, -⟩ := V_kd0 hV rfl
   clear hV
   by_cases hv : rv = (r.length : Int) + 1
   ·rw [if_pos (show ((Ty.mk 0 rv rl, true).1.kd = 0 ∧ (Ty.mk 0 rv rl, true).1.vl = ((Expr.mk bk bn bv (.mk btk btv btl) bl :: r).length : Int)) from ⟨rfl, by show rv = _; simp; omega⟩)]
    generalize tRef ⟨es, ds, .mk mk mn mv (.mk mtk mtv mtl) ml⟩ (.mk bk bn bv (.mk btk btv btl) bl) sc = U at hb hok ⊢
    obtain ⟨⟨uk, uv, ul⟩, ub⟩ := U
    have hl := hl uk uv ul hok ub
    dsimp only
    generalize casesR ⟨es, ds, .mk mk mn mv (.mk mtk mtv mtl) ml⟩ sc (.mk uk uv ul) r ub = F at hl ⊢
    clear hok
    cases ub with
    | true =>
     cases F with
     | true => exact gK Tryz.func42 ([rG, rS [(1, oC hp)]] ++ (rGs 7 [rS [(4, .row 0 (xE ak an av atk atv atl al)), (6, oC ha)], rG, rG, rG, rG, rS [(6, .int ((r.length : Int) + 1 + 1)), (9, .int (rv + 1)), (10, .bit false)], rS [(4, .row 1 (xE bk bn bv btk btv btl bl)), (6, oC hb)], rS [(2, .rows (Expr.encs r)), (3, .int (r.length : Int))], oL [.keep [(1, []), (3, []), (6, []), (14, []), (17, []), (263, []), (264, []), (265, [])]] hl, rG])) [.tidO 0 [none, none, some 3]] [] (ob1 (hp) (qI 0 (qC0 ((xE ak an av atk atv atl al)) ((xE bk bn bv btk btv btl bl) :: Expr.encs r) (ob1 (ha) (q ((↑(List.length ((xE ak an av atk atv atl al) :: (xE bk bn bv btk btv btl bl) :: Expr.encs r)) : Int) = (r.length : Int) + 1 + 1) (qw (rv + 1) (qU ((r.length : Int) + 1 + 1 != rv + 1) (qI 1 (qC1 ((xE ak an av atk atv atl al)) ((xE bk bn bv btk btv btl bl)) (Expr.encs r) (ob1 (hb) (q ((0 : Int) ≤ Option.getD (some (2 : Int)) (0 : Int)) (q (Option.getD (some (2 : Int)) (0 : Int) ≤ Option.getD none (↑(List.length ([I ak, I an, I av, I atk, I atv, .sl (3 : Nat) (Ty.encs atl) false, .sl (7 : Nat) (Expr.encs al) false] :: [I bk, I bn, I bv, I btk, I btv, .sl (3 : Nat) (Ty.encs btl) false, .sl (7 : Nat) (Expr.encs bl) false] :: Expr.encs r)) : Int)) (q (Option.getD none (↑(List.length ([I ak, I an, I av, I atk, I atv, .sl (3 : Nat) (Ty.encs atl) false, .sl (7 : Nat) (Expr.encs al) false] :: [I bk, I bn, I bv, I btk, I btv, .sl (3 : Nat) (Ty.encs btl) false, .sl (7 : Nat) (Expr.encs bl) false] :: Expr.encs r)) : Int) ≤ (↑(List.length ([I ak, I an, I av, I atk, I atv, .sl (3 : Nat) (Ty.encs atl) false, .sl (7 : Nat) (Expr.encs al) false] :: [I bk, I bn, I bv, I btk, I btv, .sl (3 : Nat) (Ty.encs btl) false, .sl (7 : Nat) (Expr.encs bl) false] :: Expr.encs r)) : Int)) (q (List.drop (Int.toNat (Option.getD (some (2 : Int)) (0 : Int))) (List.take (Int.toNat (Option.getD none (↑(List.length ([I ak, I an, I av, I atk, I atv, .sl (3 : Nat) (Ty.encs atl) false, .sl (7 : Nat) (Expr.encs al) false] :: [I bk, I bn, I bv, I btk, I btv, .sl (3 : Nat) (Ty.encs btl) false, .sl (7 : Nat) (Expr.encs bl) false] :: Expr.encs r)) : Int))) ([I ak, I an, I av, I atk, I atv, .sl (3 : Nat) (Ty.encs atl) false, .sl (7 : Nat) (Expr.encs al) false] :: [I bk, I bn, I bv, I btk, I btv, .sl (3 : Nat) (Ty.encs btl) false, .sl (7 : Nat) (Expr.encs bl) false] :: Expr.encs r)) = Expr.encs r) (qN Expr.encs r (ob1 (hl) ob0))))))))))))))))
     | false => exact gK Tryz.func42 ([rG, rS [(1, oC hp)]] ++ (rGs 7 [rS [(4, .row 0 (xE ak an av atk atv atl al)), (6, oC ha)], rG, rG, rG, rG, rS [(6, .int ((r.length : Int) + 1 + 1)), (9, .int (rv + 1)), (10, .bit false)], rS [(4, .row 1 (xE bk bn bv btk btv btl bl)), (6, oC hb)], rS [(2, .rows (Expr.encs r)), (3, .int (r.length : Int))], oL [.keep [(1, []), (3, []), (6, []), (14, []), (17, []), (263, []), (264, []), (265, [])]] hl, rG])) [.tidO 0 [none, none, some 3]] [] (ob1 (hp) (qI 0 (qC0 ((xE ak an av atk atv atl al)) ((xE bk bn bv btk btv btl bl) :: Expr.encs r) (ob1 (ha) (q ((↑(List.length ((xE ak an av atk atv atl al) :: (xE bk bn bv btk btv btl bl) :: Expr.encs r)) : Int) = (r.length : Int) + 1 + 1) (qw (rv + 1) (qU ((r.length : Int) + 1 + 1 != rv + 1) (qI 1 (qC1 ((xE ak an av atk atv atl al)) ((xE bk bn bv btk btv btl bl)) (Expr.encs r) (ob1 (hb) (q ((0 : Int) ≤ Option.getD (some (2 : Int)) (0 : Int)) (q (Option.getD (some (2 : Int)) (0 : Int) ≤ Option.getD none (↑(List.length ([I ak, I an, I av, I atk, I atv, .sl (3 : Nat) (Ty.encs atl) false, .sl (7 : Nat) (Expr.encs al) false] :: [I bk, I bn, I bv, I btk, I btv, .sl (3 : Nat) (Ty.encs btl) false, .sl (7 : Nat) (Expr.encs bl) false] :: Expr.encs r)) : Int)) (q (Option.getD none (↑(List.length ([I ak, I an, I av, I atk, I atv, .sl (3 : Nat) (Ty.encs atl) false, .sl (7 : Nat) (Expr.encs al) false] :: [I bk, I bn, I bv, I btk, I btv, .sl (3 : Nat) (Ty.encs btl) false, .sl (7 : Nat) (Expr.encs bl) false] :: Expr.encs r)) : Int) ≤ (↑(List.length ([I ak, I an, I av, I atk, I atv, .sl (3 : Nat) (Ty.encs atl) false, .sl (7 : Nat) (Expr.encs al) false] :: [I bk, I bn, I bv, I btk, I btv, .sl (3 : Nat) (Ty.encs btl) false, .sl (7 : Nat) (Expr.encs bl) false] :: Expr.encs r)) : Int)) (q (List.drop (Int.toNat (Option.getD (some (2 : Int)) (0 : Int))) (List.take (Int.toNat (Option.getD none (↑(List.length ([I ak, I an, I av, I atk, I atv, .sl (3 : Nat) (Ty.encs atl) false, .sl (7 : Nat) (Expr.encs al) false] :: [I bk, I bn, I bv, I btk, I btv, .sl (3 : Nat) (Ty.encs btl) false, .sl (7 : Nat) (Expr.encs bl) false] :: Expr.encs r)) : Int))) ([I ak, I an, I av, I atk, I atv, .sl (3 : Nat) (Ty.encs atl) false, .sl (7 : Nat) (Expr.encs al) false] :: [I bk, I bn, I bv, I btk, I btv, .sl (3 : Nat) (Ty.encs btl) false, .sl (7 : Nat) (Expr.encs bl) false] :: Expr.encs r)) = Expr.encs r) (qN Expr.encs r (ob1 (hl) ob0))))))))))))))))
    | false =>
     cases F with
     | true => exact gK Tryz.func42 ([rG, rS [(1, oC hp)]] ++ (rGs 7 [rS [(4, .row 0 (xE ak an av atk atv atl al)), (6, oC ha)], rG, rG, rG, rG, rS [(6, .int ((r.length : Int) + 1 + 1)), (9, .int (rv + 1)), (10, .bit false)], rS [(4, .row 1 (xE bk bn bv btk btv btl bl)), (6, oC hb)], rS [(2, .rows (Expr.encs r)), (3, .int (r.length : Int))], oL [.keep [(1, []), (3, []), (6, []), (14, []), (17, []), (263, []), (264, []), (265, [])]] hl, rG])) [.tidO 0 [none, none, some 3]] [] (ob1 (hp) (qI 0 (qC0 ((xE ak an av atk atv atl al)) ((xE bk bn bv btk btv btl bl) :: Expr.encs r) (ob1 (ha) (q ((↑(List.length ((xE ak an av atk atv atl al) :: (xE bk bn bv btk btv btl bl) :: Expr.encs r)) : Int) = (r.length : Int) + 1 + 1) (qw (rv + 1) (qU ((r.length : Int) + 1 + 1 != rv + 1) (qI 1 (qC1 ((xE ak an av atk atv atl al)) ((xE bk bn bv btk btv btl bl)) (Expr.encs r) (ob1 (hb) (q ((0 : Int) ≤ Option.getD (some (2 : Int)) (0 : Int)) (q (Option.getD (some (2 : Int)) (0 : Int) ≤ Option.getD none (↑(List.length ([I ak, I an, I av, I atk, I atv, .sl (3 : Nat) (Ty.encs atl) false, .sl (7 : Nat) (Expr.encs al) false] :: [I bk, I bn, I bv, I btk, I btv, .sl (3 : Nat) (Ty.encs btl) false, .sl (7 : Nat) (Expr.encs bl) false] :: Expr.encs r)) : Int)) (q (Option.getD none (↑(List.length ([I ak, I an, I av, I atk, I atv, .sl (3 : Nat) (Ty.encs atl) false, .sl (7 : Nat) (Expr.encs al) false] :: [I bk, I bn, I bv, I btk, I btv, .sl (3 : Nat) (Ty.encs btl) false, .sl (7 : Nat) (Expr.encs bl) false] :: Expr.encs r)) : Int) ≤ (↑(List.length ([I ak, I an, I av, I atk, I atv, .sl (3 : Nat) (Ty.encs atl) false, .sl (7 : Nat) (Expr.encs al) false] :: [I bk, I bn, I bv, I btk, I btv, .sl (3 : Nat) (Ty.encs btl) false, .sl (7 : Nat) (Expr.encs bl) false] :: Expr.encs r)) : Int)) (q (List.drop (Int.toNat (Option.getD (some (2 : Int)) (0 : Int))) (List.take (Int.toNat (Option.getD none (↑(List.length ([I ak, I an, I av, I atk, I atv, .sl (3 : Nat) (Ty.encs atl) false, .sl (7 : Nat) (Expr.encs al) false] :: [I bk, I bn, I bv, I btk, I btv, .sl (3 : Nat) (Ty.encs btl) false, .sl (7 : Nat) (Expr.encs bl) false] :: Expr.encs r)) : Int))) ([I ak, I an, I av, I atk, I atv, .sl (3 : Nat) (Ty.encs atl) false, .sl (7 : Nat) (Expr.encs al) false] :: [I bk, I bn, I bv, I btk, I btv, .sl (3 : Nat) (Ty.encs btl) false, .sl (7 : Nat) (Expr.encs bl) false] :: Expr.encs r)) = Expr.encs r) (qN Expr.encs r (ob1 (hl) ob0))))))))))))))))
     | false => exact gK Tryz.func42 ([rG, rS [(1, oC hp)]] ++ (rGs 7 [rS [(4, .row 0 (xE ak an av atk atv atl al)), (6, oC ha)], rG, rG, rG, rG, rS [(6, .int ((r.length : Int) + 1 + 1)), (9, .int (rv + 1)), (10, .bit false)], rS [(4, .row 1 (xE bk bn bv btk btv btl bl)), (6, oC hb)], rS [(2, .rows (Expr.encs r)), (3, .int (r.length : Int))], oL [.keep [(1, []), (3, []), (6, []), (14, []), (17, []), (263, []), (264, []), (265, [])]] hl, rG])) [.tidO 0 [none, none, some 3]] [] (ob1 (hp) (qI 0 (qC0 ((xE ak an av atk atv atl al)) ((xE bk bn bv btk btv btl bl) :: Expr.encs r) (ob1 (ha) (q ((↑(List.length ((xE ak an av atk atv atl al) :: (xE bk bn bv btk btv btl bl) :: Expr.encs r)) : Int) = (r.length : Int) + 1 + 1) (qw (rv + 1) (qU ((r.length : Int) + 1 + 1 != rv + 1) (qI 1 (qC1 ((xE ak an av atk atv atl al)) ((xE bk bn bv btk btv btl bl)) (Expr.encs r) (ob1 (hb) (q ((0 : Int) ≤ Option.getD (some (2 : Int)) (0 : Int)) (q (Option.getD (some (2 : Int)) (0 : Int) ≤ Option.getD none (↑(List.length ([I ak, I an, I av, I atk, I atv, .sl (3 : Nat) (Ty.encs atl) false, .sl (7 : Nat) (Expr.encs al) false] :: [I bk, I bn, I bv, I btk, I btv, .sl (3 : Nat) (Ty.encs btl) false, .sl (7 : Nat) (Expr.encs bl) false] :: Expr.encs r)) : Int)) (q (Option.getD none (↑(List.length ([I ak, I an, I av, I atk, I atv, .sl (3 : Nat) (Ty.encs atl) false, .sl (7 : Nat) (Expr.encs al) false] :: [I bk, I bn, I bv, I btk, I btv, .sl (3 : Nat) (Ty.encs btl) false, .sl (7 : Nat) (Expr.encs bl) false] :: Expr.encs r)) : Int) ≤ (↑(List.length ([I ak, I an, I av, I atk, I atv, .sl (3 : Nat) (Ty.encs atl) false, .sl (7 : Nat) (Expr.encs al) false] :: [I bk, I bn, I bv, I btk, I btv, .sl (3 : Nat) (Ty.encs btl) false, .sl (7 : Nat) (Expr.encs bl) false] :: Expr.encs r)) : Int)) (q (List.drop (Int.toNat (Option.getD (some (2 : Int)) (0 : Int))) (List.take (Int.toNat (Option.getD none (↑(List.length ([I ak, I an, I av, I atk, I atv, .sl (3 : Nat) (Ty.encs atl) false, .sl (7 : Nat) (Expr.encs al) false] :: [I bk, I bn, I bv, I btk, I btv, .sl (3 : Nat) (Ty.encs btl) false, .sl (7 : Nat) (Expr.encs bl) false] :: Expr.encs r)) : Int))) ([I ak, I an, I av, I atk, I atv, .sl (3 : Nat) (Ty.encs atl) false, .sl (7 : Nat) (Expr.encs al) false] :: [I bk, I bn, I bv, I btk, I btv, .sl (3 : Nat) (Ty.encs btl) false, .sl (7 : Nat) (Expr.encs bl) false] :: Expr.encs r)) = Expr.encs r) (qN Expr.encs r (ob1 (hl) ob0))))))))))))))))
   ·rw [if_neg (show ¬ ((Ty.mk 0 rv rl, true).1.kd = 0 ∧ (Ty.mk 0 rv rl, true).1.vl = ((Expr.mk bk bn bv (.mk btk btv btl) bl :: r).length : Int)) from fun h => hv (by have h2 : rv = _ := h.2; simp at h2; omega))]
    clear hb hl hok
    exact gK Tryz.func42 ([rG, rS [(1, oC hp)]] ++ (rGs 7 [rS [(4, .row 0 (xE ak an av atk atv atl al)), (6, oC ha)], rG, rG, rG, rG, rS [(6, .int ((r.length : Int) + 1 + 1)), (9, .int (rv + 1)), (10, .bit true)], rG])) [.tidO 2 [none, none, some 3]] [] (ob1 (hp) (qI 0 (qC0 ((xE ak an av atk atv atl al)) ((xE bk bn bv btk btv btl bl) :: Expr.encs r) (ob1 (ha) (q ((↑(List.length ((xE ak an av atk atv atl al) :: (xE bk bn bv btk btv btl bl) :: Expr.encs r)) : Int) = (r.length : Int) + 1 + 1) (qw (rv + 1) (qV ((r.length : Int) + 1 + 1 != rv + 1) ob0)))))))
  ·rw [if_neg (show ¬ ((Ty.mk rk rv rl, true).1.kd = 0 ∧ (Ty.mk rk rv rl, true).1.vl = ((Expr.mk bk bn bv (.mk btk btv btl) bl :: r).length : Int)) from fun h => hk h.1)]
   clear hb hl hok hV
   exact gK Tryz.func42 ([rG, rS [(1, oC hp)]] ++ (rGs 7 [rS [(4, .row 0 (xE ak an av atk atv atl al)), (6, oC ha)], rG, rG, rG, rG, rS [(2, .bit true)], rG])) [.tidO 2 [none, none, some 3]] [] (ob1 (hp) (qI 0 (qC0 ((xE ak an av atk atv atl al)) ((xE bk bn bv btk btv btl bl) :: Expr.encs r) (ob1 (ha) (qV (rk != 0) ob0)))))
end Go.Ae
namespace Go.Ae
open Go.Proofs
mutual
def Ty.nd : Ty → Int
 | .mk _ _ l => 1 + Ty.nds l
def Ty.nds : List Ty → Int
 | [] => 0
 | t :: l => t.nd + Ty.nds l
end
mutual
theorem nd_pos : ∀ t : Ty, 1 ≤ t.nd
 | .mk _ _ l => by have := nds_pos l; simp only [Ty.nd]; omega
theorem nds_pos : ∀ l : List Ty, 0 ≤ Ty.nds l
 | [] => by simp [Ty.nds]
 | t :: l => by have := nd_pos t; have := nds_pos l; simp only [Ty.nds]; omega
end
mutual
theorem tnC_nd : ∀ (t : Ty) (m : Int), (tnC t m ≤ m ↔ t.nd ≤ m) ∧ (t.nd ≤ m → tnC t m = t.nd)
 | .mk k v l, m => by
  have h := tnL_nd l m 1 (by omega)
  simp only [tnC, Ty.nd]
  exact h
theorem tnL_nd : ∀ (l : List Ty) (m n : Int), 1 ≤ n → (tnL l m n ≤ m ↔ n + Ty.nds l ≤ m) ∧ (n + Ty.nds l ≤ m → tnL l m n = n + Ty.nds l)
 | [], m, n, h => by simp [tnL, Ty.nds]
 | t :: l, m, n, h => by
  have h1 := tnC_nd t (m - n)
  have h2 := nd_pos t
  have h3 := nds_pos l
  have h4 := tnC_bound t (m - n)
  have h5 := tnL_nd l m (n + tnC t (m - n)) (by omega)
  have h6 := tnL_bound l m (n + tnC t (m - n)) (by omega)
  simp only [tnL, Ty.nds]
  by_cases hn : n ≤ m
  ·rw [if_pos hn]
   by_cases hc : t.nd ≤ m - n
   ·have := h1.2 hc
    rw [this] at h5 ⊢
    exact ⟨by rw [h5.1]; omega, fun h => by rw [h5.2 (by omega)]; omega⟩
   ·have := mt h1.1.1 hc
    exact ⟨⟨fun h => by omega, fun h => by omega⟩, fun h => by omega⟩
  ·rw [if_neg hn]
   exact ⟨⟨fun h => by omega, fun h => by omega⟩, fun h => by omega⟩
end
mutual
theorem tyC_nd : ∀ (t : Ty) (n : Int), 0 ≤ n → ((tyC t n).1 = true ↔ shC t = true ∧ t.nd ≤ n) ∧ ((tyC t n).1 = true → (tyC t n).2 = n - t.nd)
 | .mk k v l, n, h => by
  have hp := nds_pos l
  simp only [tyC, shC, Ty.nd]
  by_cases h1 : n - 1 < 0
  ·rw [if_pos h1]
   exact ⟨⟨fun h => by simp at h, fun h => by omega⟩, fun h => by simp at h⟩
  ·rw [if_neg h1]
   by_cases hk : k = 0
   ·rw [if_pos hk, if_pos hk]
    refine ⟨⟨fun h => ⟨h, ?_⟩, fun h => h.1⟩, fun h => ?_⟩
    ·simp only [Bool.and_eq_true, decide_eq_true_eq] at h
     have : l = [] := List.eq_nil_of_length_eq_zero h.2
     subst this
     simp only [Ty.nds]; omega
    ·simp only [Bool.and_eq_true, decide_eq_true_eq] at h
     have : l = [] := List.eq_nil_of_length_eq_zero h.2
     subst this
     simp only [Ty.nds]; omega
   ·rw [if_neg hk, if_neg hk]
    by_cases hk1 : k = 1
    ·rw [if_pos hk1]
     by_cases h2 : v = 0 ∧ l.length = 2
     ·rw [if_pos h2]
      have h3 := tyCs_nd l (n - 1) (by omega)
      simp only [hk1, h2.1, h2.2, decide_true, Bool.true_and]
      refine ⟨?_, fun h => ?_⟩
      ·rw [h3.1]
       constructor
       ·rintro ⟨a, b⟩; exact ⟨a, by omega⟩
       ·rintro ⟨a, b⟩; exact ⟨a, by omega⟩
      ·rw [h3.2 h]; omega
     ·rw [if_neg h2]
      refine ⟨⟨fun h => by simp at h, fun h => ?_⟩, fun h => by simp at h⟩
      simp only [Bool.and_eq_true, decide_eq_true_eq] at h
      exact absurd ⟨h.1.1.1.2, h.1.1.2⟩ h2
    ·rw [if_neg hk1]
     refine ⟨⟨fun h => by simp at h, fun h => ?_⟩, fun h => by simp at h⟩
     simp only [Bool.and_eq_true, decide_eq_true_eq] at h
     exact absurd h.1.1.1.1 hk1
theorem tyCs_nd : ∀ (l : List Ty) (n : Int), 0 ≤ n → ((tyCs l n).1 = true ↔ shL l = true ∧ Ty.nds l ≤ n) ∧ ((tyCs l n).1 = true → (tyCs l n).2 = n - Ty.nds l)
 | [], n, h => by simp [tyCs, shL, Ty.nds, h]
 | t :: l, n, h => by
  have h1 := tyC_nd t n h
  have hp := nds_pos l
  simp only [tyCs, shL, Ty.nds, Bool.and_eq_true]
  by_cases hc : (tyC t n).1 = true
  ·rw [if_pos hc]
   have hb := tyC_bound t n h
   have h2 := tyCs_nd l (tyC t n).2 (hb.2.2 hc)
   rw [h1.2 hc] at h2 ⊢
   have h3 := h1.1.1 hc
   refine ⟨?_, fun h => ?_⟩
   ·rw [h2.1]
    constructor
    ·rintro ⟨a, b⟩; exact ⟨⟨h3.1, a⟩, by omega⟩
    ·rintro ⟨⟨_, a⟩, b⟩; exact ⟨a, by omega⟩
   ·rw [h2.2 h]; omega
  ·rw [if_neg hc]
   refine ⟨⟨fun h => by simp at h, fun h => ?_⟩, fun h => by simp at h⟩
   exact absurd (h1.1.2 ⟨h.1.1, by omega⟩) hc
end
theorem isTyR_eq (t : Ty) : isTyR t = (tyC t 20).1 := by
 have h1 := (tnC_nd t 20).1
 have h2 := (tyC_nd t 20 (by omega)).1
 unfold isTyR
 rw [Bool.eq_iff_iff, h2]
 simp only [Bool.and_eq_true, decide_eq_true_eq, h1]
 exact And.comm
theorem fun_V (a b : Ty) (ha : a.V) (hb : b.V) : decide (tnC (.mk 1 0 [a, b]) 20 ≤ 20) = (tyC (.mk 1 0 [a, b]) 20).1 := by
 have h1 := (tnC_nd (.mk 1 0 [a, b]) 20).1
 have h2 := (tyC_nd (.mk 1 0 [a, b]) 20 (by omega)).1
 have h3 := ((tyC_nd a 20 (by omega)).1.1 ha).1
 have h4 := ((tyC_nd b 20 (by omega)).1.1 hb).1
 rw [Bool.eq_iff_iff, h2]
 simp only [decide_eq_true_eq, h1, shC_two, h3, h4]
 simp
def onlyK (k : Int) (e : Expr) : Bool :=
 if k = 0 then onlyC e true true false 0 else if k = 8 then onlyC e false true false 0 else if k = 1 ∨ k = 2 then onlyC e true false false 0 else if k = 7 then onlyC e true false false 1
 else if k = 3 ∨ k = 5 then onlyC e false false false 2 else if k = 4 then onlyC e false false true 1 else onlyC e false false false (-1)
theorem plain_only (k n v : Int) (ty : Ty) (l : List Expr) (h : 0 ≤ k ∧ k ≤ 8) : plainC (.mk k n v ty l) = (onlyK k (.mk k n v ty l) && (decide (k ≠ 6) || decide (0 < l.length))) := by
 obtain ⟨tk, tv, tl⟩ := ty
 have hl : ∀ j : Nat, decide ((l.length : Int) = (j : Int)) = decide (l.length = j) := fun j => by
  rw [decide_eq_decide]; omega
 have h0 := hl 0
 have h1 := hl 1
 have h2 := hl 2
 simp only [Int.natCast_zero, Int.natCast_one, show ((2 : Nat) : Int) = 2 from rfl] at h0 h1 h2
 have hk : k = 0 ∨ k = 1 ∨ k = 2 ∨ k = 3 ∨ k = 4 ∨ k = 5 ∨ k = 6 ∨ k = 7 ∨ k = 8 := by omega
 rcases hk with rfl | rfl | rfl | rfl | rfl | rfl | rfl | rfl | rfl <;>
  simp [plainC, onlyK, onlyC, argsC, emptyC, h0, h1, h2, Bool.and_assoc]
theorem plain_bad (k n v : Int) (ty : Ty) (l : List Expr) (h : k < 0 ∨ 8 < k) : plainC (.mk k n v ty l) = false := by
 obtain ⟨tk, tv, tl⟩ := ty
 simp only [plainC, argsC]
 rw [if_neg (by omega), if_neg (by omega), if_neg (by omega), decide_eq_false (show ¬ k = 6 by omega)]
 simp
theorem only_len' {k n v : Int} {t : Ty} {l : List Expr} {a b c : Bool} {g : Nat} (h : onlyC (.mk k n v t l) a b c (g : Int) = true) : l.length = g := by
 apply Classical.byContradiction
 intro hne
 rw [only_len k n v t l a b c g (by omega) (by omega)] at h
 cases h
theorem rev_get (sc : List Ty) (n : Nat) (h : n < sc.length) : sc.reverse[sc.reverse.length - 1 - n]? = sc[n]? := by
 rw [List.getElem?_reverse (by simp; omega)]
 congr 1
 simp; omega
theorem casesR_eq (p : Prog) (sc : List Ty) (f : Ty) : ∀ (r : List Expr) (b : Bool), (∀ x ∈ r, (tRef p x sc).2 = (tImp p x sc.reverse).2 ∧ ((tImp p x sc.reverse).2 = true → (tRef p x sc).1 = (tImp p x sc.reverse).1)) →
  casesR p sc f r b = casesC p sc.reverse f r b
 | [], b, _ => rfl
 | c :: r, b, h => by
  show casesR p sc f r (b && (tRef p c sc).2 && decide (f = (tRef p c sc).1)) = casesC p sc.reverse f r (b && (tImp p c sc.reverse).2 && decide (f = (tImp p c sc.reverse).1))
  rw [casesR_eq p sc f r _ (fun x hx => h x (by simp [hx]))]
  congr 1
  obtain ⟨h1, h2⟩ := h c (by simp)
  rw [h1]
  cases hc : (tImp p c sc.reverse).2 with
  | false => simp
  | true => rw [h2 hc]
theorem casesC_false (p : Prog) (sc : List Ty) (f : Ty) : ∀ (r : List Expr), casesC p sc f r false = false
 | [] => rfl
 | c :: r => by
  show casesC p sc f r (false && _ && _) = false
  simp only [Bool.false_and]
  exact casesC_false p sc f r
theorem tRef_eq (p : Prog) (hd : ∀ d ∈ p.defs, d.param.V ∧ d.result.V) : ∀ (e : Expr) (sc : List Ty), (∀ t ∈ sc, t.V) →
  (tRef p e sc).2 = (tImp p e sc.reverse).2 ∧ ((tImp p e sc.reverse).2 = true → (tRef p e sc).1 = (tImp p e sc.reverse).1) := by
 intro e
 induction e using Expr.sind with
 | _ k n v ty l ih =>
  intro sc hs
  have hs' : ∀ t ∈ sc.reverse, t.V := fun t ht => hs t (by simpa using ht)
  by_cases hbad : k < 0 ∨ 8 < k
  ·rw [tImp_other _ _ _ _ _ _ _ hbad, tRef_not _ _ _ _ _ _ _ (plain_bad k n v ty l hbad)]
   simp
  have hpo := plain_only k n v ty l (by omega)
  cases hp : plainC (.mk k n v ty l) with
  | false =>
   rw [tRef_not _ _ _ _ _ _ _ hp]
   rw [hp] at hpo
   have hfalse : (tImp p (.mk k n v ty l) sc.reverse).2 = false := by
    rcases kind9 k with rfl | rfl | rfl | rfl | rfl | rfl | rfl | rfl | rfl | hk
    ·simp [onlyK] at hpo; rw [tImp_const, hpo]; rfl
    ·simp [onlyK] at hpo; rw [tImp_var, hpo]; rfl
    ·simp [onlyK] at hpo; rw [tImp_fun, hpo]; rfl
    ·simp [onlyK] at hpo
     by_cases h2 : l.length = 2
     ·obtain ⟨a, b, rfl⟩ := len2 h2
      rw [tImp_app, hpo]; rfl
     ·rw [tImp_app0 _ _ _ _ _ _ h2]
    ·simp [onlyK] at hpo
     by_cases h2 : l.length = 1
     ·obtain ⟨a, rfl⟩ := len1 h2
      rw [tImp_lam, hpo]; rfl
     ·rw [tImp_lam0 _ _ _ _ _ _ h2]
    ·simp [onlyK] at hpo
     by_cases h2 : l.length = 2
     ·obtain ⟨a, b, rfl⟩ := len2 h2
      rw [tImp_let, hpo]; rfl
     ·rw [tImp_let0 _ _ _ _ _ _ h2]
    ·simp [onlyK] at hpo
     rcases l with _ | ⟨a, _ | ⟨b, r⟩⟩
     ·rw [tImp_case0 _ _ _ _ _ _ (by simp)]
     ·rw [tImp_case0 _ _ _ _ _ _ (by simp)]
     ·simp at hpo
      rw [tImp_case, hpo]; rfl
    ·simp [onlyK] at hpo
     by_cases h2 : l.length = 1
     ·obtain ⟨a, rfl⟩ := len1 h2
      rw [tImp_event, hpo]; rfl
     ·rw [tImp_event0 _ _ _ _ _ _ h2]
    ·simp [onlyK] at hpo; rw [tImp_pick, hpo]; rfl
    ·omega
   exact ⟨hfalse.symm, fun h => by rw [hfalse] at h; cases h⟩
  | true =>
   rw [hp] at hpo
   have hpo := hpo.symm
   rw [Bool.and_eq_true] at hpo
   obtain ⟨hon, hlen⟩ := hpo
   rcases kind9 k with rfl | rfl | rfl | rfl | rfl | rfl | rfl | rfl | rfl | hk
   ·simp only [onlyK, if_true] at hon
    rw [tRef_const _ _ _ _ _ _ hp, tImp_const, hon]
    simp
   ·simp [onlyK] at hon
    rw [tRef_var _ _ _ _ _ _ hp, tImp_var, hon]
    simp only [Bool.true_and, List.length_reverse]
    by_cases hn : decide (0 ≤ n) && decide (n < (sc.length : Int))
    ·rw [if_pos hn, if_pos hn]
     simp only [Bool.and_eq_true, decide_eq_true_eq] at hn
     have := rev_get sc n.toNat (by omega)
     rw [List.length_reverse] at this
     rw [this]
     exact ⟨rfl, fun _ => rfl⟩
    ·rw [if_neg hn, if_neg hn]
     exact ⟨rfl, fun _ => rfl⟩
   ·simp [onlyK] at hon
    rw [tRef_fun _ _ _ _ _ _ hp, tImp_fun, hon]
    simp only [Bool.true_and]
    by_cases hn : decide (0 ≤ n) && decide (n < (p.defs.length : Int))
    ·rw [if_pos hn, if_pos hn]
     cases hdd : p.defs[n.toNat]? with
     | none => exact ⟨rfl, fun _ => rfl⟩
     | some d =>
      have := hd d (List.mem_of_getElem? hdd)
      simp only
      rw [fun_V _ _ this.1 this.2]
      exact ⟨rfl, fun _ => by first | rfl | trivial⟩
    ·rw [if_neg hn, if_neg hn]
     exact ⟨rfl, fun _ => rfl⟩
   ·simp [onlyK] at hon
    obtain ⟨a, b, rfl⟩ := len2 (only_len' (g := 2) hon)
    rw [tRef_app _ _ _ _ _ _ _ hp, tImp_app, hon]
    obtain ⟨a1, a2⟩ := ih a (by simp) sc hs
    obtain ⟨b1, b2⟩ := ih b (by simp) sc hs
    rw [a1, b1]
    simp only [if_true]
    cases ha : (tImp p a sc.reverse).2 with
    | false => simp
    | true =>
     cases hb : (tImp p b sc.reverse).2 with
     | false => simp
     | true =>
      rw [a2 ha, b2 hb]
      simp
   ·simp [onlyK] at hon
    obtain ⟨a, rfl⟩ := len1 (only_len' (g := 1) hon)
    rw [tRef_lam _ _ _ _ _ _ hp, tImp_lam, hon, isTyR_eq]
    simp only [Bool.true_and]
    cases hty : (tyC ty 20).1 with
    | false => simp
    | true =>
     obtain ⟨a1, a2⟩ := ih a (by simp) (ty :: sc) (fun t ht => by
      rcases List.mem_cons.1 ht with rfl | ht
      ·exact hty
      ·exact hs t ht)
     rw [List.reverse_cons] at a1 a2
     rw [a1]
     cases ha : (tImp p a (sc.reverse ++ [ty])).2 with
     | false => simp
     | true =>
      have hVa := tImp_V p hd a (sc.reverse ++ [ty]) (fun t ht => by
       rcases List.mem_append.1 ht with ht | ht
       ·exact hs' t ht
       ·simp only [List.mem_singleton] at ht; rw [ht]; exact hty) ha
      rw [a2 ha, fun_V _ _ hty hVa]
      simp only [Bool.true_and, if_true]
      cases (tyC (.mk 1 0 [ty, (tImp p a (sc.reverse ++ [ty])).1]) 20).1 <;> simp
   ·simp [onlyK] at hon
    obtain ⟨a, b, rfl⟩ := len2 (only_len' (g := 2) hon)
    rw [tRef_let _ _ _ _ _ _ _ hp, tImp_let, hon]
    obtain ⟨a1, a2⟩ := ih a (by simp) sc hs
    rw [a1]
    simp only [if_true]
    cases ha : (tImp p a sc.reverse).2 with
    | false => simp
    | true =>
     have hVa := tImp_V p hd a sc.reverse hs' ha
     rw [a2 ha]
     obtain ⟨b1, b2⟩ := ih b (by simp) ((tImp p a sc.reverse).1 :: sc) (fun t ht => by
      rcases List.mem_cons.1 ht with rfl | ht
      ·exact hVa
      ·exact hs t ht)
     rw [List.reverse_cons] at b1 b2
     simp only [if_true]
     exact ⟨b1, b2⟩
   ·simp [onlyK] at hon hlen
    rcases l with _ | ⟨a, _ | ⟨b, r⟩⟩
    ·simp at hlen
    ·rw [tRef_case1 _ _ _ _ _ _ hp, tImp_case0 _ _ _ _ _ _ (by simp)]
     exact ⟨rfl, fun _ => rfl⟩
    ·rw [tRef_case _ _ _ _ _ _ _ _ hp, tImp_case, hon]
     obtain ⟨a1, a2⟩ := ih a (by simp) sc hs
     obtain ⟨b1, b2⟩ := ih b (by simp) sc hs
     rw [a1]
     simp only [if_true]
     cases ha : (tImp p a sc.reverse).2 with
     | false => simp
     | true =>
      rw [a2 ha]
      simp only [if_true]
      split
      ·rw [casesR_eq p sc _ r _ (fun x hx => ih x (by simp [hx]) sc hs), b1]
       cases hb : (tImp p b sc.reverse).2 with
       | false => rw [casesC_false, casesC_false]; exact ⟨rfl, fun h => by cases h⟩
       | true => rw [b2 hb]; exact ⟨rfl, fun _ => rfl⟩
      ·exact ⟨rfl, fun _ => rfl⟩
   ·simp [onlyK] at hon
    obtain ⟨a, rfl⟩ := len1 (only_len' (g := 1) hon)
    rw [tRef_event _ _ _ _ _ _ hp, tImp_event, hon]
    obtain ⟨a1, a2⟩ := ih a (by simp) sc hs
    rw [a1]
    simp only [Bool.true_and]
    by_cases hn : decide (0 ≤ n) && decide (n < (p.events.length : Int))
    ·rw [if_pos hn]
     rw [Bool.and_assoc, hn]
     exact ⟨by simp, a2⟩
    ·rw [if_neg hn]
     rw [Bool.not_eq_true] at hn
     rw [Bool.and_assoc, hn]
     simp
   ·simp only [onlyK, show ¬ (8 : Int) = 0 by omega, if_true, if_false] at hon
    rw [tRef_pick _ _ _ _ _ _ hp, tImp_pick, hon]
    simp
   ·omega
theorem of_case1 (es : List ByteArray) (ds : List Def) (mk mn mv mtk mtv : Int) (mtl : List Ty) (ml : List Expr) (sc : List Ty) (n v tk tv : Int) (tl : List Ty)
  (ak an av atk atv : Int) (atl : List Ty) (al : List Expr)
  (ha : OfOk ⟨es, ds, .mk mk mn mv (.mk mtk mtv mtl) ml⟩ (.mk ak an av (.mk atk atv atl) al) sc)
  (h : plainC (.mk 6 n v (.mk tk tv tl) [.mk ak an av (.mk atk atv atl) al]) = true)
  (hV : (tRef ⟨es, ds, .mk mk mn mv (.mk mtk mtv mtl) ml⟩ (.mk ak an av (.mk atk atv atl) al) sc).2 = true → (tRef ⟨es, ds, .mk mk mn mv (.mk mtk mtv mtl) ml⟩ (.mk ak an av (.mk atk atv atl) al) sc).1.V) :
  OfOk ⟨es, ds, .mk mk mn mv (.mk mtk mtv mtl) ml⟩ (.mk 6 n v (.mk tk tv tl) [.mk ak an av (.mk atk atv atl) al]) sc := by
 unfold OfOk at ha ⊢
 have hp := plain_ 6 n v tk tv tl [.mk ak an av (.mk atk atv atl) al]
 rw [h] at hp
 rw [tRef_case1 _ _ _ _ _ _ h]
 generalize tRef ⟨es, ds, .mk mk mn mv (.mk mtk mtv mtl) ml⟩ (.mk ak an av (.mk atk atv atl) al) sc = T at ha hV
 obtain ⟨⟨rk, rv, rl⟩, rb⟩ := T
 cases rb with
 | false =>
  clear hV
  exact gK Tryz.func42 ([rG, rS [(1, oC hp)]] ++ (rGs 7 [rS [(4, .row 0 (xE ak an av atk atv atl al)), (6, oC ha)], rG, rG])) [.tidO 2 [none, none, some 3]] [] (ob1 (hp) (qI 0 (qC0 ((xE ak an av atk atv atl al)) [] (ob1 (ha) ob0))))
 | true =>
  have hV := hV rfl
  by_cases hk : rk = 0
  ·subst hk
   obtain ⟨w1, w2, -⟩ := V_kd0 hV rfl
   clear hV
   exact gK Tryz.func42 ([rG, rS [(1, oC hp)]] ++ (rGs 7 [rS [(4, .row 0 (xE ak an av atk atv atl al)), (6, oC ha)], rG, rG, rG, rG, rS [(9, .int (rv + 1)), (10, .bit true)], rG])) [.tidO 2 [none, none, some 3]] [] (ob1 (hp) (qI 0 (qC0 ((xE ak an av atk atv atl al)) [] (ob1 (ha) (qw (rv + 1) (qV (1 != rv + 1) ob0))))))
  ·clear hV
   exact gK Tryz.func42 ([rG, rS [(1, oC hp)]] ++ (rGs 7 [rS [(4, .row 0 (xE ak an av atk atv atl al)), (6, oC ha)], rG, rG, rG, rG, rS [(2, .bit true)], rG])) [.tidO 2 [none, none, some 3]] [] (ob1 (hp) (qI 0 (qC0 ((xE ak an av atk atv atl al)) [] (ob1 (ha) (qV (rk != 0) ob0)))))
end Go.Ae
namespace Go.Ae
open Go.Proofs
theorem of_typed (es : List ByteArray) (ds : List Def) (mk mn mv mtk mtv : Int) (mtl : List Ty) (ml : List Expr) (hes : es.length ≤ 1000) (hds : ds.length ≤ 1000) (hd : ∀ d ∈ ds, d.ok ∧ d.param.V ∧ d.result.V) :
  ∀ (e : Expr) (sc : List Ty) (d m : Int), e.ok → (szC e d m).1 = true → 0 ≤ d → m ≤ 1000 → d + sc.length ≤ 1000 → (∀ t ∈ sc, t.ok ∧ t.V) → (tImp ⟨es, ds, .mk mk mn mv (.mk mtk mtv mtl) ml⟩ e sc.reverse).2 = true →
   OfOk ⟨es, ds, .mk mk mn mv (.mk mtk mtv mtl) ml⟩ e sc ∧ (tRef ⟨es, ds, .mk mk mn mv (.mk mtk mtv mtl) ml⟩ e sc).1.ok := by
 intro e
 induction e using Expr.sind with
 | _ k n v ty l ih =>
  intro sc d m he hz hd0 hm hsc hs hT
  have hT := show tImp ⟨es, ds, .mk mk mn mv (.mk mtk mtv mtl) ml⟩ (.mk k n v ty l) sc.reverse = (_, true) from Prod.ext rfl hT
  have hsV : ScV sc.reverse := fun t ht => (hs t (by simpa using ht)).2
  have hdV := fun d h => (hd d h).2
  obtain ⟨tk, tv, tl⟩ := ty
  have hl := Expr.oks_mem he.2.2.2.2.2
  obtain ⟨hm1, hd1, hz1⟩ := szC_true hz
  obtain ⟨hlen, hmem⟩ := szCs_mem l (d - 1) (m - 1) (by omega) hz1
  have hE := fun (e : Expr) (sc : List Ty) => tRef_eq ⟨es, ds, .mk mk mn mv (.mk mtk mtv mtl) ml⟩ (fun d h => (hd d h).2) e sc
  have hV : ∀ (e : Expr) (sc : List Ty), (∀ t ∈ sc, t.V) → (tRef ⟨es, ds, .mk mk mn mv (.mk mtk mtv mtl) ml⟩ e sc).2 = true → (tRef ⟨es, ds, .mk mk mn mv (.mk mtk mtv mtl) ml⟩ e sc).1.V := fun e sc hs h => by
   obtain ⟨h1, h2⟩ := hE e sc hs
   rw [h1] at h
   rw [h2 h]
   exact tImp_V _ (fun d h => (hd d h).2) e sc.reverse (fun t ht => hs t (by simpa using ht)) h
  have rec1 : ∀ x ∈ l, ∀ sc', (sc'.length : Int) ≤ sc.length + 1 → (∀ t ∈ sc', t.ok ∧ t.V) → (tImp ⟨es, ds, .mk mk mn mv (.mk mtk mtv mtl) ml⟩ x sc'.reverse).2 = true → OfOk ⟨es, ds, .mk mk mn mv (.mk mtk mtv mtl) ml⟩ x sc' ∧ (tRef ⟨es, ds, .mk mk mn mv (.mk mtk mtv mtl) ml⟩ x sc').1.ok := fun x hx sc' h1 h2 h3 => by
   obtain ⟨n', q1, q2, q3⟩ := hmem x hx
   exact ih x hx sc' (d - 1) n' (hl x hx) q3 (by omega) (by omega) (by omega) h2 h3
  have hv : (tyF v).ok := ⟨by unfold ir; omega, he.2.2.1, by simp, trivial⟩
  by_cases hbad : k < 0 ∨ 8 < k
  ·have hp := plain_bad k n v (.mk tk tv tl) l hbad
   exact ⟨of_not _ _ _ _ _ _ _ _ _ _ _ _ _ _ _ _ _ hp, by rw [tRef_not _ _ _ _ _ _ _ hp]; exact tyZ_ok⟩
  cases hp : plainC (.mk k n v (.mk tk tv tl) l) with
  | false => exact ⟨of_not _ _ _ _ _ _ _ _ _ _ _ _ _ _ _ _ _ hp, by rw [tRef_not _ _ _ _ _ _ _ hp]; exact tyZ_ok⟩
  | true =>
   have hpo := plain_only k n v (.mk tk tv tl) l (by omega)
   rw [hp] at hpo
   have hpo := hpo.symm
   rw [Bool.and_eq_true] at hpo
   obtain ⟨hon, hlen0⟩ := hpo
   rcases kind9 k with rfl | rfl | rfl | rfl | rfl | rfl | rfl | rfl | rfl | hk
   ·exact ⟨of_const _ _ _ _ _ _ _ _ _ _ _ _ _ _ _ _ hp, by rw [tRef_const _ _ _ _ _ _ hp]; exact hv⟩
   ·refine ⟨of_var _ _ _ _ _ _ _ _ _ _ _ _ _ _ _ _ hp, ?_⟩
    rw [tRef_var _ _ _ _ _ _ hp]
    split
    ·split
     ·rename_i t ht
      exact (hs t (List.mem_of_getElem? ht)).1
     ·exact tyZ_ok
    ·exact tyZ_ok
   ·refine ⟨of_fun _ _ _ _ _ _ _ _ _ _ _ _ _ _ _ _ hds (fun d h => (hd d h).1) hp, ?_⟩
    rw [tRef_fun _ _ _ _ _ _ hp]
    split
    ·split
     ·rename_i t ht
      have := (hd t (List.mem_of_getElem? ht)).1
      exact fun_ok this.2.1 this.2.2.1
     ·exact tyZ_ok
    ·exact tyZ_ok
   ·simp [onlyK] at hon
    obtain ⟨⟨ak, an, av, ⟨atk, atv, atl⟩, al⟩, ⟨bk, bn, bv, ⟨btk, btv, btl⟩, bl⟩, rfl⟩ := len2 (only_len' (g := 2) hon)
    obtain ⟨a', b', x, hl', ha', hb'⟩ := inv_app hdV hsV hT
    cases hl'
    have ra := rec1 (.mk ak an av (.mk atk atv atl) al) (by simp) sc (by omega) hs (by rw [ha'])
    have rb := rec1 (.mk bk bn bv (.mk btk btv btl) bl) (by simp) sc (by omega) hs (by rw [hb'])
    refine ⟨of_app _ _ _ _ _ _ _ _ _ _ _ _ _ _ _ _ _ _ _ _ _ _ _ _ _ _ _ _ _ hp ra.1 rb.1 fun h => ?_, ?_⟩
    ·have v1 := hV _ sc (fun t ht => (hs t ht).2) h
     have o1 := ra.2
     generalize (tRef ⟨es, ds, .mk mk mn mv (.mk mtk mtv mtl) ml⟩ (.mk ak an av (.mk atk atv atl) al) sc).1 = T at v1 o1
     obtain ⟨k, w, l⟩ := T
     refine ⟨k, w, l, rfl, fun hk => ?_⟩
     obtain ⟨a, b, rfl, _, _, _⟩ := V_two v1 hk
     exact ⟨a, b, rfl, Ty.oks_mem o1.2.2.2 a (by simp)⟩
    ·rw [tRef_app _ _ _ _ _ _ _ hp]
     split
     ·split
      ·exact appC_ok ra.2
      ·exact tyZ_ok
     ·exact tyZ_ok
   ·simp [onlyK] at hon
    obtain ⟨⟨ak, an, av, ⟨atk, atv, atl⟩, al⟩, rfl⟩ := len1 (only_len' (g := 1) hon)
    obtain ⟨a', b', hl', hv1, ha', _⟩ := inv_lam hT
    cases hl'
    ·have hs' : ∀ t ∈ Ty.mk tk tv tl :: sc, t.ok ∧ t.V := fun t ht => by
      rcases List.mem_cons.1 ht with rfl | ht
      ·exact ⟨he.2.2.2.1, hv1⟩
      ·exact hs t ht
     have ra := rec1 (.mk ak an av (.mk atk atv atl) al) (by simp) (Ty.mk tk tv tl :: sc) (by simp) hs' (by rw [rev_snoc, ha'])
     exact ⟨of_lam _ _ _ _ _ _ _ _ _ _ _ _ _ _ _ _ _ _ _ _ _ _ hp (by omega) he.2.2.2.1 ra.1 ra.2, by rw [tRef_lam _ _ _ _ _ _ hp]; exact fun_ok he.2.2.2.1 ra.2⟩
   ·simp [onlyK] at hon
    obtain ⟨⟨ak, an, av, ⟨atk, atv, atl⟩, al⟩, ⟨bk, bn, bv, ⟨btk, btv, btl⟩, bl⟩, rfl⟩ := len2 (only_len' (g := 2) hon)
    obtain ⟨a', b', x, hl', ha', hb'⟩ := inv_let hT
    cases hl'
    have ra := rec1 (.mk ak an av (.mk atk atv atl) al) (by simp) sc (by omega) hs (by rw [ha'])
    have hb : ∀ t, (tRef ⟨es, ds, .mk mk mn mv (.mk mtk mtv mtl) ml⟩ (.mk ak an av (.mk atk atv atl) al) sc) = (t, true) →
      OfOk ⟨es, ds, .mk mk mn mv (.mk mtk mtv mtl) ml⟩ (.mk bk bn bv (.mk btk btv btl) bl) (t :: sc) ∧ (tRef ⟨es, ds, .mk mk mn mv (.mk mtk mtv mtl) ml⟩ (.mk bk bn bv (.mk btk btv btl) bl) (t :: sc)).1.ok := fun t ht => by
     have htx : t = x := by
      have e := hE (.mk ak an av (.mk atk atv atl) al) sc (fun t h => (hs t h).2)
      rw [ht, ha'] at e
      exact e.2 rfl
     refine rec1 _ (by simp) _ (by simp) (fun u hu => ?_) (by rw [htx, rev_snoc, hb'])
     rcases List.mem_cons.1 hu with rfl | hu
     ·have v1 := hV (.mk ak an av (.mk atk atv atl) al) sc (fun t ht => (hs t ht).2) (by rw [ht])
      have o1 := ra.2
      rw [ht] at v1 o1
      exact ⟨o1, v1⟩
     ·exact hs u hu
    refine ⟨of_let _ _ _ _ _ _ _ _ _ _ _ _ _ _ _ _ _ _ _ _ _ _ _ _ _ _ _ _ _ (by omega) hp ra.1 fun t ht => (hb t ht).1, ?_⟩
    rw [tRef_let _ _ _ _ _ _ _ hp]
    split
    ·rename_i h2
     exact (hb _ (Prod.ext rfl h2)).2
    ·exact tyZ_ok
   ·simp [onlyK] at hon hlen0
    rcases l with _ | ⟨⟨ak, an, av, ⟨atk, atv, atl⟩, al⟩, _ | ⟨⟨bk, bn, bv, ⟨btk, btv, btl⟩, bl⟩, r⟩⟩
    ·simp at hlen0
    ·obtain ⟨a', r', hl', ha', hr'⟩ := inv_case hdV hsV hT
     cases hl'
     have ra := rec1 (.mk ak an av (.mk atk atv atl) al) (by simp) sc (by omega) hs (by rw [ha'])
     exact ⟨of_case1 _ _ _ _ _ _ _ _ _ _ _ _ _ _ _ _ _ _ _ _ _ _ ra.1 hp (hV _ sc (fun t ht => (hs t ht).2)), by rw [tRef_case1 _ _ _ _ _ _ hp]; exact tyZ_ok⟩
    ·obtain ⟨a', r', hl', ha', hr'⟩ := inv_case hdV hsV hT
     cases hl'
     have ra := rec1 (.mk ak an av (.mk atk atv atl) al) (by simp) sc (by omega) hs (by rw [ha'])
     have rb := rec1 (.mk bk bn bv (.mk btk btv btl) bl) (by simp) sc (by omega) hs (by rw [hr' _ (by simp)])
     refine ⟨of_case _ _ _ _ _ _ _ _ _ _ _ _ _ _ _ _ _ _ _ _ _ _ _ _ _ _ _ _ _ _ (by simp at hlen; omega) ra.1 rb.1 (fun x hx => (rec1 _ (by simp [hx]) sc (by omega) hs (by rw [hr' _ (by simp [hx])])).1) hp (hV _ sc (fun t ht => (hs t ht).2)) rb.2, ?_⟩
     rw [tRef_case _ _ _ _ _ _ _ _ hp]
     split
     ·split
      ·exact rb.2
      ·exact tyZ_ok
     ·exact tyZ_ok
   ·simp [onlyK] at hon
    obtain ⟨⟨ak, an, av, ⟨atk, atv, atl⟩, al⟩, rfl⟩ := len1 (only_len' (g := 1) hon)
    obtain ⟨a', hl', _, _, ha'⟩ := inv_event hT
    cases hl'
    have ra := rec1 (.mk ak an av (.mk atk atv atl) al) (by simp) sc (by omega) hs (by rw [ha'])
    exact ⟨of_event _ _ _ _ _ _ _ _ _ _ _ _ _ _ _ _ _ _ _ _ _ _ hp hes ra.1, by rw [tRef_event _ _ _ _ _ _ hp]; exact ra.2⟩
   ·exact ⟨of_pick _ _ _ _ _ _ _ _ _ _ _ _ _ _ _ _ hp, by rw [tRef_pick _ _ _ _ _ _ hp]; exact hv⟩
   ·omega
end Go.Ae
namespace Go.Ae
open Go.Proofs
section
variable (es : List ByteArray) (ds : List Def) (mk mn mv mtk mtv : Int) (mtl : List Ty) (ml : List Expr)
theorem small_loop0 (hn : ds.length ≤ 1000) (hok : ∀ d ∈ ds, d.ok) : ∀ (us : List Def) (i : Nat) (n : Int), ds.drop i = us → 1 ≤ n → n + bodies us ≤ 400 →
  Lp Tryz.prog 50 0 (loopN Tryz.f40 0) ⟨lookT [(1, .lp 0 0), (3, I n), (4, I (i : Int))], [.cells (Prog.enc ⟨es, ds, .mk mk mn mv (.mk mtk mtv mtl) ml⟩) []]⟩
   (.exit 0) ⟨lookT [(1, .lp 0 0), (3, I (n + bodies us))], [.cells (Prog.enc ⟨es, ds, .mk mk mn mv (.mk mtk mtv mtl) ml⟩) []]⟩
 | [], i, n, hd, h1, h2 => by
  have hi := drop_end hd
  simp only [bodies, Int.add_zero] at h2 ⊢
  clear hd hok
  exact lL [rS [(3, .int (ds.length : Int)), (4, .bit false)]] [.keep [(1, []), (3, [])]] (qN Def.encs ds (qF ((i : Int) < (ds.length : Int)) ob0))
 | d :: us, i, n, hd, h1, h2 => by
  have hi := drop_lt hd
  have hp := bodies_pos us
  have hdok := (hok d (List.mem_of_getElem? (drop_get hd))).2.2.2
  have hnp : (1 : Int) ≤ (d.body.nodes : Int) := by have := nodes_pos d.body; omega
  have hc := nodes_ d.body 400 hdok (by omega) (by omega)
  simp only [bodies] at h2 ⊢
  rw [ndC_nodes d.body 400 (by omega)] at hc
  have ih := small_loop0 hn hok us (i + 1) (n + d.body.nodes) (drop_next hd) (by omega) (by omega)
  rw [← Int.add_assoc]
  generalize ((d.body.nodes : Nat) : Int) = w at hc ih h2 hnp ⊢
  obtain ⟨nm, ⟨pk, pv, pl⟩, ⟨rk, rv, rl⟩, ⟨bk, bn, bv, ⟨btk, btv, btl⟩, bl⟩⟩ := d
  have hx : (Def.encs ds)[i]? = some (Def.mk nm (.mk pk pv pl) (.mk rk rv rl) (.mk bk bn bv (.mk btk btv btl) bl)).enc := by rw [Def.encs_get, drop_get hd]; rfl
  generalize n + w + bodies us = R at ih ⊢
  clear hd hok hdok
  simp only [Int.natCast_add] at ih
  exact lN [rS [(3, .int (ds.length : Int)), (4, .bit true), (7, .bit true)], rS [(4, oW hx), (7, oC hc), (8, .int (n + w))], rS [(1, .int ((i : Int) + 1))]] [.keep [(1, []), (3, []), (4, [])]] (qN Def.encs ds (qT ((i : Int) < (ds.length : Int)) (qT (n ≤ 400) (qI i (ob1 hx (ob1 (hc) (qw (n + w) (qw ((i : Int) + 1) ob0)))))))) (ih)
theorem small_loop1 (hn : ds.length ≤ 1000) (hok : ∀ d ∈ ds, d.ok) (hdp : ∀ d ∈ ds, dpC d.body ≤ 30) : ∀ (us : List Def) (i : Nat), ds.drop i = us →
  Lp Tryz.prog 50 0 (loopN Tryz.f40 1) ⟨lookT [(39, .sl 14 (Def.encs ds) false), (40, I (ds.length : Int)), (41, I (i : Int))], []⟩
   (.exit 2) ⟨lookT [], []⟩
 | [], i, hd => by
  have hi := drop_end hd
  clear hd hok hdp
  exact lL [rS [(0, .bit false)]] [.keep []] (qF ((i : Int) < (ds.length : Int)) ob0)
 | d :: us, i, hd => by
  have hi := drop_lt hd
  have hm := List.mem_of_getElem? (drop_get hd)
  have hd30 := hdp d hm
  have hc := depth_ d.body (hok d hm).2.2.2 (by omega)
  have ih := small_loop1 hn hok hdp us (i + 1) (drop_next hd)
  generalize dpC d.body = w at hc hd30
  obtain ⟨nm, ⟨pk, pv, pl⟩, ⟨rk, rv, rl⟩, ⟨bk, bn, bv, ⟨btk, btv, btl⟩, bl⟩⟩ := d
  have hx : (Def.encs ds)[i]? = some (Def.mk nm (.mk pk pv pl) (.mk rk rv rl) (.mk bk bn bv (.mk btk btv btl) bl)).enc := by rw [Def.encs_get, drop_get hd]; rfl
  clear hd hok hm hdp
  simp only [Int.natCast_add] at ih
  exact lN [rS [(0, .bit true)], rS [(0, oW hx)], rS [(2, oC hc), (3, .bit false)], rS [(0, .int ((i : Int) + 1))]] [.keep [(39, []), (40, []), (41, [])]] (qT ((i : Int) < (ds.length : Int)) (qI i (ob1 hx (ob1 (hc) (qF (30 < w) (qw ((i : Int) + 1) ob0)))))) (ih)
theorem small_ (hn : ds.length ≤ 1000) (hok : ∀ d ∈ ds, d.ok) (hmok : (Expr.mk mk mn mv (.mk mtk mtv mtl) ml).ok) (hdp : ∀ d ∈ ds, dpC d.body ≤ 30) (hmdp : dpC (Expr.mk mk mn mv (.mk mtk mtv mtl) ml) ≤ 30)
  (htot : ((Expr.mk mk mn mv (.mk mtk mtv mtl) ml).nodes : Int) + bodies ds ≤ 400) :
  SC 40 [.agg (Prog.enc ⟨es, ds, .mk mk mn mv (.mk mtk mtv mtl) ml⟩)] [] (B true) [] := by
 have hp := bodies_pos ds
 have hnp : (1 : Int) ≤ ((Expr.mk mk mn mv (.mk mtk mtv mtl) ml).nodes : Int) := by have := nodes_pos (Expr.mk mk mn mv (.mk mtk mtv mtl) ml); omega
 have h1 := nodes_ (Expr.mk mk mn mv (.mk mtk mtv mtl) ml) 400 hmok (by omega) (by omega)
 rw [ndC_nodes _ 400 (by omega)] at h1
 have h2 := depth_ (Expr.mk mk mn mv (.mk mtk mtv mtl) ml) hmok (by omega)
 have lp0 := small_loop0 es ds mk mn mv mtk mtv mtl ml hn hok ds 0 _ rfl (by omega) htot
 have lp1 := small_loop1 ds hn hok hdp ds 0 rfl
 generalize (((Expr.mk mk mn mv (.mk mtk mtv mtl) ml).nodes : Nat) : Int) = w at h1 lp0 htot hnp
 generalize dpC (Expr.mk mk mn mv (.mk mtk mtv mtl) ml) = v at h2 hmdp
 generalize w + bodies ds = R at lp0 htot
 clear hok hmok hdp
 exact gF Tryz.func40 [rG, rS [(2, oC h1)], rG, oL [.keep [(1, []), (3, []), (4, [])]] lp0, rS [(1, .bit false), (5, oC h2), (6, .bit false)], rS [(2, .int (ds.length : Int))], oL [.keep [(39, []), (40, []), (41, [])]] lp1, rG] (ob1 (h1) (ob1 (lp0) (qF (400 < R) (ob1 (h2) (qF (30 < v) (qN Def.encs ds (ob1 (lp1) ob0)))))))
theorem is_loop0 (hn : ds.length ≤ 1000) (hok : ∀ d ∈ ds, d.ok) (hV : ∀ d ∈ ds, d.param.V ∧ d.result.V) : ∀ (us : List Def) (i : Nat), ds.drop i = us →
  Lp Tryz.prog 96 0 (loopN Tryz.f20 0) ⟨lookT [(1, .lp 0 0), (39, .sl 14 (Def.encs ds) false), (40, I (ds.length : Int)), (41, I (i : Int))], [.cells (Prog.enc ⟨es, ds, .mk mk mn mv (.mk mtk mtv mtl) ml⟩) []]⟩
   (.exit 0) ⟨lookT [(1, .lp 0 0)], [.cells (Prog.enc ⟨es, ds, .mk mk mn mv (.mk mtk mtv mtl) ml⟩) []]⟩
 | [], i, hd => by
  have hi := drop_end hd
  clear hd hok hV
  exact lL [rS [(0, .bit false)]] [.keep [(1, [])]] (qF ((i : Int) < (ds.length : Int)) ob0)
 | d :: us, i, hd => by
  have hi := drop_lt hd
  have hm := List.mem_of_getElem? (drop_get hd)
  have h1 := refIsTy_ d.param (hok d hm).2.1
  have h2 := refIsTy_ d.result (hok d hm).2.2.1
  have v1 : isTyR d.param = true := by rw [isTyR_eq]; exact (hV d hm).1
  have v2 : isTyR d.result = true := by rw [isTyR_eq]; exact (hV d hm).2
  unfold isTyR at v1 v2
  rw [v1] at h1
  rw [v2] at h2
  have ih := is_loop0 hn hok hV us (i + 1) (drop_next hd)
  clear v1 v2
  obtain ⟨nm, ⟨pk, pv, pl⟩, ⟨rk, rv, rl⟩, ⟨bk, bn, bv, ⟨btk, btv, btl⟩, bl⟩⟩ := d
  have hx : (Def.encs ds)[i]? = some (Def.mk nm (.mk pk pv pl) (.mk rk rv rl) (.mk bk bn bv (.mk btk btv btl) bl)).enc := by rw [Def.encs_get, drop_get hd]; rfl
  clear hd hok hm hV
  simp only [Int.natCast_add] at ih
  exact lN [rS [(0, .bit true)], rS [(0, oW hx)], rS [(2, oC h1), (7, oC h2)], rS [(0, .int ((i : Int) + 1))]] [.keep [(1, []), (39, []), (40, []), (41, [])]] (qT ((i : Int) < (ds.length : Int)) (qI i (ob1 hx (ob1 (h1) (ob1 (h2) (qw ((i : Int) + 1) ob0)))))) (ih)
theorem is_loop1 (hn : ds.length ≤ 1000) (hok : ∀ d ∈ ds, d.ok) (hof : ∀ d ∈ ds, SC 42 [.agg (Prog.enc ⟨es, ds, .mk mk mn mv (.mk mtk mtv mtl) ml⟩), .sl 3 (Ty.encs [d.param]) false, .agg d.body.enc] [] (.tup [.agg d.result.enc, B true]) []) : ∀ (us : List Def) (i : Nat), ds.drop i = us →
  Lp Tryz.prog 96 0 (loopN Tryz.f20 1) ⟨lookT [(1, .lp 0 0), (57, .sl 14 (Def.encs ds) false), (58, I (ds.length : Int)), (59, I (i : Int))], [.cells (Prog.enc ⟨es, ds, .mk mk mn mv (.mk mtk mtv mtl) ml⟩) []]⟩
   (.exit 2) ⟨lookT [(1, .lp 0 0)], [.cells (Prog.enc ⟨es, ds, .mk mk mn mv (.mk mtk mtv mtl) ml⟩) []]⟩
 | [], i, hd => by
  have hi := drop_end hd
  clear hd hok hof
  exact lL [rS [(0, .bit false)]] [.keep [(1, [])]] (qF ((i : Int) < (ds.length : Int)) ob0)
 | d :: us, i, hd => by
  have hi := drop_lt hd
  have hm := List.mem_of_getElem? (drop_get hd)
  have h1 := hof d hm
  have h2 := eqTy_1 d.result d.result (hok d hm).2.2.1
  rw [decide_eq_true rfl] at h2
  have ih := is_loop1 hn hok hof us (i + 1) (drop_next hd)
  obtain ⟨nm, ⟨pk, pv, pl⟩, ⟨rk, rv, rl⟩, ⟨bk, bn, bv, ⟨btk, btv, btl⟩, bl⟩⟩ := d
  have hx : (Def.encs ds)[i]? = some (Def.mk nm (.mk pk pv pl) (.mk rk rv rl) (.mk bk bn bv (.mk btk btv btl) bl)).enc := by rw [Def.encs_get, drop_get hd]; rfl
  clear hd hok hm hof
  simp only [Int.natCast_add] at ih
  exact lN [rS [(0, .bit true)], rS [(0, oW hx)], rS [(6, oC h1)], rS [(6, oC h2)], rS [(0, .int ((i : Int) + 1))]] [.keep [(1, []), (57, []), (58, []), (59, [])]] (qT ((i : Int) < (ds.length : Int)) (qI i (ob1 hx (ob1 (h1) (ob1 (h2) (qw ((i : Int) + 1) ob0)))))) (ih)
end
theorem is_ {p : Prog} (hv : Valid p) (hp : p.ok) : SC 20 [.agg p.enc] [] (B true) [] := by
 obtain ⟨o1, o2, o3, o4, o5⟩ := hp
 obtain ⟨v1, v2, pt, -, -, v5, nm1, nm2, tot, dsz, k, k1, k2, mty⟩ := hv
 obtain ⟨es, ds, mk, mn, mv, ⟨mtk, mtv, mtl⟩, ml⟩ := p
 simp only at o1 o2 o3 o4 o5 v1 v2 v5 nm1 nm2 tot dsz
 have hdV := pt.defsV
 simp only at hdV
 have hdd : ∀ d ∈ ds, d.ok ∧ d.param.V ∧ d.result.V := fun d h => ⟨o4 d h, hdV d h⟩
 have hu1 := unlike_ es (by omega) o2 nm1
 have hu2 := unlike_ (ds.map (·.name)) (by simp; omega) (fun s hs => by
  simp only [List.mem_map] at hs
  obtain ⟨d, hd, rfl⟩ := hs
  exact (o4 d hd).1) nm2
 have hN := names_ es ds mk mn mv mtk mtv mtl ml (by omega)
 have hS := small_ es ds mk mn mv mtk mtv mtl ml (by omega) o4 o5 (fun d hd => by
  obtain ⟨n, _, _, hz⟩ := dsz d hd
  exact szC_dp _ 30 n (by omega) hz) (szC_dp _ 30 400 (by omega) v5) tot
 have l0 := is_loop0 es ds mk mn mv mtk mtv mtl ml (by omega) o4 hdV ds 0 rfl
 have hof : ∀ d ∈ ds, SC 42 [.agg (Prog.enc ⟨es, ds, .mk mk mn mv (.mk mtk mtv mtl) ml⟩), .sl 3 (Ty.encs [d.param]) false, .agg d.body.enc] [] (.tup [.agg d.result.enc, B true]) [] := fun d hd => by
  obtain ⟨n, n0, n1, hz⟩ := dsz d hd
  have ht := (pt.defs d hd).1
  have hE := tRef_eq ⟨es, ds, .mk mk mn mv (.mk mtk mtv mtl) ml⟩ hdV d.body [d.param] (fun t ht => by simp only [List.mem_singleton] at ht; subst ht; exact (hdV d hd).1)
  have := (of_typed es ds mk mn mv mtk mtv mtl ml (by omega) (by omega) hdd d.body [d.param] 30 n (o4 d hd).2.2.2 hz (by omega) (by omega) (by simp) (fun t ht => by
   simp only [List.mem_singleton] at ht; subst ht; exact ⟨(o4 d hd).2.1, (hdV d hd).1⟩) (by simp only [List.reverse_cons, List.reverse_nil, List.nil_append]; rw [ht])).1
  unfold OfOk at this
  simp only [List.reverse_cons, List.reverse_nil, List.nil_append] at hE
  rw [ht] at hE
  rw [hE.1, hE.2 rfl] at this
  exact this
 have l1 := is_loop1 es ds mk mn mv mtk mtv mtl ml (by omega) o4 hof ds 0 rfl
 have hM : SC 42 [.agg (Prog.enc ⟨es, ds, .mk mk mn mv (.mk mtk mtv mtl) ml⟩), .sl 3 [] false, .agg (Expr.enc (.mk mk mn mv (.mk mtk mtv mtl) ml))] [] (.tup [.agg (tyF k).enc, B true]) [] := by
  have hE := tRef_eq ⟨es, ds, .mk mk mn mv (.mk mtk mtv mtl) ml⟩ hdV (.mk mk mn mv (.mk mtk mtv mtl) ml) [] (by simp)
  have := (of_typed es ds mk mn mv mtk mtv mtl ml (by omega) (by omega) hdd (.mk mk mn mv (.mk mtk mtv mtl) ml) [] 30 400 o5 v5 (by omega) (by omega) (by simp) (by simp) (by simp only [List.reverse_nil]; rw [mty])).1
  unfold OfOk at this
  simp only [List.reverse_nil] at hE
  rw [mty] at hE
  rw [hE.1, hE.2 rfl] at this
  exact this
 clear hof hdd hdV pt o2 o4 o5 v5 nm1 nm2 tot dsz mty o1 o3
 generalize strs (ds.map (·.name)) = R at hN hu2
 exact gF Tryz.func20 [rG, rS [(2, .int (es.length : Int)), (3, .bit false), (7, .int (ds.length : Int)), (8, .bit false), (13, oC hu1), (18, oC hN), (19, oC hu2), (24, oC hS)], rS [(2, .int (ds.length : Int))], oL [.keep [(1, []), (39, []), (40, []), (41, [])]] l0, rS [(2, .int (ds.length : Int))], oL [.keep [(1, []), (57, []), (58, []), (59, [])]] l1, rS [(3, oC hM)], rG] (qN strs es (qF (16 < (es.length : Int)) (qN Def.encs ds (qF (16 < (ds.length : Int)) (ob1 (hu1) (ob1 (hN) (ob1 (hu2) (ob1 (hS) (qN Def.encs ds (ob1 (l0) (qN Def.encs ds (ob1 (l1) (ob1 (hM) ob0)))))))))))))
end Go.Ae
namespace Go.Ae
open Go.Proofs
theorem take_last {α : Type} (R : List α) (x : α) (n : Int) (h : n = R.length) : (R ++ [x]).take n.toNat = R := by subst h; simp
theorem set_last {α : Type} (R : List α) (x y : α) : (R ++ [x]).set R.length y = R ++ [y] := by simp
inductive RV where
 | mk (kind n : Int) (e : Expr) (env : List RV)
mutual
def RV.enc : RV → List AV
 | .mk k n e env => I k :: I n :: (e.enc ++ [.sl 10 (RV.encs env) false])
def RV.encs : List RV → List (List AV)
 | [] => []
 | v :: l => v.enc :: RV.encs l
end
@[simp] theorem RV.encs_length : ∀ l : List RV, (RV.encs l).length = l.length
 | [] => rfl
 | _ :: l => by simp [RV.encs, RV.encs_length l]
theorem RV.encs_get : ∀ (l : List RV) (i : Nat), (RV.encs l)[i]? = (l[i]?).map RV.enc
 | [], i => by simp [RV.encs]
 | t :: l, 0 => by simp [RV.encs]
 | t :: l, i + 1 => by simp [RV.encs, RV.encs_get l i]
structure RF where
 kind : Int
 e : Expr
 env : List RV
 f : RV
def RF.enc : RF → List AV
 | ⟨k, e, env, f⟩ => I k :: (e.enc ++ (.sl 10 (RV.encs env) false :: f.enc))
def RF.encs : List RF → List (List AV)
 | [] => []
 | v :: l => v.enc :: RF.encs l
@[simp] theorem RF.encs_length : ∀ l : List RF, (RF.encs l).length = l.length
 | [] => rfl
 | _ :: l => by simp [RF.encs, RF.encs_length l]
theorem RF.encs_append : ∀ (l r : List RF), RF.encs (l ++ r) = RF.encs l ++ RF.encs r
 | [], r => rfl
 | n :: l, r => by simp [RF.encs, RF.encs_append l r]
structure RS where
 e : Expr
 env : List RV
 v : RV
 back : Bool
 st : List RF
def RS.enc (p : Prog) : RS → List AV
 | ⟨e, env, v, b, st⟩ => p.enc ++ (e.enc ++ (.sl 10 (RV.encs env) false :: (v.enc ++ [B b, .sl 19 (RF.encs st) false])))
def eZ : Expr := .mk 0 0 0 tyZ []
def rZ : RV := .mk 0 0 eZ []
mutual
def conv : Vl → RV
 | .mk n f lam env => match lam with
  | some e => .mk 2 0 e (convL env)
  | none => if f = 0 then .mk 0 n eZ [] else .mk 1 (f - 1) eZ []
def convL : List Vl → List RV
 | [] => []
 | v :: l => conv v :: convL l
end
@[simp] theorem convL_length : ∀ l : List Vl, (convL l).length = l.length
 | [] => rfl
 | _ :: l => by simp [convL, convL_length l]
theorem convL_get : ∀ (l : List Vl) (i : Nat), (convL l)[i]? = (l[i]?).map conv
 | [], i => by simp [convL]
 | t :: l, 0 => by simp [convL]
 | t :: l, i + 1 => by simp [convL, convL_get l i]
def convF : Fr → RF
 | ⟨k, e, env, f⟩ => if k = 1 then ⟨1, eZ, [], conv f⟩ else ⟨k, e.getD eZ, convL env, rZ⟩
def convR (l : List Fr) : List RF := (l.map convF).reverse
@[simp] theorem convR_length (l : List Fr) : (convR l).length = l.length := by simp [convR]
theorem convR_cons (f : Fr) (l : List Fr) : convR (f :: l) = convR l ++ [convF f] := by simp [convR]
end Go.Ae
namespace Go.Ae
open Go.Proofs
theorem with_ (vk vn xk xn xv xtk xtv : Int) (xtl : List Ty) (xl : List Expr) (ve : List RV) (env : List RV) (h : env.length ≤ 100000) :
  SC 84 [.agg (RV.enc (.mk vk vn (.mk xk xn xv (.mk xtk xtv xtl) xl) ve)), .sl 10 (RV.encs env) false] [] (.sl 10 (RV.encs ((.mk vk vn (.mk xk xn xv (.mk xtk xtv xtl) xl) ve) :: env)) false) [] := by
 exact gK Tryz.func84 [rG, rG] [] [some 10] (q (Fits (1 + List.length (RV.encs env)) 1 128) ob0)
section
variable (es : List ByteArray) (ds : List Def) (mk mn mv mtk mtv : Int) (mtl : List Ty) (ml : List Expr) (ek en ev etk etv : Int) (etl : List Ty) (el : List Expr) (env : List RV) (vk vn xk xn xv xtk xtv : Int) (xtl : List Ty) (xl : List Expr) (ve : List RV) (b : Bool) (st : List RF)
theorem run_ (ak an av atk atv : Int) (atl : List Ty) (al : List Expr) (env2 : List RV) :
  SC 80 [(.agg (RS.enc ⟨es, ds, .mk mk mn mv (.mk mtk mtv mtl) ml⟩ ⟨(.mk ek en ev (.mk etk etv etl) el), env, (.mk vk vn (.mk xk xn xv (.mk xtk xtv xtl) xl) ve), b, st⟩)), .agg (Expr.enc (.mk ak an av (.mk atk atv atl) al)), .sl 10 (RV.encs env2) false] [] (.agg (RS.enc ⟨es, ds, .mk mk mn mv (.mk mtk mtv mtl) ml⟩ ⟨(.mk ak an av (.mk atk atv atl) al), env2, rZ, false, st⟩)) [] := by
 exact gK Tryz.func80 (rGs 6 []) [.tidO 2 [some 1, some 14, none, none, none, none, none, some 3, some 7, none, none, none, none, none, some 3, some 7, some 10, none, none, none, none, none, none, none, some 3, some 7, some 10, none, some 19]] [] ob0
theorem give_ (wk wn yk yn yv ytk ytv : Int) (ytl : List Ty) (yl : List Expr) (we : List RV) :
  SC 81 [(.agg (RS.enc ⟨es, ds, .mk mk mn mv (.mk mtk mtv mtl) ml⟩ ⟨(.mk ek en ev (.mk etk etv etl) el), env, (.mk vk vn (.mk xk xn xv (.mk xtk xtv xtl) xl) ve), b, st⟩)), .agg (RV.enc (.mk wk wn (.mk yk yn yv (.mk ytk ytv ytl) yl) we))] [] (.agg (RS.enc ⟨es, ds, .mk mk mn mv (.mk mtk mtv mtl) ml⟩ ⟨(.mk ek en ev (.mk etk etv etl) el), env, (.mk wk wn (.mk yk yn yv (.mk ytk ytv ytl) yl) we), true, st⟩)) [] := by
 exact gK Tryz.func81 (rGs 4 []) [.tidO 2 [some 1, some 14, none, none, none, none, none, some 3, some 7, none, none, none, none, none, some 3, some 7, some 10, none, none, none, none, none, none, none, some 3, some 7, some 10, none, some 19]] [] ob0
theorem top_ (fk gk gn gv gtk gtv : Int) (gtl : List Ty) (gl : List Expr) (fe : List RV) (hk hn zk zn zv ztk ztv : Int) (ztl : List Ty) (zl : List Expr) (hf : List RV) (h : st.length ≤ 4294967296) :
  SC 82 [(.agg (RS.enc ⟨es, ds, .mk mk mn mv (.mk mtk mtv mtl) ml⟩ ⟨(.mk ek en ev (.mk etk etv etl) el), env, (.mk vk vn (.mk xk xn xv (.mk xtk xtv xtl) xl) ve), b, st ++ [(RF.mk fk (.mk gk gn gv (.mk gtk gtv gtl) gl) fe (.mk hk hn (.mk zk zn zv (.mk ztk ztv ztl) zl) hf))]⟩))] [] (.agg (RF.mk fk (.mk gk gn gv (.mk gtk gtv gtl) gl) fe (.mk hk hn (.mk zk zn zv (.mk ztk ztv ztl) zl) hf)).enc) [] := by
 have hx := getLast_get (RF.encs st) (RF.mk fk (.mk gk gn gv (.mk gtk gtv gtl) gl) fe (.mk hk hn (.mk zk zn zv (.mk ztk ztv ztl) zl) hf)).enc
 have he : RF.encs (st ++ [(RF.mk fk (.mk gk gn gv (.mk gtk gtv gtl) gl) fe (.mk hk hn (.mk zk zn zv (.mk ztk ztv ztl) zl) hf))]) = RF.encs st ++ [(RF.mk fk (.mk gk gn gv (.mk gtk gtv gtl) gl) fe (.mk hk hn (.mk zk zn zv (.mk ztk ztv ztl) zl) hf)).enc] := by rw [RF.encs_append]; rfl
 have hl : (RF.encs st).length = st.length := RF.encs_length st
 simp only [RS.enc]
 rw [he]
 generalize RF.encs st = R at hx hl ⊢
 clear he
 exact gK Tryz.func82 [rG, rS [(4, .int ((R.length : Int) + 1)), (5, .int ((R.length : Int) + 1 - 1)), (6, .row (List.length R) (RF.enc { kind := fk, e := Expr.mk gk gn gv (Ty.mk gtk gtv gtl) gl, env := fe, f := RV.mk hk hn (Expr.mk zk zn zv (Ty.mk ztk ztv ztl) zl) hf }))]] [.tidO 1 [none, none, none, none, none, none, some 3, some 7, some 10, none, none, none, none, none, none, none, some 3, some 7, some 10]] [] (q ((↑(List.length (R ++ [[I fk, I gk, I gn, I gv, I gtk, I gtv, .sl 3 (Ty.encs gtl) false, .sl 7 (Expr.encs gl) false, .sl 10 (RV.encs fe) false, I hk, I hn, I zk, I zn, I zv, I ztk, I ztv, .sl 3 (Ty.encs ztl) false, .sl 7 (Expr.encs zl) false, .sl 10 (RV.encs hf) false]])) : Int) = (R.length : Int) + 1) (qw ((R.length : Int) + 1 - 1) (q ((R.length : Int) + 1 - 1 = (R.length : Int)) (q ((R ++ [[I fk, I gk, I gn, I gv, I gtk, I gtv, .sl 3 (Ty.encs gtl) false, .sl 7 (Expr.encs gl) false, .sl 10 (RV.encs fe) false, I hk, I hn, I zk, I zn, I zv, I ztk, I ztv, .sl 3 (Ty.encs ztl) false, .sl 7 (Expr.encs zl) false, .sl 10 (RV.encs hf) false]])[List.length R]? = some (RF.enc { kind := fk, e := Expr.mk gk gn gv (Ty.mk gtk gtv gtl) gl, env := fe, f := RV.mk hk hn (Expr.mk zk zn zv (Ty.mk ztk ztv ztl) zl) hf })) ob0))))
theorem pop_ (f : RF) (h : st.length ≤ 4294967296) :
  SC 83 [(.agg (RS.enc ⟨es, ds, .mk mk mn mv (.mk mtk mtv mtl) ml⟩ ⟨(.mk ek en ev (.mk etk etv etl) el), env, (.mk vk vn (.mk xk xn xv (.mk xtk xtv xtl) xl) ve), b, st ++ [f]⟩))] [] (.agg (RS.enc ⟨es, ds, .mk mk mn mv (.mk mtk mtv mtl) ml⟩ ⟨(.mk ek en ev (.mk etk etv etl) el), env, (.mk vk vn (.mk xk xn xv (.mk xtk xtv xtl) xl) ve), b, st⟩)) [] := by
 have he : RF.encs (st ++ [f]) = RF.encs st ++ [f.enc] := by rw [RF.encs_append]; rfl
 have hl : (RF.encs st).length = st.length := RF.encs_length st
 have hT := take_last (RF.encs st) f.enc ((RF.encs st).length : Int) rfl
 simp only [RS.enc]
 rw [he]
 generalize RF.encs st = R at hl hT ⊢
 generalize f.enc = F at hT ⊢
 clear he
 exact gK Tryz.func83 [rG, rS [(4, .int ((R.length : Int) + 1)), (5, .int ((R.length : Int) + 1 - 1)), (6, .rows R)], rG] [.tidO 1 [some 1, some 14, none, none, none, none, none, some 3, some 7, none, none, none, none, none, some 3, some 7, some 10, none, none, none, none, none, none, none, some 3, some 7, some 10, none, some 19]] [] (q ((↑(List.length (R ++ [F])) : Int) = (R.length : Int) + 1) (qw ((R.length : Int) + 1 - 1) (q ((0 : Int) ≤ Option.getD none (0 : Int)) (q (Option.getD none (0 : Int) ≤ Option.getD (some ((R.length : Int) + (1 : Int) - (1 : Int))) (↑(List.length (R ++ [F])) : Int)) (q (Option.getD (some ((R.length : Int) + (1 : Int) - (1 : Int))) (↑(List.length (R ++ [F])) : Int) ≤ (↑(List.length (R ++ [F])) : Int)) (q (List.drop (Int.toNat (Option.getD none (0 : Int))) (List.take (Int.toNat (Option.getD (some ((R.length : Int) + (1 : Int) - (1 : Int))) (↑(List.length (R ++ [F])) : Int))) (R ++ [F])) = R) ob0))))))
theorem push_ (fk gk gn gv gtk gtv : Int) (gtl : List Ty) (gl : List Expr) (fe : List RV) (hk hn zk zn zv ztk ztv : Int) (ztl : List Ty) (zl : List Expr) (hf : List RV) (ak an av atk atv : Int) (atl : List Ty) (al : List Expr) (env2 : List RV) (h : st.length ≤ 4294967296) :
  SC 98 [(.agg (RS.enc ⟨es, ds, .mk mk mn mv (.mk mtk mtv mtl) ml⟩ ⟨(.mk ek en ev (.mk etk etv etl) el), env, (.mk vk vn (.mk xk xn xv (.mk xtk xtv xtl) xl) ve), b, st⟩)), .agg (RF.mk fk (.mk gk gn gv (.mk gtk gtv gtl) gl) fe (.mk hk hn (.mk zk zn zv (.mk ztk ztv ztl) zl) hf)).enc, .agg (Expr.enc (.mk ak an av (.mk atk atv atl) al)), .sl 10 (RV.encs env2) false] [] (.agg (RS.enc ⟨es, ds, .mk mk mn mv (.mk mtk mtv mtl) ml⟩ ⟨(.mk ak an av (.mk atk atv atl) al), env2, rZ, false, st ++ [(RF.mk fk (.mk gk gn gv (.mk gtk gtv gtl) gl) fe (.mk hk hn (.mk zk zn zv (.mk ztk ztv ztl) zl) hf))]⟩)) [] := by
 have he : RF.encs (st ++ [(RF.mk fk (.mk gk gn gv (.mk gtk gtv gtl) gl) fe (.mk hk hn (.mk zk zn zv (.mk ztk ztv ztl) zl) hf))]) = RF.encs st ++ [(RF.mk fk (.mk gk gn gv (.mk gtk gtv gtl) gl) fe (.mk hk hn (.mk zk zn zv (.mk ztk ztv ztl) zl) hf)).enc] := by rw [RF.encs_append]; rfl
 have hl : (RF.encs st).length = st.length := RF.encs_length st
 have hr := run_ es ds mk mn mv mtk mtv mtl ml ek en ev etk etv etl el env vk vn xk xn xv xtk xtv xtl xl ve b (st ++ [(RF.mk fk (.mk gk gn gv (.mk gtk gtv gtl) gl) fe (.mk hk hn (.mk zk zn zv (.mk ztk ztv ztl) zl) hf))]) ak an av atk atv atl al env2
 simp only [RS.enc] at hr ⊢
 rw [he] at hr ⊢
 have hF1 : Fits (0 + (RF.encs st).length) 0 248 := by apply Fits.of; omega
 have hF2 : Fits ((RF.encs st).length + 1) (RF.encs st).length 248 := by apply Fits.of; omega
 generalize RF.encs st = R at hl hr hF1 hF2 ⊢
 clear he
 exact gK Tryz.func98 [rG, rS [(3, .loc)], .reg [.frz 5] [(3, oC hr)]] [.tidO 3 [some 1, some 14, none, none, none, none, none, some 3, some 7, none, none, none, none, none, some 3, some 7, some 10, none, none, none, none, none, none, none, some 3, some 7, some 10, none, some 19]] [] (q (Fits (0 + List.length R) 0 248) (q (Fits (List.length R + 1) (List.length R) 248) (ob1 (hr) ob0)))
end
end Go.Ae
namespace Go.Ae
open Go.Proofs
abbrev RZ : AObj := .cells [.nil, .nil, I 0, I 0, I 0, I 0, I 0, .nil, .nil, I 0, I 0, I 0, I 0, I 0, .nil, .nil, .nil, I 0, I 0, I 0, I 0, I 0, I 0, I 0, .nil, .nil, .nil, B false, .nil] []
section
variable (es : List ByteArray) (ds : List Def) (mk mn mv mtk mtv : Int) (mtl : List Ty) (ml : List Expr) (env : List RV) (vk vn xk xn xv xtk xtv : Int) (xtl : List Ty) (xl : List Expr) (ve : List RV) (st : List RF)
theorem rest_const (x : Exit) (s' : ASt) (n w tk tv : Int) (tl : List Ty) (l : List Expr)
  (k : Lp Tryz.prog 120 0 (loopN Tryz.f79 0) ⟨lookT [(1, .lp 0 0), (2, .lp 1 0)], [.cells (RS.enc ⟨es, ds, .mk mk mn mv (.mk mtk mtv mtl) ml⟩ ⟨(.mk 0 n w (.mk tk tv tl) l), env, (.mk 0 n eZ []), true, st⟩) [], RZ]⟩ x s') :
  Lp Tryz.prog 120 0 (loopN Tryz.f79 0) ⟨lookT [(1, .lp 0 0), (2, .lp 1 0)], [.cells (RS.enc ⟨es, ds, .mk mk mn mv (.mk mtk mtv mtl) ml⟩ ⟨(.mk 0 n w (.mk tk tv tl) l), env, (.mk vk vn (.mk xk xn xv (.mk xtk xtv xtl) xl) ve), false, st⟩) [], RZ]⟩ x s' := by
 have hg := give_ es ds mk mn mv mtk mtv mtl ml 0 n w tk tv tl l env vk vn xk xn xv xtk xtv xtl xl ve false st 0 n 0 0 0 0 0 [] [] []
 exact lN [rG, rG, rG, rS [(5, oC hg)]] [.keep [(1, []), (2, [])]] (ob1 (hg) ob0) (k)
theorem rest_var (x : Exit) (s' : ASt) (m : Nat) (w tk tv : Int) (tl : List Ty) (l : List Expr) (uk un pk pn pv ptk ptv : Int) (ptl : List Ty) (pl : List Expr) (ue : List RV) (hx : (RV.encs env)[m]? = some (RV.enc (.mk uk un (.mk pk pn pv (.mk ptk ptv ptl) pl) ue))) (hm : m ≤ 9223372036854775807)
  (k : Lp Tryz.prog 120 0 (loopN Tryz.f79 0) ⟨lookT [(1, .lp 0 0), (2, .lp 1 0)], [.cells (RS.enc ⟨es, ds, .mk mk mn mv (.mk mtk mtv mtl) ml⟩ ⟨(.mk 1 (m : Int) w (.mk tk tv tl) l), env, (.mk uk un (.mk pk pn pv (.mk ptk ptv ptl) pl) ue), true, st⟩) [], RZ]⟩ x s') :
  Lp Tryz.prog 120 0 (loopN Tryz.f79 0) ⟨lookT [(1, .lp 0 0), (2, .lp 1 0)], [.cells (RS.enc ⟨es, ds, .mk mk mn mv (.mk mtk mtv mtl) ml⟩ ⟨(.mk 1 (m : Int) w (.mk tk tv tl) l), env, (.mk vk vn (.mk xk xn xv (.mk xtk xtv xtl) xl) ve), false, st⟩) [], RZ]⟩ x s' := by
 have hg := give_ es ds mk mn mv mtk mtv mtl ml 1 (m : Int) w tk tv tl l env vk vn xk xn xv xtk xtv xtl xl ve false st uk un pk pn pv ptk ptv ptl pl ue
 exact lN (rGs 4 [rS [(6, oW hx), (8, oC hg)]]) [.keep [(1, []), (2, [])]] (qI m (ob1 hx (ob1 (hg) ob0))) (k)
theorem rest_fun (x : Exit) (s' : ASt) (n w tk tv : Int) (tl : List Ty) (l : List Expr)
  (k : Lp Tryz.prog 120 0 (loopN Tryz.f79 0) ⟨lookT [(1, .lp 0 0), (2, .lp 1 0)], [.cells (RS.enc ⟨es, ds, .mk mk mn mv (.mk mtk mtv mtl) ml⟩ ⟨(.mk 2 n w (.mk tk tv tl) l), env, (.mk 1 n eZ []), true, st⟩) [], RZ]⟩ x s') :
  Lp Tryz.prog 120 0 (loopN Tryz.f79 0) ⟨lookT [(1, .lp 0 0), (2, .lp 1 0)], [.cells (RS.enc ⟨es, ds, .mk mk mn mv (.mk mtk mtv mtl) ml⟩ ⟨(.mk 2 n w (.mk tk tv tl) l), env, (.mk vk vn (.mk xk xn xv (.mk xtk xtv xtl) xl) ve), false, st⟩) [], RZ]⟩ x s' := by
 have hg := give_ es ds mk mn mv mtk mtv mtl ml 2 n w tk tv tl l env vk vn xk xn xv xtk xtv xtl xl ve false st 1 n 0 0 0 0 0 [] [] []
 exact lN (rGs 5 [rS [(5, oC hg)]]) [.keep [(1, []), (2, [])]] (ob1 (hg) ob0) (k)
theorem rest_lam (x : Exit) (s' : ASt) (n w tk tv : Int) (tl : List Ty) (l : List Expr)
  (k : Lp Tryz.prog 120 0 (loopN Tryz.f79 0) ⟨lookT [(1, .lp 0 0), (2, .lp 1 0)], [.cells (RS.enc ⟨es, ds, .mk mk mn mv (.mk mtk mtv mtl) ml⟩ ⟨(.mk 4 n w (.mk tk tv tl) l), env, (.mk 2 0 (.mk 4 n w (.mk tk tv tl) l) env), true, st⟩) [], RZ]⟩ x s') :
  Lp Tryz.prog 120 0 (loopN Tryz.f79 0) ⟨lookT [(1, .lp 0 0), (2, .lp 1 0)], [.cells (RS.enc ⟨es, ds, .mk mk mn mv (.mk mtk mtv mtl) ml⟩ ⟨(.mk 4 n w (.mk tk tv tl) l), env, (.mk vk vn (.mk xk xn xv (.mk xtk xtv xtl) xl) ve), false, st⟩) [], RZ]⟩ x s' := by
 have hg := give_ es ds mk mn mv mtk mtv mtl ml 4 n w tk tv tl l env vk vn xk xn xv xtk xtv xtl xl ve false st 2 0 4 n w tk tv tl l env
 exact lN (rGs 6 [rS [(6, oC hg)]]) [.keep [(1, []), (2, [])]] (ob1 (hg) ob0) (k)
theorem rest_app (x : Exit) (s' : ASt) (ak an av atk atv : Int) (atl : List Ty) (al : List Expr) (n w tk tv : Int) (tl : List Ty) (l : List Expr) (hs : st.length ≤ 4294967296) (hl : l.length ≤ 1000)
  (k : Lp Tryz.prog 120 0 (loopN Tryz.f79 0) ⟨lookT [(1, .lp 0 0), (2, .lp 1 0)], [.cells (RS.enc ⟨es, ds, .mk mk mn mv (.mk mtk mtv mtl) ml⟩ ⟨(.mk ak an av (.mk atk atv atl) al), env, rZ, false, st ++ [(RF.mk 0 (.mk 3 n w (.mk tk tv tl) ((.mk ak an av (.mk atk atv atl) al) :: l)) env (.mk 0 0 (.mk 0 0 0 (.mk 0 0 []) []) []))]⟩) [], RZ]⟩ x s') :
  Lp Tryz.prog 120 0 (loopN Tryz.f79 0) ⟨lookT [(1, .lp 0 0), (2, .lp 1 0)], [.cells (RS.enc ⟨es, ds, .mk mk mn mv (.mk mtk mtv mtl) ml⟩ ⟨(.mk 3 n w (.mk tk tv tl) ((.mk ak an av (.mk atk atv atl) al) :: l)), env, (.mk vk vn (.mk xk xn xv (.mk xtk xtv xtl) xl) ve), false, st⟩) [], RZ]⟩ x s' := by
 have hp := push_ es ds mk mn mv mtk mtv mtl ml 3 n w tk tv tl ((.mk ak an av (.mk atk atv atl) al) :: l) env vk vn xk xn xv xtk xtv xtl xl ve false st 0 3 n w tk tv tl ((.mk ak an av (.mk atk atv atl) al) :: l) env 0 0 0 0 0 0 0 [] [] [] ak an av atk atv atl al env hs
 have hx : (Expr.encs ((.mk ak an av (.mk atk atv atl) al) :: l))[0]? = some (Expr.enc (.mk ak an av (.mk atk atv atl) al)) := rfl
 generalize st ++ [(RF.mk 0 (.mk 3 n w (.mk tk tv tl) ((.mk ak an av (.mk atk atv atl) al) :: l)) env (.mk 0 0 (.mk 0 0 0 (.mk 0 0 []) []) []))] = st2 at hp k
 exact lN (rGs 7 [rS [(9, .row 0 (xE ak an av atk atv atl al)), (13, oC hp)]]) [.keep [(1, []), (2, [])]] (qI 0 (qC0 ((xE ak an av atk atv atl al)) (Expr.encs l) (ob1 (hp) ob0))) (k)
theorem rest_let (x : Exit) (s' : ASt) (ak an av atk atv : Int) (atl : List Ty) (al : List Expr) (n w tk tv : Int) (tl : List Ty) (l : List Expr) (hs : st.length ≤ 4294967296) (hl : l.length ≤ 1000)
  (k : Lp Tryz.prog 120 0 (loopN Tryz.f79 0) ⟨lookT [(1, .lp 0 0), (2, .lp 1 0)], [.cells (RS.enc ⟨es, ds, .mk mk mn mv (.mk mtk mtv mtl) ml⟩ ⟨(.mk ak an av (.mk atk atv atl) al), env, rZ, false, st ++ [(RF.mk 2 (.mk 5 n w (.mk tk tv tl) ((.mk ak an av (.mk atk atv atl) al) :: l)) env (.mk 0 0 (.mk 0 0 0 (.mk 0 0 []) []) []))]⟩) [], RZ]⟩ x s') :
  Lp Tryz.prog 120 0 (loopN Tryz.f79 0) ⟨lookT [(1, .lp 0 0), (2, .lp 1 0)], [.cells (RS.enc ⟨es, ds, .mk mk mn mv (.mk mtk mtv mtl) ml⟩ ⟨(.mk 5 n w (.mk tk tv tl) ((.mk ak an av (.mk atk atv atl) al) :: l)), env, (.mk vk vn (.mk xk xn xv (.mk xtk xtv xtl) xl) ve), false, st⟩) [], RZ]⟩ x s' := by
 have hp := push_ es ds mk mn mv mtk mtv mtl ml 5 n w tk tv tl ((.mk ak an av (.mk atk atv atl) al) :: l) env vk vn xk xn xv xtk xtv xtl xl ve false st 2 5 n w tk tv tl ((.mk ak an av (.mk atk atv atl) al) :: l) env 0 0 0 0 0 0 0 [] [] [] ak an av atk atv atl al env hs
 have hx : (Expr.encs ((.mk ak an av (.mk atk atv atl) al) :: l))[0]? = some (Expr.enc (.mk ak an av (.mk atk atv atl) al)) := rfl
 generalize st ++ [(RF.mk 2 (.mk 5 n w (.mk tk tv tl) ((.mk ak an av (.mk atk atv atl) al) :: l)) env (.mk 0 0 (.mk 0 0 0 (.mk 0 0 []) []) []))] = st2 at hp k
 exact lN (rGs 8 [rS [(9, .row 0 (xE ak an av atk atv atl al)), (13, oC hp)]]) [.keep [(1, []), (2, [])]] (qI 0 (qC0 ((xE ak an av atk atv atl al)) (Expr.encs l) (ob1 (hp) ob0))) (k)
theorem rest_case (x : Exit) (s' : ASt) (ak an av atk atv : Int) (atl : List Ty) (al : List Expr) (n w tk tv : Int) (tl : List Ty) (l : List Expr) (hs : st.length ≤ 4294967296) (hl : l.length ≤ 1000)
  (k : Lp Tryz.prog 120 0 (loopN Tryz.f79 0) ⟨lookT [(1, .lp 0 0), (2, .lp 1 0)], [.cells (RS.enc ⟨es, ds, .mk mk mn mv (.mk mtk mtv mtl) ml⟩ ⟨(.mk ak an av (.mk atk atv atl) al), env, rZ, false, st ++ [(RF.mk 3 (.mk 6 n w (.mk tk tv tl) ((.mk ak an av (.mk atk atv atl) al) :: l)) env (.mk 0 0 (.mk 0 0 0 (.mk 0 0 []) []) []))]⟩) [], RZ]⟩ x s') :
  Lp Tryz.prog 120 0 (loopN Tryz.f79 0) ⟨lookT [(1, .lp 0 0), (2, .lp 1 0)], [.cells (RS.enc ⟨es, ds, .mk mk mn mv (.mk mtk mtv mtl) ml⟩ ⟨(.mk 6 n w (.mk tk tv tl) ((.mk ak an av (.mk atk atv atl) al) :: l)), env, (.mk vk vn (.mk xk xn xv (.mk xtk xtv xtl) xl) ve), false, st⟩) [], RZ]⟩ x s' := by
 have hp := push_ es ds mk mn mv mtk mtv mtl ml 6 n w tk tv tl ((.mk ak an av (.mk atk atv atl) al) :: l) env vk vn xk xn xv xtk xtv xtl xl ve false st 3 6 n w tk tv tl ((.mk ak an av (.mk atk atv atl) al) :: l) env 0 0 0 0 0 0 0 [] [] [] ak an av atk atv atl al env hs
 have hx : (Expr.encs ((.mk ak an av (.mk atk atv atl) al) :: l))[0]? = some (Expr.enc (.mk ak an av (.mk atk atv atl) al)) := rfl
 generalize st ++ [(RF.mk 3 (.mk 6 n w (.mk tk tv tl) ((.mk ak an av (.mk atk atv atl) al) :: l)) env (.mk 0 0 (.mk 0 0 0 (.mk 0 0 []) []) []))] = st2 at hp k
 exact lN (rGs 9 [rS [(9, .row 0 (xE ak an av atk atv atl al)), (13, oC hp)]]) [.keep [(1, []), (2, [])]] (qI 0 (qC0 ((xE ak an av atk atv atl al)) (Expr.encs l) (ob1 (hp) ob0))) (k)
theorem rest_arg (x : Exit) (s' : ASt) (ek en ev etk etv : Int) (etl : List Ty) (el : List Expr) (bk bn bv btk btv : Int) (btl : List Ty) (bl : List Expr) (a : Expr) (n w tk tv : Int) (tl : List Ty) (l : List Expr) (fe : List RV) (hk hn zk zn zv ztk ztv : Int) (ztl : List Ty) (zl : List Expr) (hf : List RV) (hs : st.length ≤ 4294967296) (hl : l.length ≤ 1000)
  (k : Lp Tryz.prog 120 0 (loopN Tryz.f79 0) ⟨lookT [(1, .lp 0 0), (2, .lp 1 0)], [.cells (RS.enc ⟨es, ds, .mk mk mn mv (.mk mtk mtv mtl) ml⟩ ⟨(.mk bk bn bv (.mk btk btv btl) bl), fe, rZ, false, st ++ [(RF.mk 1 (.mk 0 0 0 (.mk 0 0 []) []) [] (.mk vk vn (.mk xk xn xv (.mk xtk xtv xtl) xl) ve))]⟩) [], RZ]⟩ x s') :
  Lp Tryz.prog 120 0 (loopN Tryz.f79 0) ⟨lookT [(1, .lp 0 0), (2, .lp 1 0)], [.cells (RS.enc ⟨es, ds, .mk mk mn mv (.mk mtk mtv mtl) ml⟩ ⟨(.mk ek en ev (.mk etk etv etl) el), env, (.mk vk vn (.mk xk xn xv (.mk xtk xtv xtl) xl) ve), true, st ++ [(RF.mk 0 (.mk 3 n w (.mk tk tv tl) (a :: (.mk bk bn bv (.mk btk btv btl) bl) :: l)) fe (.mk hk hn (.mk zk zn zv (.mk ztk ztv ztl) zl) hf))]⟩) [], RZ]⟩ x s' := by
 have ht := top_ es ds mk mn mv mtk mtv mtl ml ek en ev etk etv etl el env vk vn xk xn xv xtk xtv xtl xl ve true st 0 3 n w tk tv tl (a :: (.mk bk bn bv (.mk btk btv btl) bl) :: l) fe hk hn zk zn zv ztk ztv ztl zl hf hs
 have hq := pop_ es ds mk mn mv mtk mtv mtl ml ek en ev etk etv etl el env vk vn xk xn xv xtk xtv xtl xl ve true st (RF.mk 0 (.mk 3 n w (.mk tk tv tl) (a :: (.mk bk bn bv (.mk btk btv btl) bl) :: l)) fe (.mk hk hn (.mk zk zn zv (.mk ztk ztv ztl) zl) hf)) hs
 have hp := push_ es ds mk mn mv mtk mtv mtl ml ek en ev etk etv etl el env vk vn xk xn xv xtk xtv xtl xl ve true st 1 0 0 0 0 0 [] [] [] vk vn xk xn xv xtk xtv xtl xl ve bk bn bv btk btv btl bl fe hs
 have hx : (Expr.encs (a :: (.mk bk bn bv (.mk btk btv btl) bl) :: l))[1]? = some (Expr.enc (.mk bk bn bv (.mk btk btv btl) bl)) := rfl
 have hsl : (RF.encs (st ++ [(RF.mk 0 (.mk 3 n w (.mk tk tv tl) (a :: (.mk bk bn bv (.mk btk btv btl) bl) :: l)) fe (.mk hk hn (.mk zk zn zv (.mk ztk ztv ztl) zl) hf))])).length = st.length + 1 := by simp
 generalize st ++ [(RF.mk 1 (.mk 0 0 0 (.mk 0 0 []) []) [] (.mk vk vn (.mk xk xn xv (.mk xtk xtv xtl) xl) ve))] = st2 at hp k
 exact lN [rG, rS [(2, .int ((st.length : Int) + 1)), (6, oC ht)], rS [(1, oC ht)], rS [(1, oC hq), (8, .row 1 (xE bk bn bv btk btv btl bl)), (12, oC hp)]] [.keep [(1, []), (2, [])]] (q ((↑(List.length (RF.encs (st ++ [{ kind := 0, e := Expr.mk 3 n w (Ty.mk tk tv tl) (a :: Expr.mk bk bn bv (Ty.mk btk btv btl) bl :: l), env := fe, f := RV.mk hk hn (Expr.mk zk zn zv (Ty.mk ztk ztv ztl) zl) hf }]))) : Int) = (st.length : Int) + 1) (ob1 (ht) (ob1 (ht) (ob1 (hq) (qI 1 (qC1 (Expr.enc a) ((xE bk bn bv btk btv btl bl)) (Expr.encs l) (ob1 (hp) ob0))))))) (k)
theorem rest_stop7 (n w tk tv : Int) (tl : List Ty) (l : List Expr) :
  Lp Tryz.prog 120 0 (loopN Tryz.f79 0) ⟨lookT [(1, .lp 0 0), (2, .lp 1 0)], [.cells (RS.enc ⟨es, ds, .mk mk mn mv (.mk mtk mtv mtl) ml⟩ ⟨(.mk 7 n w (.mk tk tv tl) l), env, (.mk vk vn (.mk xk xn xv (.mk xtk xtv xtl) xl) ve), false, st⟩) [], RZ]⟩ .ret ⟨lookT [(2, .lp 0 0)], [.cells (RS.enc ⟨es, ds, .mk mk mn mv (.mk mtk mtv mtl) ml⟩ ⟨(.mk 7 n w (.mk tk tv tl) l), env, (.mk vk vn (.mk xk xn xv (.mk xtk xtv xtl) xl) ve), false, st⟩) []]⟩ := by
 exact lL (rGs 10 []) [.keep [(2, [])]] ob0
theorem rest_stop8 (n w tk tv : Int) (tl : List Ty) (l : List Expr) :
  Lp Tryz.prog 120 0 (loopN Tryz.f79 0) ⟨lookT [(1, .lp 0 0), (2, .lp 1 0)], [.cells (RS.enc ⟨es, ds, .mk mk mn mv (.mk mtk mtv mtl) ml⟩ ⟨(.mk 8 n w (.mk tk tv tl) l), env, (.mk vk vn (.mk xk xn xv (.mk xtk xtv xtl) xl) ve), false, st⟩) [], RZ]⟩ .ret ⟨lookT [(2, .lp 0 0)], [.cells (RS.enc ⟨es, ds, .mk mk mn mv (.mk mtk mtv mtl) ml⟩ ⟨(.mk 8 n w (.mk tk tv tl) l), env, (.mk vk vn (.mk xk xn xv (.mk xtk xtv xtl) xl) ve), false, st⟩) []]⟩ := by
 exact lL (rGs 10 []) [.keep [(2, [])]] ob0
theorem rest_done (ek en ev etk etv : Int) (etl : List Ty) (el : List Expr) :
  Lp Tryz.prog 120 0 (loopN Tryz.f79 0) ⟨lookT [(1, .lp 0 0), (2, .lp 1 0)], [.cells (RS.enc ⟨es, ds, .mk mk mn mv (.mk mtk mtv mtl) ml⟩ ⟨(.mk ek en ev (.mk etk etv etl) el), env, (.mk vk vn (.mk xk xn xv (.mk xtk xtv xtl) xl) ve), true, []⟩) [], RZ]⟩ .ret ⟨lookT [(2, .lp 0 0)], [.cells (RS.enc ⟨es, ds, .mk mk mn mv (.mk mtk mtv mtl) ml⟩ ⟨(.mk ek en ev (.mk etk etv etl) el), env, (.mk vk vn (.mk xk xn xv (.mk xtk xtv xtl) xl) ve), true, []⟩) []]⟩ := by
 exact lL [rG, rG, rG] [.keep [(2, [])]] ob0
theorem rest_wait (ek en ev etk etv : Int) (etl : List Ty) (el : List Expr) (fk gk gn gv gtk gtv : Int) (gtl : List Ty) (gl : List Expr) (fe : List RV) (hk hn zk zn zv ztk ztv : Int) (ztl : List Ty) (zl : List Expr) (hf : List RV) (hs : st.length ≤ 4294967296) (hk0 : fk ≠ 0) :
  Lp Tryz.prog 120 0 (loopN Tryz.f79 0) ⟨lookT [(1, .lp 0 0), (2, .lp 1 0)], [.cells (RS.enc ⟨es, ds, .mk mk mn mv (.mk mtk mtv mtl) ml⟩ ⟨(.mk ek en ev (.mk etk etv etl) el), env, (.mk vk vn (.mk xk xn xv (.mk xtk xtv xtl) xl) ve), true, st ++ [(RF.mk fk (.mk gk gn gv (.mk gtk gtv gtl) gl) fe (.mk hk hn (.mk zk zn zv (.mk ztk ztv ztl) zl) hf))]⟩) [], RZ]⟩ .ret ⟨lookT [(2, .lp 0 0)], [.cells (RS.enc ⟨es, ds, .mk mk mn mv (.mk mtk mtv mtl) ml⟩ ⟨(.mk ek en ev (.mk etk etv etl) el), env, (.mk vk vn (.mk xk xn xv (.mk xtk xtv xtl) xl) ve), true, st ++ [(RF.mk fk (.mk gk gn gv (.mk gtk gtv gtl) gl) fe (.mk hk hn (.mk zk zn zv (.mk ztk ztv ztl) zl) hf))]⟩) []]⟩ := by
 have ht := top_ es ds mk mn mv mtk mtv mtl ml ek en ev etk etv etl el env vk vn xk xn xv xtk xtv xtl xl ve true st fk gk gn gv gtk gtv gtl gl fe hk hn zk zn zv ztk ztv ztl zl hf hs
 have hsl : (RF.encs (st ++ [(RF.mk fk (.mk gk gn gv (.mk gtk gtv gtl) gl) fe (.mk hk hn (.mk zk zn zv (.mk ztk ztv ztl) zl) hf))])).length = st.length + 1 := by simp
 exact lL [rG, rS [(2, .int ((st.length : Int) + 1)), (6, oC ht), (8, .bit true)], rG] [.keep [(2, [])]] (q ((↑(List.length (RF.encs (st ++ [{ kind := fk, e := Expr.mk gk gn gv (Ty.mk gtk gtv gtl) gl, env := fe, f := RV.mk hk hn (Expr.mk zk zn zv (Ty.mk ztk ztv ztl) zl) hf }]))) : Int) = (st.length : Int) + 1) (ob1 (ht) (qV (fk != 0) ob0)))
end
end Go.Ae
namespace Go.Ae
open Go.Proofs
inductive Rst : RS → RS → Prop
 | const {n w ty l env v st} : Rst ⟨.mk 0 n w ty l, env, v, false, st⟩ ⟨.mk 0 n w ty l, env, .mk 0 n eZ [], true, st⟩
 | var {m : Nat} {w ty l env v st u} (h : env[m]? = some u) (hm : m ≤ 9223372036854775807) : Rst ⟨.mk 1 (m : Int) w ty l, env, v, false, st⟩ ⟨.mk 1 (m : Int) w ty l, env, u, true, st⟩
 | fn {n w ty l env v st} : Rst ⟨.mk 2 n w ty l, env, v, false, st⟩ ⟨.mk 2 n w ty l, env, .mk 1 n eZ [], true, st⟩
 | lam {n w ty l env v st} : Rst ⟨.mk 4 n w ty l, env, v, false, st⟩ ⟨.mk 4 n w ty l, env, .mk 2 0 (.mk 4 n w ty l) env, true, st⟩
 | app {n w ty a l env v st} (hs : st.length ≤ 4294967296) (hl : l.length ≤ 1000) : Rst ⟨.mk 3 n w ty (a :: l), env, v, false, st⟩ ⟨a, env, rZ, false, st ++ [⟨0, .mk 3 n w ty (a :: l), env, rZ⟩]⟩
 | lt {n w ty a l env v st} (hs : st.length ≤ 4294967296) (hl : l.length ≤ 1000) : Rst ⟨.mk 5 n w ty (a :: l), env, v, false, st⟩ ⟨a, env, rZ, false, st ++ [⟨2, .mk 5 n w ty (a :: l), env, rZ⟩]⟩
 | cs {n w ty a l env v st} (hs : st.length ≤ 4294967296) (hl : l.length ≤ 1000) : Rst ⟨.mk 6 n w ty (a :: l), env, v, false, st⟩ ⟨a, env, rZ, false, st ++ [⟨3, .mk 6 n w ty (a :: l), env, rZ⟩]⟩
 | arg {e env v n w ty a b l fe f st} (hs : st.length ≤ 4294967296) (hl : l.length ≤ 1000) : Rst ⟨e, env, v, true, st ++ [⟨0, .mk 3 n w ty (a :: b :: l), fe, f⟩]⟩ ⟨b, fe, rZ, false, st ++ [⟨1, eZ, [], v⟩]⟩
inductive Stk : RS → Prop
 | event {n w ty l env v st} : Stk ⟨.mk 7 n w ty l, env, v, false, st⟩
 | pick {n w ty l env v st} : Stk ⟨.mk 8 n w ty l, env, v, false, st⟩
 | done {e env v} : Stk ⟨e, env, v, true, []⟩
 | wait {e env v f st} (hs : st.length ≤ 4294967296) (hk : f.kind ≠ 0) : Stk ⟨e, env, v, true, st ++ [f]⟩
inductive RR : RS → RS → Prop
 | stop {m} (h : Stk m) : RR m m
 | more {m m1 m'} (h : Rst m m1) (r : RR m1 m') : RR m m'
theorem rest_lp (p : Prog) {m m' : RS} (h : RR m m') :
  Lp Tryz.prog 120 0 (loopN Tryz.f79 0) ⟨lookT [(1, .lp 0 0), (2, .lp 1 0)], [.cells (RS.enc p m) [], RZ]⟩ .ret ⟨lookT [(2, .lp 0 0)], [.cells (RS.enc p m') []]⟩ := by
 obtain ⟨es, ds, mk, mn, mv, ⟨mtk, mtv, mtl⟩, ml⟩ := p
 induction h with
 | stop h =>
  cases h with
  | @event n w ty l env v st =>
   obtain ⟨tk, tv, tl⟩ := ty; obtain ⟨vk, vn, ⟨xk, xn, xv, ⟨xtk, xtv, xtl⟩, xl⟩, ve⟩ := v
   apply rest_stop7
  | @pick n w ty l env v st =>
   obtain ⟨tk, tv, tl⟩ := ty; obtain ⟨vk, vn, ⟨xk, xn, xv, ⟨xtk, xtv, xtl⟩, xl⟩, ve⟩ := v
   apply rest_stop8
  | @done e env v =>
   obtain ⟨ek, en, ev, ⟨etk, etv, etl⟩, el⟩ := e; obtain ⟨vk, vn, ⟨xk, xn, xv, ⟨xtk, xtv, xtl⟩, xl⟩, ve⟩ := v
   apply rest_done
  | @wait e env v f st hs hk =>
   obtain ⟨ek, en, ev, ⟨etk, etv, etl⟩, el⟩ := e; obtain ⟨vk, vn, ⟨xk, xn, xv, ⟨xtk, xtv, xtl⟩, xl⟩, ve⟩ := v
   obtain ⟨fk, ⟨gk, gn, gv, ⟨gtk, gtv, gtl⟩, gl⟩, fe, ⟨hk', hn, ⟨zk, zn, zv, ⟨ztk, ztv, ztl⟩, zl⟩, hf⟩⟩ := f
   apply rest_wait <;> assumption
 | more h r ih =>
  cases h with
  | @const n w ty l env v st =>
   obtain ⟨tk, tv, tl⟩ := ty; obtain ⟨vk, vn, ⟨xk, xn, xv, ⟨xtk, xtv, xtl⟩, xl⟩, ve⟩ := v
   apply rest_const; exact ih
  | @var m w ty l env v st u h hm =>
   obtain ⟨tk, tv, tl⟩ := ty; obtain ⟨vk, vn, ⟨xk, xn, xv, ⟨xtk, xtv, xtl⟩, xl⟩, ve⟩ := v
   obtain ⟨uk, un, ⟨pk, pn, pv, ⟨ptk, ptv, ptl⟩, pl⟩, ue⟩ := u
   have hx : (RV.encs env)[m]? = some (RV.enc (.mk uk un (.mk pk pn pv (.mk ptk ptv ptl) pl) ue)) := by rw [RV.encs_get, h]; rfl
   apply rest_var <;> assumption
  | @fn n w ty l env v st =>
   obtain ⟨tk, tv, tl⟩ := ty; obtain ⟨vk, vn, ⟨xk, xn, xv, ⟨xtk, xtv, xtl⟩, xl⟩, ve⟩ := v
   apply rest_fun; exact ih
  | @lam n w ty l env v st =>
   obtain ⟨tk, tv, tl⟩ := ty; obtain ⟨vk, vn, ⟨xk, xn, xv, ⟨xtk, xtv, xtl⟩, xl⟩, ve⟩ := v
   apply rest_lam; exact ih
  | @app n w ty a l env v st hs hl =>
   obtain ⟨tk, tv, tl⟩ := ty; obtain ⟨vk, vn, ⟨xk, xn, xv, ⟨xtk, xtv, xtl⟩, xl⟩, ve⟩ := v; obtain ⟨ak, an, av, ⟨atk, atv, atl⟩, al⟩ := a
   apply rest_app <;> assumption
  | @lt n w ty a l env v st hs hl =>
   obtain ⟨tk, tv, tl⟩ := ty; obtain ⟨vk, vn, ⟨xk, xn, xv, ⟨xtk, xtv, xtl⟩, xl⟩, ve⟩ := v; obtain ⟨ak, an, av, ⟨atk, atv, atl⟩, al⟩ := a
   apply rest_let <;> assumption
  | @cs n w ty a l env v st hs hl =>
   obtain ⟨tk, tv, tl⟩ := ty; obtain ⟨vk, vn, ⟨xk, xn, xv, ⟨xtk, xtv, xtl⟩, xl⟩, ve⟩ := v; obtain ⟨ak, an, av, ⟨atk, atv, atl⟩, al⟩ := a
   apply rest_case <;> assumption
  | @arg e env v n w ty a b l fe f st hs hl =>
   obtain ⟨tk, tv, tl⟩ := ty; obtain ⟨vk, vn, ⟨xk, xn, xv, ⟨xtk, xtv, xtl⟩, xl⟩, ve⟩ := v; obtain ⟨bk, bn, bv, ⟨btk, btv, btl⟩, bl⟩ := b
   obtain ⟨ek, en, ev, ⟨etk, etv, etl⟩, el⟩ := e; obtain ⟨hk, hn, ⟨zk, zn, zv, ⟨ztk, ztv, ztl⟩, zl⟩, hf⟩ := f
   apply rest_arg <;> assumption
theorem rest_ (p : Prog) {m m' : RS} (h : RR m m') : SC 79 [.agg (RS.enc p m)] [] (.agg (RS.enc p m')) [] := by
 have lp := rest_lp p h
 clear h
 obtain ⟨es, ds, mk, mn, mv, ⟨mtk, mtv, mtl⟩, ml⟩ := p
 obtain ⟨⟨ek, en, ev, ⟨etk, etv, etl⟩, el⟩, env, ⟨vk, vn, ⟨xk, xn, xv, ⟨xtk, xtv, xtl⟩, xl⟩, ve⟩, b, st⟩ := m
 obtain ⟨⟨qk, qn, qv, ⟨qtk, qtv, qtl⟩, ql⟩, env2, ⟨sk, sn, ⟨rk, rn, rv, ⟨rtk, rtv, rtl⟩, rl⟩, se⟩, b2, st2⟩ := m'
 exact gK Tryz.func79 [rG, oL [.keep [(1, []), (2, [])]] lp] [.tidO 0 [some 1, some 14, none, none, none, none, none, some 3, some 7, none, none, none, none, none, some 3, some 7, some 10, none, none, none, none, none, none, none, some 3, some 7, some 10, none, some 19]] [] (ob1 (lp) ob0)
section
variable (es : List ByteArray) (ds : List Def) (mk mn mv mtk mtv : Int) (mtl : List Ty) (ml : List Expr) (env : List RV) (vk vn xk xn xv xtk xtv : Int) (xtl : List Ty) (xl : List Expr) (ve : List RV) (st : List RF)
theorem next_done (ek en ev etk etv : Int) (etl : List Ty) (el : List Expr) : SC 45 [.agg (RS.enc ⟨es, ds, .mk mk mn mv (.mk mtk mtv mtl) ml⟩ ⟨(.mk ek en ev (.mk etk etv etl) el), env, (.mk vk vn (.mk xk xn xv (.mk xtk xtv xtl) xl) ve), true, []⟩)] [] (.tup [I 3, I vn]) [] := by
 exact gF Tryz.func45 [rG, rG, rG] ob0
theorem next_step (ek en ev etk etv : Int) (etl : List Ty) (el : List Expr) (f : RF) (hs : st.length ≤ 4294967296) : SC 45 [.agg (RS.enc ⟨es, ds, .mk mk mn mv (.mk mtk mtv mtl) ml⟩ ⟨(.mk ek en ev (.mk etk etv etl) el), env, (.mk vk vn (.mk xk xn xv (.mk xtk xtv xtl) xl) ve), true, st ++ [f]⟩)] [] (.tup [I 0, I 0]) [] := by
 have hsl : (RF.encs (st ++ [f])).length = st.length + 1 := by simp
 generalize st ++ [f] = st2 at hsl ⊢
 rcases bsp ((↑(List.length (RF.encs st2)) : Int)) (0) with ⟨hb1, hb1'⟩ | ⟨hb1, hb1'⟩
 ·skip
  exfalso; first | contradiction | omega | (simp_all; done)
 ·skip
  exact gF Tryz.func45 [rG, rS [(6, .bit false)], rG, rG] (qU (((RF.encs st2).length : Int) == 0) ob0)
theorem next_event (n w tk tv : Int) (tl : List Ty) (l : List Expr) : SC 45 [.agg (RS.enc ⟨es, ds, .mk mk mn mv (.mk mtk mtv mtl) ml⟩ ⟨(.mk 7 n w (.mk tk tv tl) l), env, (.mk vk vn (.mk xk xn xv (.mk xtk xtv xtl) xl) ve), false, st⟩)] [] (.tup [I 1, I n]) [] := by
 exact gF Tryz.func45 (rGs 5 []) ob0
theorem next_pick (n w tk tv : Int) (tl : List Ty) (l : List Expr) : SC 45 [.agg (RS.enc ⟨es, ds, .mk mk mn mv (.mk mtk mtv mtl) ml⟩ ⟨(.mk 8 n w (.mk tk tv tl) l), env, (.mk vk vn (.mk xk xn xv (.mk xtk xtv xtl) xl) ve), false, st⟩)] [] (.tup [I 2, I w]) [] := by
 exact gF Tryz.func45 (rGs 5 []) ob0
end
end Go.Ae

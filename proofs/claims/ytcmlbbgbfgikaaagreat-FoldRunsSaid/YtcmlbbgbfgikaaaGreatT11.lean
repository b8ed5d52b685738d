/- Part 11 of the proof: AeRRB4, AeRRB5, AeRM13, AeRRC1, AeRRC6, AeRRG0. -/
import Derived.Test.YtcmlbbgbfgikaaaGreatT10
set_option linter.unusedSimpArgs false
set_option linter.unusedVariables false
namespace Go.Ae
open Go.Proofs
section
variable (es : List ByteArray) (ds : List Def) (mk mn mv mtk mtv : Int) (mtl : List Ty) (ml : List Expr) (env : List RV) (vk vn xk xn xv xtk xtv : Int) (xtl : List Ty) (xl : List Expr) (ve : List RV) (st : List RF) (qk qn qv qtk qtv : Int) (qtl : List Ty) (ql : List Expr) (env2 : List RV) (sk sn rk rn rv rtk rtv : Int) (rtl : List Ty) (rl : List Expr) (se : List RV) (b2 : Bool) (st2 : List RF)
theorem do_event (ak an av atk atv : Int) (atl : List Ty) (al : List Expr) (n w tk tv : Int) (tl : List Ty) (l : List Expr) (c : Int) (hl : l.length ≤ 1000)
  (hr : SC 79 [.agg (RS.enc ⟨es, ds, .mk mk mn mv (.mk mtk mtv mtl) ml⟩ ⟨(.mk ak an av (.mk atk atv atl) al), env, (.mk 0 0 (.mk 0 0 0 (.mk 0 0 []) []) []), false, st⟩)] [] (.agg (RS.enc ⟨es, ds, .mk mk mn mv (.mk mtk mtv mtl) ml⟩ ⟨(.mk qk qn qv (.mk qtk qtv qtl) ql), env2, (.mk sk sn (.mk rk rn rv (.mk rtk rtv rtl) rl) se), b2, st2⟩)) []) :
  SC 46 [.agg (RS.enc ⟨es, ds, .mk mk mn mv (.mk mtk mtv mtl) ml⟩ ⟨(.mk 7 n w (.mk tk tv tl) ((.mk ak an av (.mk atk atv atl) al) :: l)), env, (.mk vk vn (.mk xk xn xv (.mk xtk xtv xtl) xl) ve), false, st⟩), I c] [] (.agg (RS.enc ⟨es, ds, .mk mk mn mv (.mk mtk mtv mtl) ml⟩ ⟨(.mk qk qn qv (.mk qtk qtv qtl) ql), env2, (.mk sk sn (.mk rk rn rv (.mk rtk rtv rtl) rl) se), b2, st2⟩)) [] := by
 have hu := run_ es ds mk mn mv mtk mtv mtl ml 7 n w tk tv tl ((.mk ak an av (.mk atk atv atl) al) :: l) env vk vn xk xn xv xtk xtv xtl xl ve false st ak an av atk atv atl al env
 have hx : (Expr.encs ((.mk ak an av (.mk atk atv atl) al) :: l))[0]? = some (Expr.enc (.mk ak an av (.mk atk atv atl) al)) := rfl
 cases b2 with
 | false => exact gK Tryz.func46 [rG, rG, rG, rS [(4, .row 0 (xE ak an av atk atv atl al)), (8, oC hu), (9, oC hr)]] [.tidO 1 [some 1, some 14, none, none, none, none, none, some 3, some 7, none, none, none, none, none, some 3, some 7, some 10, none, none, none, none, none, none, none, some 3, some 7, some 10, none, some 19]] [] (qI 0 (qC0 ((xE ak an av atk atv atl al)) (Expr.encs l) (ob1 (hu) (ob1 (hr) ob0))))
 | true => exact gK Tryz.func46 [rG, rG, rG, rS [(4, .row 0 (xE ak an av atk atv atl al)), (8, oC hu), (9, oC hr)]] [.tidO 1 [some 1, some 14, none, none, none, none, none, some 3, some 7, none, none, none, none, none, some 3, some 7, some 10, none, none, none, none, none, none, none, some 3, some 7, some 10, none, some 19]] [] (qI 0 (qC0 ((xE ak an av atk atv atl al)) (Expr.encs l) (ob1 (hu) (ob1 (hr) ob0))))
theorem do_pick (n w tk tv : Int) (tl : List Ty) (l : List Expr) (c : Int)
  (hr : SC 79 [.agg (RS.enc ⟨es, ds, .mk mk mn mv (.mk mtk mtv mtl) ml⟩ ⟨(.mk 8 n w (.mk tk tv tl) l), env, (.mk 0 c (.mk 0 0 0 (.mk 0 0 []) []) []), true, st⟩)] [] (.agg (RS.enc ⟨es, ds, .mk mk mn mv (.mk mtk mtv mtl) ml⟩ ⟨(.mk qk qn qv (.mk qtk qtv qtl) ql), env2, (.mk sk sn (.mk rk rn rv (.mk rtk rtv rtl) rl) se), b2, st2⟩)) []) :
  SC 46 [.agg (RS.enc ⟨es, ds, .mk mk mn mv (.mk mtk mtv mtl) ml⟩ ⟨(.mk 8 n w (.mk tk tv tl) l), env, (.mk vk vn (.mk xk xn xv (.mk xtk xtv xtl) xl) ve), false, st⟩), I c] [] (.agg (RS.enc ⟨es, ds, .mk mk mn mv (.mk mtk mtv mtl) ml⟩ ⟨(.mk qk qn qv (.mk qtk qtv qtl) ql), env2, (.mk sk sn (.mk rk rn rv (.mk rtk rtv rtl) rl) se), b2, st2⟩)) [] := by
 have hg := give_ es ds mk mn mv mtk mtv mtl ml 8 n w tk tv tl l env vk vn xk xn xv xtk xtv xtl xl ve false st 0 c 0 0 0 0 0 [] [] []
 cases b2 with
 | false => exact gK Tryz.func46 [rG, rG, rG, rS [(3, oC hg), (4, oC hr)]] [.tidO 1 [some 1, some 14, none, none, none, none, none, some 3, some 7, none, none, none, none, none, some 3, some 7, some 10, none, none, none, none, none, none, none, some 3, some 7, some 10, none, some 19]] [] (ob1 (hg) (ob1 (hr) ob0))
 | true => exact gK Tryz.func46 [rG, rG, rG, rS [(3, oC hg), (4, oC hr)]] [.tidO 1 [some 1, some 14, none, none, none, none, none, some 3, some 7, none, none, none, none, none, some 3, some 7, some 10, none, none, none, none, none, none, none, some 3, some 7, some 10, none, some 19]] [] (ob1 (hg) (ob1 (hr) ob0))
theorem do_fun (ek en ev etk etv : Int) (etl : List Ty) (el : List Expr) (gk gn gv gtk gtv : Int) (gtl : List Ty) (gl : List Expr) (fe : List RV) (i : Nat) (zk zn zv ztk ztv : Int) (ztl : List Ty) (zl : List Expr) (hf : List RV) (bk bn bv btk btv : Int) (btl : List Ty) (bl : List Expr) (nm : ByteArray) (pk pv : Int) (pl : List Ty) (ok ov : Int) (ol : List Ty) (c : Int) (hs : st.length ≤ 4294967296) (hd : ds[i]? = some ⟨nm, .mk pk pv pl, .mk ok ov ol, (.mk bk bn bv (.mk btk btv btl) bl)⟩) (hds : ds.length ≤ 1000)
  (hr : SC 79 [.agg (RS.enc ⟨es, ds, .mk mk mn mv (.mk mtk mtv mtl) ml⟩ ⟨(.mk bk bn bv (.mk btk btv btl) bl), [(.mk vk vn (.mk xk xn xv (.mk xtk xtv xtl) xl) ve)], (.mk 0 0 (.mk 0 0 0 (.mk 0 0 []) []) []), false, st⟩)] [] (.agg (RS.enc ⟨es, ds, .mk mk mn mv (.mk mtk mtv mtl) ml⟩ ⟨(.mk qk qn qv (.mk qtk qtv qtl) ql), env2, (.mk sk sn (.mk rk rn rv (.mk rtk rtv rtl) rl) se), b2, st2⟩)) []) :
  SC 46 [.agg (RS.enc ⟨es, ds, .mk mk mn mv (.mk mtk mtv mtl) ml⟩ ⟨(.mk ek en ev (.mk etk etv etl) el), env, (.mk vk vn (.mk xk xn xv (.mk xtk xtv xtl) xl) ve), true, st ++ [(RF.mk 1 (.mk gk gn gv (.mk gtk gtv gtl) gl) fe (.mk 1 (i : Int) (.mk zk zn zv (.mk ztk ztv ztl) zl) hf))]⟩), I c] [] (.agg (RS.enc ⟨es, ds, .mk mk mn mv (.mk mtk mtv mtl) ml⟩ ⟨(.mk qk qn qv (.mk qtk qtv qtl) ql), env2, (.mk sk sn (.mk rk rn rv (.mk rtk rtv rtl) rl) se), b2, st2⟩)) [] := by
 have ht := top_ es ds mk mn mv mtk mtv mtl ml ek en ev etk etv etl el env vk vn xk xn xv xtk xtv xtl xl ve true st 1 gk gn gv gtk gtv gtl gl fe 1 (i : Int) zk zn zv ztk ztv ztl zl hf hs
 have hq := pop_ es ds mk mn mv mtk mtv mtl ml ek en ev etk etv etl el env vk vn xk xn xv xtk xtv xtl xl ve true st (RF.mk 1 (.mk gk gn gv (.mk gtk gtv gtl) gl) fe (.mk 1 (i : Int) (.mk zk zn zv (.mk ztk ztv ztl) zl) hf)) hs
 have hsl : (RF.encs (st ++ [(RF.mk 1 (.mk gk gn gv (.mk gtk gtv gtl) gl) fe (.mk 1 (i : Int) (.mk zk zn zv (.mk ztk ztv ztl) zl) hf))])).length = st.length + 1 := by simp
 have hx : (Def.encs ds)[i]? = some (Def.enc ⟨nm, .mk pk pv pl, .mk ok ov ol, (.mk bk bn bv (.mk btk btv btl) bl)⟩) := by rw [Def.encs_get, hd]; rfl
 have hi : i < ds.length := (List.getElem?_eq_some_iff.1 hd).1
 have hu := run_ es ds mk mn mv mtk mtv mtl ml ek en ev etk etv etl el env vk vn xk xn xv xtk xtv xtl xl ve true st bk bn bv btk btv btl bl [(.mk vk vn (.mk xk xn xv (.mk xtk xtv xtl) xl) ve)]
 clear hd
 cases b2 with
 | false => exact gK Tryz.func46 [rG, rG, rS [(1, oC ht)], rS [(1, oC hq)], rG, rG, rG, rS [(7, oW hx), (12, oC hu), (13, oC hr)]] [.tidO 1 [some 1, some 14, none, none, none, none, none, some 3, some 7, none, none, none, none, none, some 3, some 7, some 10, none, none, none, none, none, none, none, some 3, some 7, some 10, none, some 19]] [] (ob1 (ht) (ob1 (hq) (qI i (ob1 hx (ob1 (hu) (ob1 (hr) ob0))))))
 | true => exact gK Tryz.func46 [rG, rG, rS [(1, oC ht)], rS [(1, oC hq)], rG, rG, rG, rS [(7, oW hx), (12, oC hu), (13, oC hr)]] [.tidO 1 [some 1, some 14, none, none, none, none, none, some 3, some 7, none, none, none, none, none, some 3, some 7, some 10, none, none, none, none, none, none, none, some 3, some 7, some 10, none, some 19]] [] (ob1 (ht) (ob1 (hq) (qI i (ob1 hx (ob1 (hu) (ob1 (hr) ob0))))))
theorem do_clo (ek en ev etk etv : Int) (etl : List Ty) (el : List Expr) (gk gn gv gtk gtv : Int) (gtl : List Ty) (gl : List Expr) (fe : List RV) (hn zk zn zv ztk ztv : Int) (ztl : List Ty) (zl : List Expr) (hf : List RV) (bk bn bv btk btv : Int) (btl : List Ty) (bl : List Expr) (c : Int) (hs : st.length ≤ 4294967296) (hl : zl.length ≤ 1000) (hfl : hf.length ≤ 100000)
  (hr : SC 79 [.agg (RS.enc ⟨es, ds, .mk mk mn mv (.mk mtk mtv mtl) ml⟩ ⟨(.mk bk bn bv (.mk btk btv btl) bl), ((.mk vk vn (.mk xk xn xv (.mk xtk xtv xtl) xl) ve) :: hf), (.mk 0 0 (.mk 0 0 0 (.mk 0 0 []) []) []), false, st⟩)] [] (.agg (RS.enc ⟨es, ds, .mk mk mn mv (.mk mtk mtv mtl) ml⟩ ⟨(.mk qk qn qv (.mk qtk qtv qtl) ql), env2, (.mk sk sn (.mk rk rn rv (.mk rtk rtv rtl) rl) se), b2, st2⟩)) []) :
  SC 46 [.agg (RS.enc ⟨es, ds, .mk mk mn mv (.mk mtk mtv mtl) ml⟩ ⟨(.mk ek en ev (.mk etk etv etl) el), env, (.mk vk vn (.mk xk xn xv (.mk xtk xtv xtl) xl) ve), true, st ++ [(RF.mk 1 (.mk gk gn gv (.mk gtk gtv gtl) gl) fe (.mk 2 hn (.mk zk zn zv (.mk ztk ztv ztl) ((.mk bk bn bv (.mk btk btv btl) bl) :: zl)) hf))]⟩), I c] [] (.agg (RS.enc ⟨es, ds, .mk mk mn mv (.mk mtk mtv mtl) ml⟩ ⟨(.mk qk qn qv (.mk qtk qtv qtl) ql), env2, (.mk sk sn (.mk rk rn rv (.mk rtk rtv rtl) rl) se), b2, st2⟩)) [] := by
 have ht := top_ es ds mk mn mv mtk mtv mtl ml ek en ev etk etv etl el env vk vn xk xn xv xtk xtv xtl xl ve true st 1 gk gn gv gtk gtv gtl gl fe 2 hn zk zn zv ztk ztv ztl ((.mk bk bn bv (.mk btk btv btl) bl) :: zl) hf hs
 have hq := pop_ es ds mk mn mv mtk mtv mtl ml ek en ev etk etv etl el env vk vn xk xn xv xtk xtv xtl xl ve true st (RF.mk 1 (.mk gk gn gv (.mk gtk gtv gtl) gl) fe (.mk 2 hn (.mk zk zn zv (.mk ztk ztv ztl) ((.mk bk bn bv (.mk btk btv btl) bl) :: zl)) hf)) hs
 have hsl : (RF.encs (st ++ [(RF.mk 1 (.mk gk gn gv (.mk gtk gtv gtl) gl) fe (.mk 2 hn (.mk zk zn zv (.mk ztk ztv ztl) ((.mk bk bn bv (.mk btk btv btl) bl) :: zl)) hf))])).length = st.length + 1 := by simp
 have hx : (Expr.encs ((.mk bk bn bv (.mk btk btv btl) bl) :: zl))[0]? = some (Expr.enc (.mk bk bn bv (.mk btk btv btl) bl)) := rfl
 have hw := with_ vk vn xk xn xv xtk xtv xtl xl ve hf hfl
 have hu := run_ es ds mk mn mv mtk mtv mtl ml ek en ev etk etv etl el env vk vn xk xn xv xtk xtv xtl xl ve true st bk bn bv btk btv btl bl ((.mk vk vn (.mk xk xn xv (.mk xtk xtv xtl) xl) ve) :: hf)
 cases b2 with
 | false => exact gK Tryz.func46 [rG, rG, rS [(1, oC ht)], rS [(1, oC hq)], rG, rG, rG, rS [(5, .row 0 (xE bk bn bv btk btv btl bl)), (11, oC hw), (12, oC hu), (13, oC hr)]] [.tidO 1 [some 1, some 14, none, none, none, none, none, some 3, some 7, none, none, none, none, none, some 3, some 7, some 10, none, none, none, none, none, none, none, some 3, some 7, some 10, none, some 19]] [] (ob1 (ht) (ob1 (hq) (qI 0 (qC0 ((xE bk bn bv btk btv btl bl)) (Expr.encs zl) (ob1 (hw) (ob1 (hu) (ob1 (hr) ob0)))))))
 | true => exact gK Tryz.func46 [rG, rG, rS [(1, oC ht)], rS [(1, oC hq)], rG, rG, rG, rS [(5, .row 0 (xE bk bn bv btk btv btl bl)), (11, oC hw), (12, oC hu), (13, oC hr)]] [.tidO 1 [some 1, some 14, none, none, none, none, none, some 3, some 7, none, none, none, none, none, some 3, some 7, some 10, none, none, none, none, none, none, none, some 3, some 7, some 10, none, some 19]] [] (ob1 (ht) (ob1 (hq) (qI 0 (qC0 ((xE bk bn bv btk btv btl bl)) (Expr.encs zl) (ob1 (hw) (ob1 (hu) (ob1 (hr) ob0)))))))
theorem do_let (ek en ev etk etv : Int) (etl : List Ty) (el : List Expr) (hk : Int) (hn zk zn zv ztk ztv : Int) (ztl : List Ty) (zl : List Expr) (hf : List RV) (bk bn bv btk btv : Int) (btl : List Ty) (bl : List Expr) (a : Expr) (n w tk tv : Int) (tl : List Ty) (l : List Expr) (fe : List RV) (c : Int) (hs : st.length ≤ 4294967296) (hl : l.length ≤ 1000) (hfl : fe.length ≤ 100000)
  (hr : SC 79 [.agg (RS.enc ⟨es, ds, .mk mk mn mv (.mk mtk mtv mtl) ml⟩ ⟨(.mk bk bn bv (.mk btk btv btl) bl), ((.mk vk vn (.mk xk xn xv (.mk xtk xtv xtl) xl) ve) :: fe), (.mk 0 0 (.mk 0 0 0 (.mk 0 0 []) []) []), false, st⟩)] [] (.agg (RS.enc ⟨es, ds, .mk mk mn mv (.mk mtk mtv mtl) ml⟩ ⟨(.mk qk qn qv (.mk qtk qtv qtl) ql), env2, (.mk sk sn (.mk rk rn rv (.mk rtk rtv rtl) rl) se), b2, st2⟩)) []) :
  SC 46 [.agg (RS.enc ⟨es, ds, .mk mk mn mv (.mk mtk mtv mtl) ml⟩ ⟨(.mk ek en ev (.mk etk etv etl) el), env, (.mk vk vn (.mk xk xn xv (.mk xtk xtv xtl) xl) ve), true, st ++ [(RF.mk 2 (.mk 5 n w (.mk tk tv tl) (a :: (.mk bk bn bv (.mk btk btv btl) bl) :: l)) fe (.mk hk hn (.mk zk zn zv (.mk ztk ztv ztl) zl) hf))]⟩), I c] [] (.agg (RS.enc ⟨es, ds, .mk mk mn mv (.mk mtk mtv mtl) ml⟩ ⟨(.mk qk qn qv (.mk qtk qtv qtl) ql), env2, (.mk sk sn (.mk rk rn rv (.mk rtk rtv rtl) rl) se), b2, st2⟩)) [] := by
 have ht := top_ es ds mk mn mv mtk mtv mtl ml ek en ev etk etv etl el env vk vn xk xn xv xtk xtv xtl xl ve true st 2 5 n w tk tv tl (a :: (.mk bk bn bv (.mk btk btv btl) bl) :: l) fe hk hn zk zn zv ztk ztv ztl zl hf hs
 have hq := pop_ es ds mk mn mv mtk mtv mtl ml ek en ev etk etv etl el env vk vn xk xn xv xtk xtv xtl xl ve true st (RF.mk 2 (.mk 5 n w (.mk tk tv tl) (a :: (.mk bk bn bv (.mk btk btv btl) bl) :: l)) fe (.mk hk hn (.mk zk zn zv (.mk ztk ztv ztl) zl) hf)) hs
 have hsl : (RF.encs (st ++ [(RF.mk 2 (.mk 5 n w (.mk tk tv tl) (a :: (.mk bk bn bv (.mk btk btv btl) bl) :: l)) fe (.mk hk hn (.mk zk zn zv (.mk ztk ztv ztl) zl) hf))])).length = st.length + 1 := by simp
 have hx : (Expr.encs (a :: (.mk bk bn bv (.mk btk btv btl) bl) :: l))[1]? = some (Expr.enc (.mk bk bn bv (.mk btk btv btl) bl)) := rfl
 have hw := with_ vk vn xk xn xv xtk xtv xtl xl ve fe hfl
 have hu := run_ es ds mk mn mv mtk mtv mtl ml ek en ev etk etv etl el env vk vn xk xn xv xtk xtv xtl xl ve true st bk bn bv btk btv btl bl ((.mk vk vn (.mk xk xn xv (.mk xtk xtv xtl) xl) ve) :: fe)
 cases b2 with
 | false => exact gK Tryz.func46 [rG, rG, rS [(1, oC ht)], rS [(1, oC hq)], rG, rG, rG, rS [(4, .row 1 (xE bk bn bv btk btv btl bl)), (9, oC hw), (10, oC hu), (11, oC hr)]] [.tidO 1 [some 1, some 14, none, none, none, none, none, some 3, some 7, none, none, none, none, none, some 3, some 7, some 10, none, none, none, none, none, none, none, some 3, some 7, some 10, none, some 19]] [] (ob1 (ht) (ob1 (hq) (qI 1 (qC1 (Expr.enc a) ((xE bk bn bv btk btv btl bl)) (Expr.encs l) (ob1 (hw) (ob1 (hu) (ob1 (hr) ob0)))))))
 | true => exact gK Tryz.func46 [rG, rG, rS [(1, oC ht)], rS [(1, oC hq)], rG, rG, rG, rS [(4, .row 1 (xE bk bn bv btk btv btl bl)), (9, oC hw), (10, oC hu), (11, oC hr)]] [.tidO 1 [some 1, some 14, none, none, none, none, none, some 3, some 7, none, none, none, none, none, some 3, some 7, some 10, none, none, none, none, none, none, none, some 3, some 7, some 10, none, some 19]] [] (ob1 (ht) (ob1 (hq) (qI 1 (qC1 (Expr.enc a) ((xE bk bn bv btk btv btl bl)) (Expr.encs l) (ob1 (hw) (ob1 (hu) (ob1 (hr) ob0)))))))
theorem do_case (ek en ev etk etv : Int) (etl : List Ty) (el : List Expr) (gk gn gv gtk gtv : Int) (gtl : List Ty) (gl : List Expr) (fe : List RV) (hk : Int) (hn zk zn zv ztk ztv : Int) (ztl : List Ty) (zl : List Expr) (hf : List RV) (bk bn bv btk btv : Int) (btl : List Ty) (bl : List Expr) (m : Nat) (c : Int) (hs : st.length ≤ 4294967296) (hx0 : gl[1 + m]? = some (.mk bk bn bv (.mk btk btv btl) bl)) (hl : gl.length ≤ 1000)
  (hr : SC 79 [.agg (RS.enc ⟨es, ds, .mk mk mn mv (.mk mtk mtv mtl) ml⟩ ⟨(.mk bk bn bv (.mk btk btv btl) bl), fe, (.mk 0 0 (.mk 0 0 0 (.mk 0 0 []) []) []), false, st⟩)] [] (.agg (RS.enc ⟨es, ds, .mk mk mn mv (.mk mtk mtv mtl) ml⟩ ⟨(.mk qk qn qv (.mk qtk qtv qtl) ql), env2, (.mk sk sn (.mk rk rn rv (.mk rtk rtv rtl) rl) se), b2, st2⟩)) []) :
  SC 46 [.agg (RS.enc ⟨es, ds, .mk mk mn mv (.mk mtk mtv mtl) ml⟩ ⟨(.mk ek en ev (.mk etk etv etl) el), env, (.mk vk (m : Int) (.mk xk xn xv (.mk xtk xtv xtl) xl) ve), true, st ++ [(RF.mk 3 (.mk gk gn gv (.mk gtk gtv gtl) gl) fe (.mk hk hn (.mk zk zn zv (.mk ztk ztv ztl) zl) hf))]⟩), I c] [] (.agg (RS.enc ⟨es, ds, .mk mk mn mv (.mk mtk mtv mtl) ml⟩ ⟨(.mk qk qn qv (.mk qtk qtv qtl) ql), env2, (.mk sk sn (.mk rk rn rv (.mk rtk rtv rtl) rl) se), b2, st2⟩)) [] := by
 have ht := top_ es ds mk mn mv mtk mtv mtl ml ek en ev etk etv etl el env vk (m : Int) xk xn xv xtk xtv xtl xl ve true st 3 gk gn gv gtk gtv gtl gl fe hk hn zk zn zv ztk ztv ztl zl hf hs
 have hq := pop_ es ds mk mn mv mtk mtv mtl ml ek en ev etk etv etl el env vk (m : Int) xk xn xv xtk xtv xtl xl ve true st (RF.mk 3 (.mk gk gn gv (.mk gtk gtv gtl) gl) fe (.mk hk hn (.mk zk zn zv (.mk ztk ztv ztl) zl) hf)) hs
 have hsl : (RF.encs (st ++ [(RF.mk 3 (.mk gk gn gv (.mk gtk gtv gtl) gl) fe (.mk hk hn (.mk zk zn zv (.mk ztk ztv ztl) zl) hf))])).length = st.length + 1 := by simp
 have hx : (Expr.encs gl)[1 + m]? = some (Expr.enc (.mk bk bn bv (.mk btk btv btl) bl)) := by rw [Expr.encs_get, hx0]; rfl
 have hm : 1 + m < gl.length := (List.getElem?_eq_some_iff.1 hx0).1
 have hu := run_ es ds mk mn mv mtk mtv mtl ml ek en ev etk etv etl el env vk (m : Int) xk xn xv xtk xtv xtl xl ve true st bk bn bv btk btv btl bl fe
 clear hx0
 cases b2 with
 | false => exact gK Tryz.func46 [rG, rG, rS [(1, oC ht)], rS [(1, oC hq)], rG, rG, rG, rS [(6, .int (1 + (m : Int))), (7, oW hx), (11, oC hu), (12, oC hr)]] [.tidO 1 [some 1, some 14, none, none, none, none, none, some 3, some 7, none, none, none, none, none, some 3, some 7, some 10, none, none, none, none, none, none, none, some 3, some 7, some 10, none, some 19]] [] (ob1 (ht) (ob1 (hq) (qw (1 + (m : Int)) (q (1 + (m : Int) = (↑(1 + m) : Int)) (ob1 hx (ob1 (hu) (ob1 (hr) ob0)))))))
 | true => exact gK Tryz.func46 [rG, rG, rS [(1, oC ht)], rS [(1, oC hq)], rG, rG, rG, rS [(6, .int (1 + (m : Int))), (7, oW hx), (11, oC hu), (12, oC hr)]] [.tidO 1 [some 1, some 14, none, none, none, none, none, some 3, some 7, none, none, none, none, none, some 3, some 7, some 10, none, none, none, none, none, none, none, some 3, some 7, some 10, none, some 19]] [] (ob1 (ht) (ob1 (hq) (qw (1 + (m : Int)) (q (1 + (m : Int) = (↑(1 + m) : Int)) (ob1 hx (ob1 (hu) (ob1 (hr) ob0)))))))
end
end Go.Ae
namespace Go.Ae
open Go.Proofs
section
variable (es : List ByteArray) (ds : List Def) (mk mn mv mtk mtv : Int) (mtl : List Ty) (ml : List Expr) (ek en ev etk etv : Int) (etl : List Ty) (el : List Expr) (env : List RV) (vk vn xk xn xv xtk xtv : Int) (xtl : List Ty) (xl : List Expr) (ve : List RV) (b : Bool) (st : List RF) (ch : List Int) (fuel steps used : Int) (Ev : List (List AV)) (n : Int)
theorem go_done (hn : SC 45 [.agg (RS.enc ⟨es, ds, .mk mk mn mv (.mk mtk mtv mtl) ml⟩ ⟨(.mk ek en ev (.mk etk etv etl) el), env, (.mk vk vn (.mk xk xn xv (.mk xtk xtv xtl) xl) ve), b, st⟩)] [] (.tup [I 3, I n]) []) : Lp Tryz.prog 87 0 (loopN Tryz.f21 0) ⟨lookT [(1, .sl 1 (ints ch) false), (2, I fuel), (6, .lp 0 0), (9, .lp 1 0), (10, .lp 2 0), (11, I steps)], [.cells [.nil, I 0, I 0, I 0] [], .cells (RS.enc ⟨es, ds, .mk mk mn mv (.mk mtk mtv mtl) ml⟩ ⟨(.mk ek en ev (.mk etk etv etl) el), env, (.mk vk vn (.mk xk xn xv (.mk xtk xtv xtl) xl) ve), b, st⟩) [], .cells [.la 3 1, I used, I 0, I 0] [], .arr 1 1 Ev]⟩ .ret ⟨lookT [(6, .lp 0 0), (7, I 0), (8, B true)], [.cells [.la 1 1, I used, I 0, I n] [], .arr 1 1 Ev]⟩ := by
 exact lL [rS [(1, oC hn)], rG, rG, rG] [.keep [(6, []), (7, []), (8, [])]] (ob1 (hn) ob0)
theorem go_more (kd : Int) (hk : kd ≠ 3) (hf : fuel ≤ steps) (hn : SC 45 [.agg (RS.enc ⟨es, ds, .mk mk mn mv (.mk mtk mtv mtl) ml⟩ ⟨(.mk ek en ev (.mk etk etv etl) el), env, (.mk vk vn (.mk xk xn xv (.mk xtk xtv xtl) xl) ve), b, st⟩)] [] (.tup [I kd, I n]) []) : Lp Tryz.prog 87 0 (loopN Tryz.f21 0) ⟨lookT [(1, .sl 1 (ints ch) false), (2, I fuel), (6, .lp 0 0), (9, .lp 1 0), (10, .lp 2 0), (11, I steps)], [.cells [.nil, I 0, I 0, I 0] [], .cells (RS.enc ⟨es, ds, .mk mk mn mv (.mk mtk mtv mtl) ml⟩ ⟨(.mk ek en ev (.mk etk etv etl) el), env, (.mk vk vn (.mk xk xn xv (.mk xtk xtv xtl) xl) ve), b, st⟩) [], .cells [.la 3 1, I used, I 0, I 0] [], .arr 1 1 Ev]⟩ .ret ⟨lookT [(6, .lp 0 0), (7, I 0), (8, B true)], [.cells [.la 1 1, I used, I 1, I 0] [], .arr 1 1 Ev]⟩ := by
 exact lL [rS [(1, oC hn)], rS [(1, .bit false)], rS [(2, .bit true)], rG, rG] [.keep [(6, []), (7, []), (8, [])]] (ob1 (hn) (qU (kd == 3) (qT (fuel ≤ steps) ob0)))
theorem go_full (hf : steps < fuel) (hE : 4096 ≤ Ev.length) (hE2 : Ev.length ≤ 100000) (hn : SC 45 [.agg (RS.enc ⟨es, ds, .mk mk mn mv (.mk mtk mtv mtl) ml⟩ ⟨(.mk ek en ev (.mk etk etv etl) el), env, (.mk vk vn (.mk xk xn xv (.mk xtk xtv xtl) xl) ve), b, st⟩)] [] (.tup [I 1, I n]) []) : Lp Tryz.prog 87 0 (loopN Tryz.f21 0) ⟨lookT [(1, .sl 1 (ints ch) false), (2, I fuel), (6, .lp 0 0), (9, .lp 1 0), (10, .lp 2 0), (11, I steps)], [.cells [.nil, I 0, I 0, I 0] [], .cells (RS.enc ⟨es, ds, .mk mk mn mv (.mk mtk mtv mtl) ml⟩ ⟨(.mk ek en ev (.mk etk etv etl) el), env, (.mk vk vn (.mk xk xn xv (.mk xtk xtv xtl) xl) ve), b, st⟩) [], .cells [.la 3 1, I used, I 0, I 0] [], .arr 1 1 Ev]⟩ .ret ⟨lookT [(6, .lp 0 0), (7, I 0), (8, B true)], [.cells [.la 1 1, I used, I 1, I 0] [], .arr 1 1 Ev]⟩ := by
 exact lL [rS [(1, oC hn)], rG, rS [(2, .bit false)], rS [(6, .bit true)], rG, rG] [.keep [(6, []), (7, []), (8, [])]] (ob1 (hn) (qF (fuel ≤ steps) (qT (4096 ≤ (Ev.length : Int)) ob0)))
theorem go_want (hf : steps < fuel) (hu : (ch.length : Int) ≤ used) (hl : ch.length ≤ 4294967296) (hn : SC 45 [.agg (RS.enc ⟨es, ds, .mk mk mn mv (.mk mtk mtv mtl) ml⟩ ⟨(.mk ek en ev (.mk etk etv etl) el), env, (.mk vk vn (.mk xk xn xv (.mk xtk xtv xtl) xl) ve), b, st⟩)] [] (.tup [I 2, I n]) []) : Lp Tryz.prog 87 0 (loopN Tryz.f21 0) ⟨lookT [(1, .sl 1 (ints ch) false), (2, I fuel), (6, .lp 0 0), (9, .lp 1 0), (10, .lp 2 0), (11, I steps)], [.cells [.nil, I 0, I 0, I 0] [], .cells (RS.enc ⟨es, ds, .mk mk mn mv (.mk mtk mtv mtl) ml⟩ ⟨(.mk ek en ev (.mk etk etv etl) el), env, (.mk vk vn (.mk xk xn xv (.mk xtk xtv xtl) xl) ve), b, st⟩) [], .cells [.la 3 1, I used, I 0, I 0] [], .arr 1 1 Ev]⟩ .ret ⟨lookT [(6, .lp 0 0), (7, I n), (8, B true)], [.cells [.la 1 1, I used, I 2, I 0] [], .arr 1 1 Ev]⟩ := by
 exact lL [rS [(1, oC hn)], rG, rS [(2, .bit false)], rG, rS [(6, .int (ch.length : Int)), (7, .bit true)], rG, rG] [.keep [(6, []), (7, []), (8, [])]] (ob1 (hn) (qF (fuel ≤ steps) (qN ints ch (qT ((ch.length : Int) ≤ used) ob0))))
variable (qk qn qv qtk qtv : Int) (qtl : List Ty) (ql : List Expr) (env2 : List RV) (sk sn rk rn rv rtk rtv : Int) (rtl : List Ty) (rl : List Expr) (se : List RV) (b2 : Bool) (st2 : List RF) (x : Exit) (s' : ASt)
theorem go_next (hf : steps < fuel) (hs : 0 ≤ steps ∧ steps ≤ 10000000) (hn : SC 45 [.agg (RS.enc ⟨es, ds, .mk mk mn mv (.mk mtk mtv mtl) ml⟩ ⟨(.mk ek en ev (.mk etk etv etl) el), env, (.mk vk vn (.mk xk xn xv (.mk xtk xtv xtl) xl) ve), b, st⟩)] [] (.tup [I 0, I n]) []) (hd : SC 46 [.agg (RS.enc ⟨es, ds, .mk mk mn mv (.mk mtk mtv mtl) ml⟩ ⟨(.mk ek en ev (.mk etk etv etl) el), env, (.mk vk vn (.mk xk xn xv (.mk xtk xtv xtl) xl) ve), b, st⟩), I 0] [] (.agg (RS.enc ⟨es, ds, .mk mk mn mv (.mk mtk mtv mtl) ml⟩ ⟨(.mk qk qn qv (.mk qtk qtv qtl) ql), env2, (.mk sk sn (.mk rk rn rv (.mk rtk rtv rtl) rl) se), b2, st2⟩)) [])
  (k : Lp Tryz.prog 87 0 (loopN Tryz.f21 0) ⟨lookT [(1, .sl 1 (ints ch) false), (2, I fuel), (6, .lp 0 0), (9, .lp 1 0), (10, .lp 2 0), (11, I (steps + 1))], [.cells [.nil, I 0, I 0, I 0] [], .cells (RS.enc ⟨es, ds, .mk mk mn mv (.mk mtk mtv mtl) ml⟩ ⟨(.mk qk qn qv (.mk qtk qtv qtl) ql), env2, (.mk sk sn (.mk rk rn rv (.mk rtk rtv rtl) rl) se), b2, st2⟩) [], .cells [.la 3 1, I used, I 0, I 0] [], .arr 1 1 Ev]⟩ x s') : Lp Tryz.prog 87 0 (loopN Tryz.f21 0) ⟨lookT [(1, .sl 1 (ints ch) false), (2, I fuel), (6, .lp 0 0), (9, .lp 1 0), (10, .lp 2 0), (11, I steps)], [.cells [.nil, I 0, I 0, I 0] [], .cells (RS.enc ⟨es, ds, .mk mk mn mv (.mk mtk mtv mtl) ml⟩ ⟨(.mk ek en ev (.mk etk etv etl) el), env, (.mk vk vn (.mk xk xn xv (.mk xtk xtv xtl) xl) ve), b, st⟩) [], .cells [.la 3 1, I used, I 0, I 0] [], .arr 1 1 Ev]⟩ x s' := by
 cases b2 with
 | false => exact lN ([rS [(1, oC hn)], rG, rS [(2, .bit false)]] ++ (rGs 5 [rS [(2, oC hd)], rS [(1, .int (steps + 1))]])) [.keep [(1, []), (2, []), (6, []), (9, []), (10, []), (11, [])]] (ob1 (hn) (qF (fuel ≤ steps) (ob1 (hd) (qw (steps + 1) ob0)))) (k)
 | true => exact lN ([rS [(1, oC hn)], rG, rS [(2, .bit false)]] ++ (rGs 5 [rS [(2, oC hd)], rS [(1, .int (steps + 1))]])) [.keep [(1, []), (2, []), (6, []), (9, []), (10, []), (11, [])]] (ob1 (hn) (qF (fuel ≤ steps) (ob1 (hd) (qw (steps + 1) ob0)))) (k)
theorem go_event (hf : steps < fuel) (hs : 0 ≤ steps ∧ steps ≤ 10000000) (hE : Ev.length < 4096) (hn : SC 45 [.agg (RS.enc ⟨es, ds, .mk mk mn mv (.mk mtk mtv mtl) ml⟩ ⟨(.mk ek en ev (.mk etk etv etl) el), env, (.mk vk vn (.mk xk xn xv (.mk xtk xtv xtl) xl) ve), b, st⟩)] [] (.tup [I 1, I n]) []) (hd : SC 46 [.agg (RS.enc ⟨es, ds, .mk mk mn mv (.mk mtk mtv mtl) ml⟩ ⟨(.mk ek en ev (.mk etk etv etl) el), env, (.mk vk vn (.mk xk xn xv (.mk xtk xtv xtl) xl) ve), b, st⟩), I 0] [] (.agg (RS.enc ⟨es, ds, .mk mk mn mv (.mk mtk mtv mtl) ml⟩ ⟨(.mk qk qn qv (.mk qtk qtv qtl) ql), env2, (.mk sk sn (.mk rk rn rv (.mk rtk rtv rtl) rl) se), b2, st2⟩)) [])
  (k : Lp Tryz.prog 87 0 (loopN Tryz.f21 0) ⟨lookT [(1, .sl 1 (ints ch) false), (2, I fuel), (6, .lp 0 0), (9, .lp 1 0), (10, .lp 2 0), (11, I (steps + 1))], [.cells [.nil, I 0, I 0, I 0] [], .cells (RS.enc ⟨es, ds, .mk mk mn mv (.mk mtk mtv mtl) ml⟩ ⟨(.mk qk qn qv (.mk qtk qtv qtl) ql), env2, (.mk sk sn (.mk rk rn rv (.mk rtk rtv rtl) rl) se), b2, st2⟩) [], .cells [.la 3 1, I used, I 0, I 0] [], .arr 1 1 (Ev ++ [[I n]])]⟩ x s') : Lp Tryz.prog 87 0 (loopN Tryz.f21 0) ⟨lookT [(1, .sl 1 (ints ch) false), (2, I fuel), (6, .lp 0 0), (9, .lp 1 0), (10, .lp 2 0), (11, I steps)], [.cells [.nil, I 0, I 0, I 0] [], .cells (RS.enc ⟨es, ds, .mk mk mn mv (.mk mtk mtv mtl) ml⟩ ⟨(.mk ek en ev (.mk etk etv etl) el), env, (.mk vk vn (.mk xk xn xv (.mk xtk xtv xtl) xl) ve), b, st⟩) [], .cells [.la 3 1, I used, I 0, I 0] [], .arr 1 1 Ev]⟩ x s' := by
 have hF : Fits (Ev.length + 1) Ev.length 8 := by apply Fits.of; omega
 cases b2 with
 | false => exact lN ([rS [(1, oC hn)], rG, rS [(2, .bit false)], rS [(6, .bit false)]] ++ (rGs 5 [rS [(2, oC hd)], rS [(1, .int (steps + 1))]])) [.keep [(1, []), (2, []), (6, []), (9, []), (10, []), (11, [])]] (ob1 (hn) (qF (fuel ≤ steps) (qF (4096 ≤ (Ev.length : Int)) (q (Fits (List.length Ev + 1) (List.length Ev) 8) (ob1 (hd) (qw (steps + 1) ob0)))))) (k)
 | true => exact lN ([rS [(1, oC hn)], rG, rS [(2, .bit false)], rS [(6, .bit false)]] ++ (rGs 5 [rS [(2, oC hd)], rS [(1, .int (steps + 1))]])) [.keep [(1, []), (2, []), (6, []), (9, []), (10, []), (11, [])]] (ob1 (hn) (qF (fuel ≤ steps) (qF (4096 ≤ (Ev.length : Int)) (q (Fits (List.length Ev + 1) (List.length Ev) 8) (ob1 (hd) (qw (steps + 1) ob0)))))) (k)
end
section
variable (es : List ByteArray) (ds : List Def) (mk mn mv mtk mtv : Int) (mtl : List Ty) (ml : List Expr) (ek en ev etk etv : Int) (etl : List Ty) (el : List Expr) (env : List RV) (vk vn xk xn xv xtk xtv : Int) (xtl : List Ty) (xl : List Expr) (ve : List RV) (b : Bool) (st : List RF) (ch : List Int) (fuel steps : Int) (used : Nat) (Ev : List (List AV)) (n : Int) (qk qn qv qtk qtv : Int) (qtl : List Ty) (ql : List Expr) (env2 : List RV) (sk sn rk rn rv rtk rtv : Int) (rtl : List Ty) (rl : List Expr) (se : List RV) (b2 : Bool) (st2 : List RF) (x : Exit) (s' : ASt)
theorem go_pick (c : Int) (hf : steps < fuel) (hs : 0 ≤ steps ∧ steps ≤ 10000000) (hx : (ints ch)[used]? = some [I c]) (hu : used < ch.length) (hl : ch.length ≤ 4294967296) (h0 : 0 ≤ c) (h1 : c < n) (hn : SC 45 [.agg (RS.enc ⟨es, ds, .mk mk mn mv (.mk mtk mtv mtl) ml⟩ ⟨(.mk ek en ev (.mk etk etv etl) el), env, (.mk vk vn (.mk xk xn xv (.mk xtk xtv xtl) xl) ve), b, st⟩)] [] (.tup [I 2, I n]) []) (hd : SC 46 [.agg (RS.enc ⟨es, ds, .mk mk mn mv (.mk mtk mtv mtl) ml⟩ ⟨(.mk ek en ev (.mk etk etv etl) el), env, (.mk vk vn (.mk xk xn xv (.mk xtk xtv xtl) xl) ve), b, st⟩), I c] [] (.agg (RS.enc ⟨es, ds, .mk mk mn mv (.mk mtk mtv mtl) ml⟩ ⟨(.mk qk qn qv (.mk qtk qtv qtl) ql), env2, (.mk sk sn (.mk rk rn rv (.mk rtk rtv rtl) rl) se), b2, st2⟩)) [])
  (k : Lp Tryz.prog 87 0 (loopN Tryz.f21 0) ⟨lookT [(1, .sl 1 (ints ch) false), (2, I fuel), (6, .lp 0 0), (9, .lp 1 0), (10, .lp 2 0), (11, I (steps + 1))], [.cells [.nil, I 0, I 0, I 0] [], .cells (RS.enc ⟨es, ds, .mk mk mn mv (.mk mtk mtv mtl) ml⟩ ⟨(.mk qk qn qv (.mk qtk qtv qtl) ql), env2, (.mk sk sn (.mk rk rn rv (.mk rtk rtv rtl) rl) se), b2, st2⟩) [], .cells [.la 3 1, I ((used : Int) + 1), I 0, I 0] [], .arr 1 1 Ev]⟩ x s') : Lp Tryz.prog 87 0 (loopN Tryz.f21 0) ⟨lookT [(1, .sl 1 (ints ch) false), (2, I fuel), (6, .lp 0 0), (9, .lp 1 0), (10, .lp 2 0), (11, I steps)], [.cells [.nil, I 0, I 0, I 0] [], .cells (RS.enc ⟨es, ds, .mk mk mn mv (.mk mtk mtv mtl) ml⟩ ⟨(.mk ek en ev (.mk etk etv etl) el), env, (.mk vk vn (.mk xk xn xv (.mk xtk xtv xtl) xl) ve), b, st⟩) [], .cells [.la 3 1, I used, I 0, I 0] [], .arr 1 1 Ev]⟩ x s' := by
 cases b2 with
 | false => exact lN [rS [(1, oC hn)], rG, rS [(2, .bit false)], rG, rS [(6, .int (ch.length : Int)), (7, .bit false)], rG, rG, rG, rS [(3, oW hx)], rS [(1, .bit false), (5, .bit false)], rS [(2, .int ((used : Int) + 1))], rS [(2, oC hd)], rS [(1, .int (steps + 1))]] [.keep [(1, []), (2, []), (6, []), (9, []), (10, []), (11, [])]] (ob1 (hn) (qF (fuel ≤ steps) (qN ints ch (qF ((ch.length : Int) ≤ (used : Int)) (qI used (ob1 hx (qF (c < 0) (qF (n ≤ c) (qw ((used : Int) + 1) (ob1 (hd) (qw (steps + 1) ob0))))))))))) (k)
 | true => exact lN [rS [(1, oC hn)], rG, rS [(2, .bit false)], rG, rS [(6, .int (ch.length : Int)), (7, .bit false)], rG, rG, rG, rS [(3, oW hx)], rS [(1, .bit false), (5, .bit false)], rS [(2, .int ((used : Int) + 1))], rS [(2, oC hd)], rS [(1, .int (steps + 1))]] [.keep [(1, []), (2, []), (6, []), (9, []), (10, []), (11, [])]] (ob1 (hn) (qF (fuel ≤ steps) (qN ints ch (qF ((ch.length : Int) ≤ (used : Int)) (qI used (ob1 hx (qF (c < 0) (qF (n ≤ c) (qw ((used : Int) + 1) (ob1 (hd) (qw (steps + 1) ob0))))))))))) (k)
end
section
variable (es : List ByteArray) (ds : List Def) (mk mn mv mtk mtv : Int) (mtl : List Ty) (ml : List Expr) (qk qn qv qtk qtv : Int) (qtl : List Ty) (ql : List Expr) (env2 : List RV) (sk sn rk rn rv rtk rtv : Int) (rtl : List Ty) (rl : List Expr) (se : List RV) (b2 : Bool) (st2 : List RF)
theorem begin_ (hr : SC 79 [.agg (RS.enc ⟨es, ds, .mk mk mn mv (.mk mtk mtv mtl) ml⟩ ⟨(.mk mk mn mv (.mk mtk mtv mtl) ml), [], (.mk 0 0 (.mk 0 0 0 (.mk 0 0 []) []) []), false, []⟩)] [] (.agg (RS.enc ⟨es, ds, .mk mk mn mv (.mk mtk mtv mtl) ml⟩ ⟨(.mk qk qn qv (.mk qtk qtv qtl) ql), env2, (.mk sk sn (.mk rk rn rv (.mk rtk rtv rtl) rl) se), b2, st2⟩)) []) :
  SC 44 [.agg (Prog.enc ⟨es, ds, .mk mk mn mv (.mk mtk mtv mtl) ml⟩)] [] (.agg (RS.enc ⟨es, ds, .mk mk mn mv (.mk mtk mtv mtl) ml⟩ ⟨(.mk qk qn qv (.mk qtk qtv qtl) ql), env2, (.mk sk sn (.mk rk rn rv (.mk rtk rtv rtl) rl) se), b2, st2⟩)) [] := by
 cases b2 with
 | false => exact gK Tryz.func44 [rG, rS [(4, oC hr)]] [.tidO 1 [some 1, some 14, none, none, none, none, none, some 3, some 7, none, none, none, none, none, some 3, some 7, some 10, none, none, none, none, none, none, none, some 3, some 7, some 10, none, some 19]] [] (ob1 (hr) ob0)
 | true => exact gK Tryz.func44 [rG, rS [(4, oC hr)]] [.tidO 1 [some 1, some 14, none, none, none, none, none, some 3, some 7, none, none, none, none, none, some 3, some 7, some 10, none, none, none, none, none, none, none, some 3, some 7, some 10, none, some 19]] [] (ob1 (hr) ob0)
theorem go_ (ch : List Int) (fuel : Int) (ev : List Int) (used en value w : Int) (hb : SC 44 [.agg (Prog.enc ⟨es, ds, .mk mk mn mv (.mk mtk mtv mtl) ml⟩)] [] (.agg (RS.enc ⟨es, ds, .mk mk mn mv (.mk mtk mtv mtl) ml⟩ ⟨(.mk qk qn qv (.mk qtk qtv qtl) ql), env2, (.mk sk sn (.mk rk rn rv (.mk rtk rtv rtl) rl) se), b2, st2⟩)) [])
  (lp : Lp Tryz.prog 87 0 (loopN Tryz.f21 0) ⟨lookT [(1, .sl 1 (ints ch) false), (2, I fuel), (6, .lp 0 0), (9, .lp 1 0), (10, .lp 2 0), (11, I 0)], [.cells [.nil, I 0, I 0, I 0] [], .cells (RS.enc ⟨es, ds, .mk mk mn mv (.mk mtk mtv mtl) ml⟩ ⟨(.mk qk qn qv (.mk qtk qtv qtl) ql), env2, (.mk sk sn (.mk rk rn rv (.mk rtk rtv rtl) rl) se), b2, st2⟩) [], .cells [.la 3 1, I 0, I 0, I 0] [], .arr 1 1 []]⟩ .ret ⟨lookT [(6, .lp 0 0), (7, I w), (8, B true)], [.cells [.la 1 1, I used, I en, I value] [], .arr 1 1 (ints ev)]⟩) :
  SC 21 [.agg (Prog.enc ⟨es, ds, .mk mk mn mv (.mk mtk mtv mtl) ml⟩), .sl 1 (ints ch) false, I fuel] [] (.tup [.agg [.sl 1 (ints ev) false, I used, I en, I value], I w, B true]) [] := by
 cases b2 with
 | false => exact gK Tryz.func21 [rG, rS [(1, oC hb)], rG, rG, oL [.accO 3 0 1, .keep [(1, []), (2, []), (6, []), (9, []), (10, []), (11, [])]] lp] [.frz 1] [] (ob1 (hb) (ob1 (lp) ob0))
 | true => exact gK Tryz.func21 [rG, rS [(1, oC hb)], rG, rG, oL [.accO 3 0 1, .keep [(1, []), (2, []), (6, []), (9, []), (10, []), (11, [])]] lp] [.frz 1] [] (ob1 (hb) (ob1 (lp) ob0))
theorem rdo_ (ch : List Int) (fuel : Int) (ev : List Int) (used en value w : Int) (hi : SC 20 [.agg (Prog.enc ⟨es, ds, .mk mk mn mv (.mk mtk mtv mtl) ml⟩)] [] (B true) []) (h0 : 0 ≤ fuel) (h1 : fuel ≤ 1048576) (h2 : ch.length ≤ 4096)
  (hg : SC 21 [.agg (Prog.enc ⟨es, ds, .mk mk mn mv (.mk mtk mtv mtl) ml⟩), .sl 1 (ints ch) false, I fuel] [] (.tup [.agg [.sl 1 (ints ev) false, I used, I en, I value], I w, B true]) []) :
  SC 8 [.agg (Prog.enc ⟨es, ds, .mk mk mn mv (.mk mtk mtv mtl) ml⟩), .sl 1 (ints ch) false, I fuel] [] (.tup [.agg [.sl 1 (ints ev) false, I used, I en, I value], I 0]) [] := by
 exact gK Tryz.func8 [rG, rS [(1, oC hi)], rS [(1, .bit false), (4, .bit false), (8, .int (ch.length : Int)), (9, .bit false)], rS [(3, oC hg)], rG, rG] [.tidO 1 [some 1, none, none, none]] [] (ob1 (hi) (qF (fuel < 0) (qF (1048576 < fuel) (qN ints ch (qF (4096 < (ch.length : Int)) (ob1 (hg) ob0))))))
end
end Go.Ae
namespace Go.Ae
theorem Mv.mono {p : Prog} {fuel fuel2 : Int} {ch more : List Int} {s s' : MS} (h : Mv p fuel ch s (.go s')) (hf : fuel ≤ fuel2) : Mv p fuel2 (ch ++ more) s (.go s') := by
 generalize ho : Out.go s' = o at h
 have app : ∀ {i : Nat} {c : Int}, ch[i]? = some c → (ch ++ more)[i]? = some c := fun {i c} e => by
  rw [List.getElem?_append_left (List.getElem?_eq_some_iff.1 e).1]; exact e
 cases h with
 | const => exact .const
 | var h hn => exact .var h hn
 | fn h0 h1 => exact .fn h0 h1
 | lam => exact .lam
 | app hl => exact .app hl
 | lt hl => exact .lt hl
 | cs hl => exact .cs hl
 | fine hf1 hc h0 h1 => exact .fine (by omega) (app hc) h0 h1
 | event hf1 he hl => exact .event (by omega) he hl
 | arg => exact .arg
 | blet hf1 => exact .blet (by omega)
 | bcase hf1 hl hw => exact .bcase (by omega) hl hw
 | bfun hf1 hd => exact .bfun (by omega) hd
 | bclo hf1 => exact .bclo (by omega)
 | _ => cases ho
theorem Mv.grow {p : Prog} {fuel : Int} {ch : List Int} {s s' : MS} (h : Mv p fuel ch s (.go s')) : s.ev <+: s'.ev ∧ s.used ≤ s'.used := by
 generalize ho : Out.go s' = o at h
 cases h with
 | event => cases ho; exact ⟨List.prefix_append .., Nat.le_refl _⟩
 | fine => cases ho; exact ⟨List.prefix_refl _, Nat.le_succ _⟩
 | _ => first | (cases ho; done) | (cases ho; exact ⟨List.prefix_refl _, Nat.le_refl _⟩)
theorem MRun.grow {p : Prog} {fuel : Int} {ch : List Int} {s s' : MS} {en v w : Int} {b : Bool} (h : MRun p fuel ch s s' en v w b) : s.ev <+: s'.ev ∧ s.used ≤ s'.used := by
 induction h with
 | @stop s s' en value width wrong h =>
  have : s' = s := by cases h <;> rfl
  subst this
  exact ⟨List.prefix_refl _, Nat.le_refl _⟩
 | more h r ih => exact ⟨h.grow.1.trans ih.1, Nat.le_trans h.grow.2 ih.2⟩
theorem run_nopick {p : Prog} {fuel : Int} {ch : List Int} {s s1 : MS} {en v w : Int} {b : Bool} (h : MRun p fuel ch s s1 en v w b) (hu : ch.length ≤ s.used) : b = false ∧ s1.used = s.used := by
 induction h with
 | @stop s s' en value width wrong h =>
  generalize ho : Out.stop s' en value width wrong = o at h
  cases h with
  | wrong hf hc hw =>
   cases ho
   have := (List.getElem?_eq_some_iff.1 hc).1
   simp only at hu
   omega
  | _ => first | (cases ho; done) | (cases ho; exact ⟨rfl, rfl⟩)
 | @more s s1 s' en value width wrong h r ih =>
  have hs : s1.used = s.used := by
   generalize ho : Out.go s1 = o at h
   cases h with
   | fine hf hc h0 h1 =>
    cases ho
    have := (List.getElem?_eq_some_iff.1 hc).1
    simp only at hu
    omega
   | _ => first | (cases ho; done) | (cases ho; rfl)
  obtain ⟨h1, h2⟩ := ih (by omega)
  exact ⟨h1, by omega⟩
end Go.Ae
namespace Go.Ae
open Go.Proofs
mutual
def Vl.mx : Vl → Nat
 | .mk _ _ _ env => max env.length (mxL env)
def mxL : List Vl → Nat
 | [] => 0
 | v :: l => max v.mx (mxL l)
end
theorem mxL_get : ∀ {l : List Vl} {i : Nat} {v : Vl}, l[i]? = some v → v.mx ≤ mxL l
 | [], i, v, h => by simp at h
 | x :: l, 0, v, h => by simp at h; subst h; simp only [mxL]; omega
 | x :: l, i + 1, v, h => by have := mxL_get (l := l) (i := i) (by simpa using h); simp only [mxL]; omega
structure EBd (N : Nat) (s : MS) : Prop where
 env : s.env.length ≤ N ∧ mxL s.env ≤ N
 val : s.val.mx ≤ N
 fr : ∀ f ∈ s.fr, f.env.length ≤ N ∧ mxL f.env ≤ N ∧ f.fn.mx ≤ N
theorem EBd.go {p : Prog} {fuel : Int} {ch : List Int} {s s' : MS} {N : Nat} (h : Mv p fuel ch s (.go s')) (hb : EBd N s) : (s'.steps = s.steps ∧ EBd N s') ∨ (s'.steps = s.steps + 1 ∧ EBd (N + 1) s') := by
 obtain ⟨b1, b2, b3⟩ := hb
 generalize ho : Out.go s' = o at h
 cases h with
 | const => cases ho; exact .inl ⟨rfl, ⟨by simp [mxL], by simp [Vl.mx, mxL], b3⟩⟩
 | var h hn => cases ho; have := mxL_get h; simp only at b1; exact .inl ⟨rfl, ⟨by simp [mxL], by simp only; omega, b3⟩⟩
 | fn => cases ho; exact .inl ⟨rfl, ⟨by simp [mxL], by simp [Vl.mx, mxL], b3⟩⟩
 | lam => cases ho; simp only at b1; exact .inl ⟨rfl, ⟨by simp [mxL], by simp only [Vl.mx]; omega, b3⟩⟩
 | app =>
  cases ho
  refine .inl ⟨rfl, ⟨b1, b2, fun f hf => ?_⟩⟩
  rcases List.mem_cons.1 hf with rfl | hf
  ·exact ⟨b1.1, b1.2, by simp [vZ, Vl.mx, mxL]⟩
  ·exact b3 f hf
 | lt =>
  cases ho
  refine .inl ⟨rfl, ⟨b1, b2, fun f hf => ?_⟩⟩
  rcases List.mem_cons.1 hf with rfl | hf
  ·exact ⟨b1.1, b1.2, by simp [vZ, Vl.mx, mxL]⟩
  ·exact b3 f hf
 | cs =>
  cases ho
  refine .inl ⟨rfl, ⟨b1, b2, fun f hf => ?_⟩⟩
  rcases List.mem_cons.1 hf with rfl | hf
  ·exact ⟨b1.1, b1.2, by simp [vZ, Vl.mx, mxL]⟩
  ·exact b3 f hf
 | fine => cases ho; exact .inr ⟨rfl, ⟨by simp [mxL], by simp [Vl.mx, mxL], fun f hf => by have := b3 f hf; omega⟩⟩
 | event => cases ho; simp only at b1 b2; exact .inr ⟨rfl, ⟨by simp only; omega, by simp only; omega, fun f hf => by have := b3 f hf; omega⟩⟩
 | arg =>
  cases ho
  have h0 := b3 _ (List.mem_cons_self ..)
  refine .inl ⟨rfl, ⟨⟨h0.1, h0.2.1⟩, b2, fun f hf => ?_⟩⟩
  rcases List.mem_cons.1 hf with rfl | hf
  ·exact ⟨by simp, by simp [mxL], b2⟩
  ·exact b3 f (List.mem_cons_of_mem _ hf)
 | blet =>
  cases ho
  have h0 := b3 _ (List.mem_cons_self ..)
  simp only at b2 h0
  exact .inr ⟨rfl, ⟨by simp only [List.length_cons, mxL]; omega, by simp only; omega, fun f hf => by have := b3 f (List.mem_cons_of_mem _ hf); omega⟩⟩
 | bcase =>
  cases ho
  have h0 := b3 _ (List.mem_cons_self ..)
  simp only at b2 h0
  exact .inr ⟨rfl, ⟨by simp only; omega, by simp only; omega, fun f hf => by have := b3 f (List.mem_cons_of_mem _ hf); omega⟩⟩
 | bfun =>
  cases ho
  simp only at b2
  exact .inr ⟨rfl, ⟨by simp only [List.length_cons, List.length_nil, mxL]; omega, by simp only; omega, fun f hf => by have := b3 f (List.mem_cons_of_mem _ hf); omega⟩⟩
 | bclo =>
  cases ho
  have h0 := b3 _ (List.mem_cons_self ..)
  simp only [Vl.mx] at b2 h0
  exact .inr ⟨rfl, ⟨by simp only [List.length_cons, mxL]; omega, by simp only; omega, fun f hf => by have := b3 f (List.mem_cons_of_mem _ hf); omega⟩⟩
 | _ => cases ho
inductive Dos (p : Prog) : RS → Int → RS → Prop
 | event {n w ty a l env v st c} (hl : l.length ≤ 1000) : Dos p ⟨.mk 7 n w ty (a :: l), env, v, false, st⟩ c ⟨a, env, rZ, false, st⟩
 | pick {n w ty l env v st c} : Dos p ⟨.mk 8 n w ty l, env, v, false, st⟩ c ⟨.mk 8 n w ty l, env, .mk 0 c eZ [], true, st⟩
 | fn {e env v ge fe ze hf st c} {i : Nat} {d : Def} (hs : st.length ≤ 4294967296) (hd : p.defs[i]? = some d) (hds : p.defs.length ≤ 1000) : Dos p ⟨e, env, v, true, st ++ [⟨1, ge, fe, .mk 1 (i : Int) ze hf⟩]⟩ c ⟨d.body, [v], rZ, false, st⟩
 | clo {e env v ge fe hn zk zn zv zt b zl hf st c} (hs : st.length ≤ 4294967296) (hl : zl.length ≤ 1000) (hfl : hf.length ≤ 100000) : Dos p ⟨e, env, v, true, st ++ [⟨1, ge, fe, .mk 2 hn (.mk zk zn zv zt (b :: zl)) hf⟩]⟩ c ⟨b, v :: hf, rZ, false, st⟩
 | lt {e env v n w ty a b l fe f st c} (hs : st.length ≤ 4294967296) (hl : l.length ≤ 1000) (hfl : fe.length ≤ 100000) : Dos p ⟨e, env, v, true, st ++ [⟨2, .mk 5 n w ty (a :: b :: l), fe, f⟩]⟩ c ⟨b, v :: fe, rZ, false, st⟩
 | cs {e env vk ve xe gk gn gv gt gl fe f b st c} {m : Nat} (hs : st.length ≤ 4294967296) (hx : gl[1 + m]? = some b) (hl : gl.length ≤ 1000) : Dos p ⟨e, env, .mk vk (m : Int) xe ve, true, st ++ [⟨3, .mk gk gn gv gt gl, fe, f⟩]⟩ c ⟨b, fe, rZ, false, st⟩
theorem dos_ {p : Prog} {m m1 m2 : RS} {c : Int} (h : Dos p m c m1) (r : RR m1 m2) : SC 46 [.agg (RS.enc p m), I c] [] (.agg (RS.enc p m2)) [] := by
 have hr := rest_ p r
 clear r
 obtain ⟨es, ds, mk, mn, mv, ⟨mtk, mtv, mtl⟩, ml⟩ := p
 obtain ⟨⟨qk, qn, qv, ⟨qtk, qtv, qtl⟩, ql⟩, env2, ⟨sk, sn, ⟨rk, rn, rv, ⟨rtk, rtv, rtl⟩, rl⟩, se⟩, b2, st2⟩ := m2
 cases h with
 | @event n w ty a l env v st hl =>
  obtain ⟨tk, tv, tl⟩ := ty; obtain ⟨vk, vn, ⟨xk, xn, xv, ⟨xtk, xtv, xtl⟩, xl⟩, ve⟩ := v; obtain ⟨ak, an, av, ⟨atk, atv, atl⟩, al⟩ := a
  apply do_event <;> assumption
 | @pick n w ty l env v st =>
  obtain ⟨tk, tv, tl⟩ := ty; obtain ⟨vk, vn, ⟨xk, xn, xv, ⟨xtk, xtv, xtl⟩, xl⟩, ve⟩ := v
  apply do_pick <;> assumption
 | @fn e env v ge fe ze hf st _ i d hs hd hds =>
  obtain ⟨ek, en, ev, ⟨etk, etv, etl⟩, el⟩ := e; obtain ⟨vk, vn, ⟨xk, xn, xv, ⟨xtk, xtv, xtl⟩, xl⟩, ve⟩ := v
  obtain ⟨gk, gn, gv, ⟨gtk, gtv, gtl⟩, gl⟩ := ge; obtain ⟨zk, zn, zv, ⟨ztk, ztv, ztl⟩, zl⟩ := ze
  obtain ⟨nm, ⟨pk, pv, pl⟩, ⟨ok, ov, ol⟩, ⟨bk, bn, bv, ⟨btk, btv, btl⟩, bl⟩⟩ := d
  exact do_fun es ds mk mn mv mtk mtv mtl ml env vk vn xk xn xv xtk xtv xtl xl ve st qk qn qv qtk qtv qtl ql env2 sk sn rk rn rv rtk rtv rtl rl se b2 st2 ek en ev etk etv etl el gk gn gv gtk gtv gtl gl fe i zk zn zv ztk ztv ztl zl hf bk bn bv btk btv btl bl nm pk pv pl ok ov ol c hs hd hds hr
 | @clo e env v ge fe hn zk zn zv zt b zl hf st _ hs hl hfl =>
  obtain ⟨ek, en, ev, ⟨etk, etv, etl⟩, el⟩ := e; obtain ⟨vk, vn, ⟨xk, xn, xv, ⟨xtk, xtv, xtl⟩, xl⟩, ve⟩ := v
  obtain ⟨gk, gn, gv, ⟨gtk, gtv, gtl⟩, gl⟩ := ge; obtain ⟨ztk, ztv, ztl⟩ := zt; obtain ⟨bk, bn, bv, ⟨btk, btv, btl⟩, bl⟩ := b
  apply do_clo <;> assumption
 | @lt e env v n w ty a b l fe f st _ hs hl hfl =>
  obtain ⟨ek, en, ev, ⟨etk, etv, etl⟩, el⟩ := e; obtain ⟨vk, vn, ⟨xk, xn, xv, ⟨xtk, xtv, xtl⟩, xl⟩, ve⟩ := v
  obtain ⟨tk, tv, tl⟩ := ty; obtain ⟨hk, hn, ⟨zk, zn, zv, ⟨ztk, ztv, ztl⟩, zl⟩, hf⟩ := f; obtain ⟨bk, bn, bv, ⟨btk, btv, btl⟩, bl⟩ := b
  apply do_let <;> assumption
 | @cs e env vk ve xe gk gn gv gt gl fe f b st _ m hs hx hl =>
  obtain ⟨ek, en, ev, ⟨etk, etv, etl⟩, el⟩ := e; obtain ⟨xk, xn, xv, ⟨xtk, xtv, xtl⟩, xl⟩ := xe
  obtain ⟨gtk, gtv, gtl⟩ := gt; obtain ⟨hk, hn, ⟨zk, zn, zv, ⟨ztk, ztv, ztl⟩, zl⟩, hf⟩ := f; obtain ⟨bk, bn, bv, ⟨btk, btv, btl⟩, bl⟩ := b
  apply do_case <;> assumption
structure Cv (s : MS) (m : RS) : Prop where
 st : m.st = convR s.fr
 cd : match s.expr with
  | some x => m.back = false ∧ m.e = x ∧ m.env = convL s.env ∧ m.v = rZ
  | none => m.back = true ∧ m.v = conv s.val
theorem Mv.kind {p : Prog} {fuel : Int} {ch : List Int} {s s1 : MS} {m : RS} (h : Mv p fuel ch s (.go s1)) {T : Ty} (hw : WT p T s) (hc : Cv s m) (hf : s.fr.length ≤ 4294967296) {N : Nat} (hb : EBd N s) (hN : N ≤ 100000) (hds : p.defs.length ≤ 1000) :
  (s1.steps = s.steps ∧ s1.ev = s.ev ∧ s1.used = s.used ∧ ∃ m1, Rst m m1 ∧ Cv s1 m1) ∨
  (Stk m ∧ s1.steps = s.steps + 1 ∧ s.steps < fuel ∧ ∃ m1 c, Dos p m c m1 ∧ Cv s1 m1 ∧
   ((∃ x, s.expr = none ∧ c = 0 ∧ s1.ev = s.ev ∧ s1.used = s.used ∧ s.fr = x) ∨
    (∃ n w ty l, s.expr = some (.mk 7 n w ty l) ∧ c = 0 ∧ s1.ev = s.ev ++ [n] ∧ s.ev.length < 4096 ∧ s1.used = s.used) ∨
    (∃ n w ty l, s.expr = some (.mk 8 n w ty l) ∧ ch[s.used]? = some c ∧ 0 ≤ c ∧ c < w ∧ s1.ev = s.ev ∧ s1.used = s.used + 1))) := by
 obtain ⟨me, menv, mv, mb, mst⟩ := m
 obtain ⟨c1, c2⟩ := hc
 simp only at c1
 subst c1
 obtain ⟨b1, b2, b3⟩ := hb
 generalize ho : Out.go s1 = o at h
 cases h with
 | const => cases ho; obtain ⟨rfl, rfl, rfl, rfl⟩ := c2; exact .inl ⟨rfl, rfl, rfl, _, .const, rfl, rfl, rfl⟩
 | var h hn =>
  cases ho; obtain ⟨rfl, rfl, rfl, rfl⟩ := c2
  exact .inl ⟨rfl, rfl, rfl, _, .var (by rw [convL_get, h]; rfl) hn, rfl, rfl, rfl⟩
 | @fn st ev fr n v ty l env val us h0 h1 =>
  cases ho; obtain ⟨rfl, rfl, rfl, rfl⟩ := c2
  refine .inl ⟨rfl, rfl, rfl, _, .fn, rfl, rfl, ?_⟩
  simp only [conv]
  rw [if_neg (by omega), show n + 1 - 1 = n by omega]
 | lam => cases ho; obtain ⟨rfl, rfl, rfl, rfl⟩ := c2; exact .inl ⟨rfl, rfl, rfl, _, .lam, rfl, rfl, rfl⟩
 | app hl =>
  cases ho; obtain ⟨rfl, rfl, rfl, rfl⟩ := c2
  exact .inl ⟨rfl, rfl, rfl, _, .app (by simpa using hf) hl, by rw [convR_cons]; rfl, rfl, rfl, rfl, rfl⟩
 | lt hl =>
  cases ho; obtain ⟨rfl, rfl, rfl, rfl⟩ := c2
  exact .inl ⟨rfl, rfl, rfl, _, .lt (by simpa using hf) hl, by rw [convR_cons]; rfl, rfl, rfl, rfl, rfl⟩
 | cs hl =>
  cases ho; obtain ⟨rfl, rfl, rfl, rfl⟩ := c2
  exact .inl ⟨rfl, rfl, rfl, _, .cs (by simpa using hf) hl, by rw [convR_cons]; rfl, rfl, rfl, rfl, rfl⟩
 | arg =>
  cases ho; obtain ⟨rfl, rfl⟩ := c2
  simp only [List.length_cons] at hf
  rw [convR_cons]
  exact .inl ⟨rfl, rfl, rfl, _, .arg (by simp; omega) (by simp), by rw [convR_cons]; rfl, rfl, rfl, rfl, rfl⟩
 | fine hfu hcc h0 h1 =>
  cases ho; obtain ⟨rfl, rfl, rfl, rfl⟩ := c2
  exact .inr ⟨.pick, rfl, hfu, _, _, .pick, ⟨rfl, rfl, rfl⟩, .inr (.inr ⟨_, _, _, _, rfl, hcc, h0, h1, rfl, rfl⟩)⟩
 | event hfu he hl =>
  cases ho; obtain ⟨rfl, rfl, rfl, rfl⟩ := c2
  exact .inr ⟨.event, rfl, hfu, _, 0, .event hl, ⟨rfl, rfl, rfl, rfl, rfl⟩, .inr (.inl ⟨_, _, _, _, rfl, rfl, rfl, he, rfl⟩)⟩
 | blet hfu =>
  cases ho; obtain ⟨rfl, rfl⟩ := c2
  simp only [List.length_cons] at hf
  have h0 := b3 _ (List.mem_cons_self ..)
  simp only at h0
  rw [convR_cons]
  exact .inr ⟨.wait (by simp; omega) (by simp [convF]), rfl, hfu, _, 0, .lt (by simp; omega) (by simp) (by simp; omega), ⟨rfl, rfl, rfl, rfl, rfl⟩, .inl ⟨_, rfl, rfl, rfl, rfl, rfl⟩⟩
 | @bcase st ev fr n v ty l env fn env' w wf wl we us b hfu hl hw' =>
  cases ho; obtain ⟨rfl, rfl⟩ := c2
  simp only [List.length_cons] at hf
  obtain ⟨t, hv, hst⟩ := hw
  simp only at hv hst
  have hval : conv (.mk (w : Int) wf wl we) = .mk 0 (w : Int) eZ [] := by
   cases hst with
   | @cs _ _ _ _ f l' _ _ _ hl' hx hr =>
    generalize hk : tyF (l'.length : Int) = u at hv
    cases hv with
    | num => rfl
    | fn => simp [tyF] at hk
    | clo => simp [tyF] at hk
  rw [convR_cons, hval]
  exact .inr ⟨.wait (by simp; omega) (by simp [convF]), rfl, hfu, _, 0, .cs (by simp; omega) hw' hl, ⟨rfl, rfl, rfl, rfl, rfl⟩, .inl ⟨_, rfl, rfl, rfl, rfl, rfl⟩⟩
 | @bfun st ev fr i gl ge env' val us d hfu hd =>
  cases ho; obtain ⟨rfl, rfl⟩ := c2
  simp only [List.length_cons] at hf
  obtain ⟨t, hv, hst⟩ := hw
  simp only at hv hst
  have hfn : conv (.mk 0 ((i : Int) + 1) gl ge) = .mk 1 (i : Int) eZ [] := by
   cases hst with
   | call ha hf' hr =>
    generalize hq : Vl.mk 0 ((i : Int) + 1) gl ge = q at hf'
    cases hf' with
    | @fn j d' h =>
     simp only [Vl.mk.injEq] at hq
     obtain ⟨_, hj, rfl, rfl⟩ := hq
     obtain rfl : i = j := by omega
     simp only [conv]
     rw [if_neg (by omega), show (i : Int) + 1 - 1 = i by omega]
    | clo => simp only [Vl.mk.injEq] at hq; omega
  rw [convR_cons]
  have hcf : convF ⟨1, none, [], .mk 0 ((i : Int) + 1) gl ge⟩ = ⟨1, eZ, [], .mk 1 (i : Int) eZ []⟩ := by simp only [convF, if_true, hfn]
  rw [hcf]
  exact .inr ⟨.wait (by simp; omega) (by simp), rfl, hfu, _, 0, .fn (by simp; omega) hd hds, ⟨rfl, rfl, rfl, rfl, rfl⟩, .inl ⟨_, rfl, rfl, rfl, rfl, rfl⟩⟩
 | bclo hfu =>
  cases ho; obtain ⟨rfl, rfl⟩ := c2
  simp only [List.length_cons] at hf
  have h0 := b3 _ (List.mem_cons_self ..)
  simp only [Vl.mx] at h0
  rw [convR_cons]
  exact .inr ⟨.wait (by simp; omega) (by simp [convF]), rfl, hfu, _, 0, .clo (by simp; omega) (by simp) (by simp; omega), ⟨rfl, rfl, rfl, rfl, rfl⟩, .inl ⟨_, rfl, rfl, rfl, rfl, rfl⟩⟩
 | _ => cases ho
end Go.Ae
namespace Go.Ae
open Go.Proofs
abbrev GoS (q : Prog) (m : RS) (ch : List Int) (fuel steps used : Int) (Ev : List (List AV)) : ASt := ⟨lookT [(1, .sl 1 (ints ch) false), (2, I fuel), (6, .lp 0 0), (9, .lp 1 0), (10, .lp 2 0), (11, I steps)], [.cells [.nil, I 0, I 0, I 0] [], .cells (RS.enc q m) [], .cells [.la 3 1, I used, I 0, I 0] [], .arr 1 1 Ev]⟩
abbrev GoF (w used en value : Int) (Ev : List (List AV)) : ASt := ⟨lookT [(6, .lp 0 0), (7, I w), (8, B true)], [.cells [.la 1 1, I used, I en, I value] [], .arr 1 1 Ev]⟩
abbrev GoL (s : ASt) (x : Exit) (s' : ASt) : Prop := Lp Tryz.prog 87 0 (loopN Tryz.f21 0) s x s'
abbrev NextC (q : Prog) (m : RS) (k n : Int) : Prop := SC 45 [.agg (RS.enc q m)] [] (.tup [I k, I n]) []
abbrev DoC (q : Prog) (m : RS) (c : Int) (m2 : RS) : Prop := SC 46 [.agg (RS.enc q m), I c] [] (.agg (RS.enc q m2)) []
section
variable (q : Prog) (m : RS) (ch : List Int) (fuel steps : Int) (Ev : List (List AV)) (n : Int)
theorem gdone (used : Int) (hn : NextC q m 3 n) : GoL (GoS q m ch fuel steps used Ev) .ret (GoF 0 used 0 n Ev) := by
 obtain ⟨es, ds, mk, mn, mv, ⟨mtk, mtv, mtl⟩, ml⟩ := q
 obtain ⟨⟨ek, en, ev, ⟨etk, etv, etl⟩, el⟩, env, ⟨vk, vn, ⟨xk, xn, xv, ⟨xtk, xtv, xtl⟩, xl⟩, ve⟩, b, st⟩ := m
 apply go_done <;> assumption
theorem gmore (used kd : Int) (hk : kd ≠ 3) (hf : fuel ≤ steps) (hn : NextC q m kd n) : GoL (GoS q m ch fuel steps used Ev) .ret (GoF 0 used 1 0 Ev) := by
 obtain ⟨es, ds, mk, mn, mv, ⟨mtk, mtv, mtl⟩, ml⟩ := q
 obtain ⟨⟨ek, en, ev, ⟨etk, etv, etl⟩, el⟩, env, ⟨vk, vn, ⟨xk, xn, xv, ⟨xtk, xtv, xtl⟩, xl⟩, ve⟩, b, st⟩ := m
 apply go_more <;> assumption
theorem gfull (used : Int) (hf : steps < fuel) (hE : 4096 ≤ Ev.length) (hE2 : Ev.length ≤ 100000) (hn : NextC q m 1 n) : GoL (GoS q m ch fuel steps used Ev) .ret (GoF 0 used 1 0 Ev) := by
 obtain ⟨es, ds, mk, mn, mv, ⟨mtk, mtv, mtl⟩, ml⟩ := q
 obtain ⟨⟨ek, en, ev, ⟨etk, etv, etl⟩, el⟩, env, ⟨vk, vn, ⟨xk, xn, xv, ⟨xtk, xtv, xtl⟩, xl⟩, ve⟩, b, st⟩ := m
 apply go_full <;> assumption
theorem gwant (used : Int) (hf : steps < fuel) (hu : (ch.length : Int) ≤ used) (hl : ch.length ≤ 4294967296) (hn : NextC q m 2 n) : GoL (GoS q m ch fuel steps used Ev) .ret (GoF n used 2 0 Ev) := by
 obtain ⟨es, ds, mk, mn, mv, ⟨mtk, mtv, mtl⟩, ml⟩ := q
 obtain ⟨⟨ek, en, ev, ⟨etk, etv, etl⟩, el⟩, env, ⟨vk, vn, ⟨xk, xn, xv, ⟨xtk, xtv, xtl⟩, xl⟩, ve⟩, b, st⟩ := m
 apply go_want <;> assumption
set_option maxRecDepth 20000 in
theorem gnext (m2 : RS) (x : Exit) (s' : ASt) (used : Int) (hf : steps < fuel) (hs : 0 ≤ steps ∧ steps ≤ 10000000) (hn : NextC q m 0 0) (hd : DoC q m 0 m2) (k : GoL (GoS q m2 ch fuel (steps + 1) used Ev) x s') : GoL (GoS q m ch fuel steps used Ev) x s' := by
 obtain ⟨es, ds, mk, mn, mv, ⟨mtk, mtv, mtl⟩, ml⟩ := q
 obtain ⟨⟨ek, en, ev, ⟨etk, etv, etl⟩, el⟩, env, ⟨vk, vn, ⟨xk, xn, xv, ⟨xtk, xtv, xtl⟩, xl⟩, ve⟩, b, st⟩ := m
 obtain ⟨⟨qk, qn, qv, ⟨qtk, qtv, qtl⟩, ql⟩, env2, ⟨sk, sn, ⟨rk, rn, rv, ⟨rtk, rtv, rtl⟩, rl⟩, se⟩, b2, st2⟩ := m2
 apply go_next <;> assumption
set_option maxRecDepth 20000 in
theorem gevent (m2 : RS) (x : Exit) (s' : ASt) (used : Int) (hf : steps < fuel) (hs : 0 ≤ steps ∧ steps ≤ 10000000) (hE : Ev.length < 4096) (hn : NextC q m 1 n) (hd : DoC q m 0 m2) (k : GoL (GoS q m2 ch fuel (steps + 1) used (Ev ++ [[I n]])) x s') : GoL (GoS q m ch fuel steps used Ev) x s' := by
 obtain ⟨es, ds, mk, mn, mv, ⟨mtk, mtv, mtl⟩, ml⟩ := q
 obtain ⟨⟨ek, en, ev, ⟨etk, etv, etl⟩, el⟩, env, ⟨vk, vn, ⟨xk, xn, xv, ⟨xtk, xtv, xtl⟩, xl⟩, ve⟩, b, st⟩ := m
 obtain ⟨⟨qk, qn, qv, ⟨qtk, qtv, qtl⟩, ql⟩, env2, ⟨sk, sn, ⟨rk, rn, rv, ⟨rtk, rtv, rtl⟩, rl⟩, se⟩, b2, st2⟩ := m2
 apply go_event <;> assumption
set_option maxRecDepth 20000 in
theorem gpick (m2 : RS) (x : Exit) (s' : ASt) (used : Nat) (c : Int) (hf : steps < fuel) (hs : 0 ≤ steps ∧ steps ≤ 10000000) (hx : (ints ch)[used]? = some [I c]) (hu : used < ch.length) (hl : ch.length ≤ 4294967296) (h0 : 0 ≤ c) (h1 : c < n)
  (hn : NextC q m 2 n) (hd : DoC q m c m2) (k : GoL (GoS q m2 ch fuel (steps + 1) ((used : Int) + 1) Ev) x s') : GoL (GoS q m ch fuel steps used Ev) x s' := by
 obtain ⟨es, ds, mk, mn, mv, ⟨mtk, mtv, mtl⟩, ml⟩ := q
 obtain ⟨⟨ek, en, ev, ⟨etk, etv, etl⟩, el⟩, env, ⟨vk, vn, ⟨xk, xn, xv, ⟨xtk, xtv, xtl⟩, xl⟩, ve⟩, b, st⟩ := m
 obtain ⟨⟨qk, qn, qv, ⟨qtk, qtv, qtl⟩, ql⟩, env2, ⟨sk, sn, ⟨rk, rn, rv, ⟨rtk, rtv, rtl⟩, rl⟩, se⟩, b2, st2⟩ := m2
 apply go_pick <;> assumption
end
section
variable (q : Prog)
theorem nx_done (e : Expr) (env : List RV) (v : RV) : NextC q ⟨e, env, v, true, []⟩ 3 (match v with | .mk _ n _ _ => n) := by
 obtain ⟨es, ds, mk, mn, mv, ⟨mtk, mtv, mtl⟩, ml⟩ := q
 obtain ⟨ek, en, ev, ⟨etk, etv, etl⟩, el⟩ := e
 obtain ⟨vk, vn, ⟨xk, xn, xv, ⟨xtk, xtv, xtl⟩, xl⟩, ve⟩ := v
 apply next_done
theorem nx_step (e : Expr) (env : List RV) (v : RV) (st : List RF) (f : RF) (hs : st.length ≤ 4294967296) : NextC q ⟨e, env, v, true, st ++ [f]⟩ 0 0 := by
 obtain ⟨es, ds, mk, mn, mv, ⟨mtk, mtv, mtl⟩, ml⟩ := q
 obtain ⟨ek, en, ev, ⟨etk, etv, etl⟩, el⟩ := e
 obtain ⟨vk, vn, ⟨xk, xn, xv, ⟨xtk, xtv, xtl⟩, xl⟩, ve⟩ := v
 apply next_step; exact hs
theorem nx_event (n w : Int) (ty : Ty) (l : List Expr) (env : List RV) (v : RV) (st : List RF) : NextC q ⟨.mk 7 n w ty l, env, v, false, st⟩ 1 n := by
 obtain ⟨es, ds, mk, mn, mv, ⟨mtk, mtv, mtl⟩, ml⟩ := q
 obtain ⟨tk, tv, tl⟩ := ty
 obtain ⟨vk, vn, ⟨xk, xn, xv, ⟨xtk, xtv, xtl⟩, xl⟩, ve⟩ := v
 apply next_event
theorem nx_pick (n w : Int) (ty : Ty) (l : List Expr) (env : List RV) (v : RV) (st : List RF) : NextC q ⟨.mk 8 n w ty l, env, v, false, st⟩ 2 w := by
 obtain ⟨es, ds, mk, mn, mv, ⟨mtk, mtv, mtl⟩, ml⟩ := q
 obtain ⟨tk, tv, tl⟩ := ty
 obtain ⟨vk, vn, ⟨xk, xn, xv, ⟨xtk, xtv, xtl⟩, xl⟩, ve⟩ := v
 apply next_pick
end
theorem Inv.fr {p : Prog} {T : Ty} {fuel : Int} {ch : List Int} {s : MS} (hf : fuel ≤ 1048576) (h : Inv p T fuel ch s) : s.fr.length ≤ 4294967295 := by
 have h1 := pends_len s.fr
 have h2 := h.psi
 have h3 := h.s0
 have h4 := h.s1
 unfold MS.psi at h2
 omega
theorem go_run {q : Prog} (hp : PT q) {fuel : Int} (hfu : fuel ≤ 10000) {ch : List Int} (hch : ch.length ≤ 4294967296) {k : Int} {s s' : MS} {en v w : Int} {b : Bool} (h : MRun q fuel ch s s' en v w b) (hb : b = false) (hi : Inv q (tyF k) fuel ch s) :
  ∀ {N : Nat}, EBd N s → (N : Int) ≤ s.steps → ∀ {m : RS}, Cv s m → ∃ m', RR m m' ∧ GoL (GoS q m' ch fuel s.steps s.used (ints s.ev)) .ret (GoF w s'.used en v (ints s'.ev)) := by
 induction h with
 | @stop s s' en v w b h =>
  intro N hbd hN m hc
  subst hb
  have hfr := hi.fr (by omega)
  have hev := hi.ev
  have hw := hi.wt
  obtain ⟨me, menv, mv, mb, mst⟩ := m
  obtain ⟨c1, c2⟩ := hc
  simp only at c1
  subst c1
  generalize ho : Out.stop s' en v w false = o at h
  cases h with
  | more hk hf =>
   cases ho; obtain ⟨rfl, rfl, rfl, rfl⟩ := c2
   rcases hk with rfl | rfl
   ·exact ⟨_, .stop .event, gmore _ _ _ _ _ _ _ _ 1 (by omega) hf (nx_event ..)⟩
   ·exact ⟨_, .stop .pick, gmore _ _ _ _ _ _ _ _ 2 (by omega) hf (nx_pick ..)⟩
  | want hf hu =>
   cases ho; obtain ⟨rfl, rfl, rfl, rfl⟩ := c2
   exact ⟨_, .stop .pick, gwant _ _ _ _ _ _ _ _ hf (by simp only; omega) hch (nx_pick ..)⟩
  | full hf he =>
   cases ho; obtain ⟨rfl, rfl, rfl, rfl⟩ := c2
   simp only at hev
   exact ⟨_, .stop .event, gfull _ _ _ _ _ _ _ _ hf (by simpa using he) (by simp; omega) (nx_event ..)⟩
  | @done st ev env val us =>
   cases ho; obtain ⟨rfl, rfl⟩ := c2
   refine ⟨_, .stop .done, ?_⟩
   have := gdone q ⟨me, menv, conv val, true, []⟩ ch fuel st (ints ev) _ us (nx_done ..)
   obtain ⟨t, hv, hst⟩ := hw
   simp only at hv hst
   generalize hT : tyF k = T at hst
   cases hst
   subst hT
   generalize hT : tyF k = T at hv
   cases hv with
   | num => exact this
   | fn => simp [tyF] at hT
   | clo => simp [tyF] at hT
  | @bmore st ev fr k' e env fn env' val us hk hf =>
   cases ho; obtain ⟨rfl, rfl⟩ := c2
   simp only [List.length_cons] at hfr
   rw [convR_cons]
   refine ⟨_, .stop (.wait (by simp; omega) ?_), gmore _ _ _ _ _ _ _ _ 0 (by omega) hf (nx_step _ _ _ _ _ _ (by simp; omega))⟩
   simp only [convF]
   split
   ·simp
   ·exact hk
  | _ => cases ho
 | @more s s1 s' en v w b h r ih =>
  intro N hbd hN m hc
  have hi1 := hi.go hp h
  have hfr := hi.fr (by omega)
  have s0 := hi.s0
  have s1b := hi.s1
  rcases h.kind hi.wt hc (by omega) hbd (by omega) hp.len with ⟨e1, e2, e3, m1, hr, hc1⟩ | ⟨hst, e1, hlt, m1, c, hd, hc1, hx⟩
  ·have hb1 := EBd.go h hbd
   rcases hb1 with ⟨_, hb1⟩ | ⟨e, _⟩
   ·obtain ⟨m', k1, k2⟩ := ih hb hi1 hb1 (by omega) hc1
    rw [e1, e2, e3] at k2
    exact ⟨m', .more hr k1, k2⟩
   ·omega
  ·have hb1 := EBd.go h hbd
   rcases hb1 with ⟨e, _⟩ | ⟨_, hb1⟩
   ·omega
   obtain ⟨m', k1, k2⟩ := ih hb hi1 hb1 (by simp only [Int.natCast_add, Int.natCast_one]; omega) hc1
   rw [e1] at k2
   have hdo := dos_ hd k1
   obtain ⟨me, menv, mv, mb, mst⟩ := m
   obtain ⟨c1, c2⟩ := hc
   refine ⟨_, .stop hst, ?_⟩
   rcases hx with ⟨_, x1, rfl, x2, x3, _⟩ | ⟨n, w', ty, l, x1, rfl, x2, x3, x4⟩ | ⟨n, w', ty, l, x1, x2, x3, x4, x5, x6⟩
   ·rw [x1] at c2
    obtain ⟨rfl, rfl⟩ := c2
    rw [x2, x3] at k2
    cases hst with
    | done =>
     exfalso
     generalize hq : ([] : List RF) = z at hd
     generalize conv s.val = cv at hd
     cases hd <;> simp at hq
    | wait hs hk => exact gnext _ _ _ _ _ _ m' _ _ _ hlt ⟨s0, by omega⟩ (nx_step _ _ _ _ _ _ hs) hdo k2
   ·rw [x1] at c2
    obtain ⟨rfl, rfl, rfl, rfl⟩ := c2
    rw [x2, x4, ints_append] at k2
    exact gevent _ _ _ _ _ _ n m' _ _ _ hlt ⟨s0, by omega⟩ (by simpa using x3) (nx_event ..) hdo k2
   ·rw [x1] at c2
    obtain ⟨rfl, rfl, rfl, rfl⟩ := c2
    rw [x5, x6] at k2
    exact gpick _ _ _ _ _ _ w' m' _ _ _ c hlt ⟨s0, by omega⟩ (by rw [ints_get, x2]; rfl) (List.getElem?_eq_some_iff.1 x2).1 hch x3 x4 (nx_pick ..) hdo k2
end Go.Ae
namespace Go.Ae
open Go.Proofs
abbrev startA (q : Prog) : MS := ⟨0, [], [], some q.main, [], vZ, 0⟩
theorem Valid.invA {p : Prog} (hv : Valid p) {fuel : Int} (hf : 0 ≤ fuel) (ch : List Int) : ∃ k : Int, tImp p p.main [] = (tyF k, true) ∧ Inv p (tyF k) fuel ch (startA p) := by
 obtain ⟨k, h1, h2, h3⟩ := hv.mty
 have hn : p.main.nodes ≤ 400 := by have := szC_le (by omega) hv.msz; omega
 refine ⟨k, h3, ⟨⟨_, ⟨[], .nil, h3, hn, hv.mok⟩, .nil⟩, by simp, hf, ?_, by simp, by simp, by simp⟩⟩
 simp only [MS.psi, pends, nodesO]
 simp
 omega
theorem Valid.runA {p : Prog} (hv : Valid p) {fuel : Int} (hf : 0 ≤ fuel) (ch : List Int) : ∃ s' en value width wrong, MRun p fuel ch (startA p) s' en value width wrong := by
 obtain ⟨k, _, hi⟩ := hv.invA hf ch
 exact run_ex hv.pt _ hi
theorem rdo_run {q : Prog} (hv : Valid q) (hok : q.ok) {fuel : Int} (h0 : 0 ≤ fuel) (h1 : fuel ≤ 10000) {ch : List Int} (hc : ch.length ≤ 4096) {s' : MS} {en v w : Int} (h : MRun q fuel ch (startA q) s' en v w false) :
  SC 8 [.agg q.enc, .sl 1 (ints ch) false, I fuel] [] (.tup [.agg [.sl 1 (ints s'.ev) false, I s'.used, I en, I v], I 0]) [] := by
 obtain ⟨k, _, hi⟩ := hv.invA h0 ch
 obtain ⟨m', r, lp⟩ := go_run hv.pt h1 (by omega) h rfl hi (N := 0) ⟨by simp [mxL], by simp [vZ, Vl.mx, mxL], by simp⟩ (by simp) (m := ⟨q.main, [], rZ, false, []⟩) ⟨rfl, rfl, rfl, rfl, rfl⟩
 have hr := rest_ q r
 have hI := is_ hv hok
 obtain ⟨es, ds, mk, mn, mv, ⟨mtk, mtv, mtl⟩, ml⟩ := q
 obtain ⟨⟨qk, qn, qv, ⟨qtk, qtv, qtl⟩, ql⟩, env2, ⟨sk, sn, ⟨rk, rn, rv, ⟨rtk, rtv, rtl⟩, rl⟩, se⟩, b2, st2⟩ := m'
 have hb := begin_ es ds mk mn mv mtk mtv mtl ml qk qn qv qtk qtv qtl ql env2 sk sn rk rn rv rtk rtv rtl rl se b2 st2 hr
 have hg := go_ es ds mk mn mv mtk mtv mtl ml qk qn qv qtk qtv qtl ql env2 sk sn rk rn rv rtk rtv rtl rl se b2 st2 ch fuel s'.ev s'.used en v w hb lp
 exact rdo_ es ds mk mn mv mtk mtv mtl ml ch fuel s'.ev s'.used en v w hI h0 (by omega) hc hg
end Go.Ae

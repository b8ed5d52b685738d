/- Part 15 of the proof: AeRRNM3, AeRRNM4, AeRRNM5, AeRRNM6, AeRRNM7, AeRRNM9. -/
import Derived.Test.YtcmlbbgbfgikaaaGreatT14
set_option linter.unusedSimpArgs false
set_option linter.unusedVariables false
namespace Go.Ae.N
open Go.Proofs
theorem pick_want (cc ci : List Int) (cu : Int) (used : Nat) (width v : Int) (h : used = cc.length) (hl : cc.length ≤ 4294967296) :
  SC 127 [.lp 0 0, I v] [lists cc ci cu used width] (.tup [I 0, I 1]) [lists cc ci cu used v] := by
 exact gF Tryz.func127 [rG, rS [(8, .int (cc.length : Int)), (9, .bit true)], rG, rG] (qN ints cc (qV ((used : Int) == (cc.length : Int)) ob0))
theorem pick_wrong (cc ci : List Int) (cu : Int) (used : Nat) (width v c : Int) (hc : cc[used]? = some c) (hl : cc.length ≤ 4294967296) (hw : c < 0 ∨ v ≤ c) :
  SC 127 [.lp 0 0, I v] [lists cc ci cu used width] (.tup [I 0, I 2]) [lists cc ci cu used width] := by
 have hx : (ints cc)[used]? = some [I c] := by rw [ints_get, hc]; rfl
 have hu : used < cc.length := (List.getElem?_eq_some_iff.1 hc).1
 clear hc
 rcases dsp (c < 0) with ⟨hb1, hb1'⟩ | ⟨hb1, hb1'⟩
 ·skip
  exact gF Tryz.func127 [rG, rS [(8, .int (cc.length : Int)), (9, .bit false)], rS [(8, oW hx)], rS [(1, .bit true)], rG] (qN ints cc (qU ((used : Int) == (cc.length : Int)) (qI used (ob1 hx (qT (c < 0) ob0)))))
 ·skip
  exact gF Tryz.func127 [rG, rS [(8, .int (cc.length : Int)), (9, .bit false)], rS [(8, oW hx)], rS [(1, .bit false), (5, .bit true)], rG] (qN ints cc (qU ((used : Int) == (cc.length : Int)) (qI used (ob1 hx (qF (c < 0) (qT (v ≤ c) ob0))))))
theorem pick_fine (cc ci : List Int) (cu : Int) (used : Nat) (width v c : Int) (hc : cc[used]? = some c) (hl : cc.length ≤ 4294967296) (h0 : 0 ≤ c) (h1 : c < v) :
  SC 127 [.lp 0 0, I v] [lists cc ci cu used width] (.tup [I c, I 0]) [lists cc ci cu (used + 1) width] := by
 have hx : (ints cc)[used]? = some [I c] := by rw [ints_get, hc]; rfl
 have hu : used < cc.length := (List.getElem?_eq_some_iff.1 hc).1
 clear hc
 exact gF Tryz.func127 [rG, rS [(8, .int (cc.length : Int)), (9, .bit false)], rS [(8, oW hx)], rS [(1, .bit false), (5, .bit false)], rS [(4, .int ((used : Int) + 1))], rG] (qN ints cc (qU ((used : Int) == (cc.length : Int)) (qI used (ob1 hx (qF (c < 0) (qF (v ≤ c) (qw ((used : Int) + 1) ob0)))))))
theorem any_want (c is : List Int) (ui : Nat) (used width : Int) (h : ui = is.length) (hl : is.length ≤ 4294967296) :
  SC 125 [.lp 0 0] [lists c is (ui) used width] (.tup [I 0, I 1]) [lists c is (ui) used width] := by
 exact gF Tryz.func125 [rG, rS [(8, .int (is.length : Int)), (9, .bit true)], rG] (qN ints is (qV ((ui : Int) == (is.length : Int)) ob0))
theorem any_wrong (c is : List Int) (ui : Nat) (used width n : Int) (hc : is[ui]? = some n) (hl : is.length ≤ 4294967296) (hw : n < -1099511627776 ∨ 1099511627776 < n) :
  SC 125 [.lp 0 0] [lists c is (ui) used width] (.tup [I 0, I 2]) [lists c is (ui) used width] := by
 have hx : (ints is)[ui]? = some [I n] := by rw [ints_get, hc]; rfl
 have hu : ui < is.length := (List.getElem?_eq_some_iff.1 hc).1
 clear hc
 rcases dsp (n < -1099511627776) with ⟨hb1, hb1'⟩ | ⟨hb1, hb1'⟩
 ·skip
  exact gF Tryz.func125 [rG, rS [(8, .int (is.length : Int)), (9, .bit false)], rS [(8, oW hx)], rS [(1, .bit true)], rG] (qN ints is (qU ((ui : Int) == (is.length : Int)) (qI ui (ob1 hx (qT (n < -1099511627776) ob0)))))
 ·skip
  exact gF Tryz.func125 [rG, rS [(8, .int (is.length : Int)), (9, .bit false)], rS [(8, oW hx)], rS [(1, .bit false), (4, .bit true)], rG] (qN ints is (qU ((ui : Int) == (is.length : Int)) (qI ui (ob1 hx (qF (n < -1099511627776) (qT (1099511627776 < n) ob0))))))
theorem any_fine (c is : List Int) (ui : Nat) (used width n : Int) (hc : is[ui]? = some n) (hl : is.length ≤ 4294967296) (h0 : -1099511627776 ≤ n) (h1 : n ≤ 1099511627776) :
  SC 125 [.lp 0 0] [lists c is (ui) used width] (.tup [I n, I 0]) [lists c is ((ui : Int) + 1) used width] := by
 have hx : (ints is)[ui]? = some [I n] := by rw [ints_get, hc]; rfl
 have hu : ui < is.length := (List.getElem?_eq_some_iff.1 hc).1
 clear hc
 exact gF Tryz.func125 [rG, rS [(8, .int (is.length : Int)), (9, .bit false)], rS [(8, oW hx)], rS [(1, .bit false), (4, .bit false)], rS [(4, .int ((ui : Int) + 1))], rG] (qN ints is (qU ((ui : Int) == (is.length : Int)) (qI ui (ob1 hx (qF (n < -1099511627776) (qF (1099511627776 < n) (qw ((ui : Int) + 1) ob0)))))))
theorem lint_ (cc ci : List Int) (cu : Int) (used width n : Int) : SC 121 [.lp 0 0, I n] [lists cc ci cu used width] (I n) [lists cc ci cu used width] := by
 exact gF Tryz.func121 [rG, rG] ob0
theorem ladd_ (cc ci : List Int) (cu : Int) (used width a b : Int) : SC 129 [.lp 0 0, I a, I b] [lists cc ci cu used width] (.tup [I (IntKind.wrap .i64 (a + b)), I 0]) [lists cc ci cu used width] := by
 exact gF Tryz.func129 [rG, rG] ob0
theorem lless_ (cc ci : List Int) (cu : Int) (used width a n : Int) : SC 126 [.lp 0 0, I a, I n] [lists cc ci cu used width] (.tup [I (if a < n then 1 else 0), I 0]) [lists cc ci cu used width] := by
 by_cases h : a < n
 ·rw [if_pos h]
  exact gF Tryz.func126 [rG, rS [(2, .bit true)], rG] (qT (a < n) ob0)
 ·rw [if_neg h]
  exact gF Tryz.func126 [rG, rS [(2, .bit false)], rG] (qF (a < n) ob0)
theorem set_last {α : Type} (R : List α) (x y : α) : (R ++ [x]).set R.length y = R ++ [y] := by simp
theorem take_last {α : Type} (R : List α) (x : α) (n : Int) (h : n = R.length) : (R ++ [x]).take n.toNat = R := by subst h; simp
theorem event_ (cc ci : List Int) (cu : Int) (used width v : Int) :
  SC 120 [.lp 0 0, I v] [lists cc ci cu used width] (.tup []) [lists cc ci cu used width] := by
 exact gF Tryz.func120 [] ob0
section
variable (fuel steps : Int) (es : List ByteArray) (ds : List Def) (mk mn mv mtk mtv : Int) (mtl : List Ty) (ml : List Expr) (E R : List (List AV)) (cc ci : List Int) (cu : Int) (used width : Int)
 (env : List Vl) (wn wf : Int) (wl : Option Expr) (we : List Vl)
theorem goes2 (e : Option Expr) (e2 : Option Expr) (an af : Int) (al : Option Expr) (ae2 env2 : List Vl) :
  SC 69 [.lp 0 0, .ip (lamC e2) 0, .lp 4 0]
   [Mc fuel ⟨es, ds, .mk mk mn mv (.mk mtk mtv mtl) ml⟩ steps 1 1 0 0 false e env (.mk wn wf wl we), .arr 1 1 E, lists cc ci cu used width, .arr 1 7 R, .cells [I an, I af, .ip (lamC al) 0, .ip (envC ae2) 0, .ip (envC env2) 0] []]
   (B true) [.cells ([I fuel, B false, I steps, .la 1 1, I 0, I 0, B false] ++ (Prog.enc ⟨es, ds, .mk mk mn mv (.mk mtk mtv mtl) ml⟩ ++ ([.ifc 96 (.lp 2 0), .la 3 1, .ip (lamC e2) 0, .lp 4 0] ++ (Vl.mk wn wf wl we).enc))) [9, 10, 11, 12, 13, 14, 15],
    .arr 1 1 E, lists cc ci cu used width, .arr 1 7 R, .cells [I an, I af, .ip (lamC al) 0, .ip (envC ae2) 0, .ip (envC env2) 0] []] := by
 exact gF Tryz.func69 [rG, rG, rG] ob0
theorem back_done :
  SC 63 [.lp 0 0]
   [Mc fuel ⟨es, ds, .mk mk mn mv (.mk mtk mtv mtl) ml⟩ steps 1 1 0 0 false none env (.mk wn wf wl we), .arr 1 1 E, lists cc ci cu used width, .arr 1 7 []]
   (B false) [Mc fuel ⟨es, ds, .mk mk mn mv (.mk mtk mtv mtl) ml⟩ steps 1 1 0 wn false none env (.mk wn wf wl we), .arr 1 1 E, lists cc ci cu used width, .arr 1 7 []] := by
 have h := fun R value => stop_ fuel steps es ds mk mn mv mtk mtv mtl ml E R cc ci cu used width none env wn wf wl we 0 value false 0
 exact gF Tryz.func63 [rG, rG, rG, rS [(1, oC (h ([]) (wn)))]] (ob1 (h ([]) (wn)) ob0)
theorem back_arg (xn xv xtk xtv : Int) (xtl : List Ty) (a : Expr) (bk bn bv btk btv : Int) (btl : List Ty) (bl : List Expr) (fenv : List Vl) (gn gf : Int) (gl : Option Expr) (ge : List Vl) (hR : R.length ≤ 4294967296) :
  SC 63 [.lp 0 0]
   [Mc fuel ⟨es, ds, .mk mk mn mv (.mk mtk mtv mtl) ml⟩ steps 1 1 0 0 false none env (.mk wn wf wl we), .arr 1 1 E, lists cc ci cu used width,
    .arr 1 7 (R ++ [(Fr.mk 0 (some (.mk 3 xn xv (.mk xtk xtv xtl) [a, .mk bk bn bv (.mk btk btv btl) bl])) fenv (.mk gn gf gl ge)).enc])]
   (B true) [Mc fuel ⟨es, ds, .mk mk mn mv (.mk mtk mtv mtl) ml⟩ steps 1 1 0 0 false (some (.mk bk bn bv (.mk btk btv btl) bl)) fenv (.mk wn wf wl we), .arr 1 1 E, lists cc ci cu used width,
    .arr 1 7 (R ++ [(Fr.mk 1 none [] (.mk wn wf wl we)).enc])] := by
 have hx := getLast_get R (Fr.mk 0 (some (.mk 3 xn xv (.mk xtk xtv xtl) [a, .mk bk bn bv (.mk btk btv btl) bl])) fenv (.mk gn gf gl ge)).enc
 have h := fun R => goes_ fuel steps es ds mk mn mv mtk mtv mtl ml E R cc ci cu used width none env wn wf wl we 0 0 false (some (.mk bk bn bv (.mk btk btv btl) bl)) fenv
 exact gR Tryz.func63 [rG, rS [(4, .int ((R.length : Int) + 1))], rS [(8, .int ((R.length : Int) + 1)), (9, .int ((R.length : Int) + 1 - 1)), (10, .nat (List.length R)), (11, .row (List.length R) (Fr.enc { kind := 0, expr := some (Expr.mk 3 xn xv (Ty.mk xtk xtv xtl) [a, Expr.mk bk bn bv (Ty.mk btk btv btl) bl]), env := fenv, fn := Vl.mk gn gf gl ge }))], rG, rS [(8, .int ((R.length : Int) + 1)), (9, .int ((R.length : Int) + 1 - 1)), (15, .nat (List.length R)), (16, .row (List.length R) (Fr.enc { kind := 0, expr := some (Expr.mk 3 xn xv (Ty.mk xtk xtv xtl) [a, Expr.mk bk bn bv (Ty.mk btk btv btl) bl]), env := fenv, fn := Vl.mk gn gf gl ge }))], rS [(6, .row 1 (xE bk bn bv btk btv btl bl)), (9, oC (h (List.set (R ++ [[I 0, AV.ip [I 3, I xn, I xv, I xtk, I xtv, AV.sl 3 (Ty.encs xtl) false, AV.sl 7 [Expr.enc a, [I bk, I bn, I bv, I btk, I btv, AV.sl 3 (Ty.encs btl) false, AV.sl 7 (Expr.encs bl) false]] false] 0, AV.ip (envC fenv) 0, I gn, I gf, AV.ip (lamC gl) 0, AV.ip (envC ge) 0]]) (List.length R) [I 1, AV.ip [] 0, AV.ip [] 0, I wn, I wf, AV.ip (lamC wl) 0, AV.ip (envC we) 0])))]] [] [] (B true) ([.cells [I fuel, B false, I steps, .la 1 1, I 0, I 0, B false, .sl 1 (strs es) false, .sl 14 (Def.encs ds) false, I mk, I mn, I mv, I mtk, I mtv, .sl 3 (Ty.encs mtl) false, .sl 7 (Expr.encs ml) false, .ifc 96 (.lp 2 0), .la 3 1, .ip (xE bk bn bv btk btv btl bl) 0, .ip (envC fenv) 0, I wn, I wf, .ip (lamC wl) 0, .ip (envC we) 0] [9, 10, 11, 12, 13, 14, 15], .arr 1 1 E, .cells [.sl 1 (ints cc) false, .sl 1 (ints ci) false, I used, I cu, I width] [], .arr 1 7 (List.set (R ++ [[I 0, .ip [I 3, I xn, I xv, I xtk, I xtv, .sl 3 (Ty.encs xtl) false, .sl 7 [Expr.enc a, (xE bk bn bv btk btv btl bl)] false] 0, .ip (envC fenv) 0, I gn, I gf, .ip (lamC gl) 0, .ip (envC ge) 0]]) (List.length R) [I 1, .ip [] 0, .ip [] 0, I wn, I wf, .ip (lamC wl) 0, .ip (envC we) 0])]) (q ((↑(List.length (R ++ [[I 0, .ip [I 3, I xn, I xv, I xtk, I xtv, .sl 3 (Ty.encs xtl) false, .sl 7 [Expr.enc a, (xE bk bn bv btk btv btl bl)] false] 0, .ip (envC fenv) 0, I gn, I gf, .ip (lamC gl) 0, .ip (envC ge) 0]])) : Int) = (R.length : Int) + 1) (q ((↑(List.length (R ++ [[I 0, .ip [I 3, I xn, I xv, I xtk, I xtv, .sl 3 (Ty.encs xtl) false, .sl 7 [Expr.enc a, (xE bk bn bv btk btv btl bl)] false] 0, .ip (envC fenv) 0, I gn, I gf, .ip (lamC gl) 0, .ip (envC ge) 0]])) : Int) = (R.length : Int) + 1) (qw ((R.length : Int) + 1 - 1) (q ((R.length : Int) + 1 - 1 = (R.length : Int)) (q (List.length R < List.length (R ++ [[I 0, .ip [I 3, I xn, I xv, I xtk, I xtv, .sl 3 (Ty.encs xtl) false, .sl 7 [Expr.enc a, (xE bk bn bv btk btv btl bl)] false] 0, .ip (envC fenv) 0, I gn, I gf, .ip (lamC gl) 0, .ip (envC ge) 0]])) (q ((R ++ [[I 0, .ip [I 3, I xn, I xv, I xtk, I xtv, .sl 3 (Ty.encs xtl) false, .sl 7 [Expr.enc a, (xE bk bn bv btk btv btl bl)] false] 0, .ip (envC fenv) 0, I gn, I gf, .ip (lamC gl) 0, .ip (envC ge) 0]])[List.length R]? = some (Fr.enc { kind := 0, expr := some (Expr.mk 3 xn xv (Ty.mk xtk xtv xtl) [a, Expr.mk bk bn bv (Ty.mk btk btv btl) bl]), env := fenv, fn := Vl.mk gn gf gl ge })) (q ((↑(List.length (R ++ [[I 0, .ip [I 3, I xn, I xv, I xtk, I xtv, .sl 3 (Ty.encs xtl) false, .sl 7 [Expr.enc a, (xE bk bn bv btk btv btl bl)] false] 0, .ip (envC fenv) 0, I gn, I gf, .ip (lamC gl) 0, .ip (envC ge) 0]])) : Int) = (R.length : Int) + 1) (qw ((R.length : Int) + 1 - 1) (q ((R.length : Int) + 1 - 1 = (R.length : Int)) (q (List.length R < List.length (R ++ [[I 0, .ip [I 3, I xn, I xv, I xtk, I xtv, .sl 3 (Ty.encs xtl) false, .sl 7 [Expr.enc a, (xE bk bn bv btk btv btl bl)] false] 0, .ip (envC fenv) 0, I gn, I gf, .ip (lamC gl) 0, .ip (envC ge) 0]])) (q ((R ++ [[I 0, .ip [I 3, I xn, I xv, I xtk, I xtv, .sl 3 (Ty.encs xtl) false, .sl 7 [Expr.enc a, (xE bk bn bv btk btv btl bl)] false] 0, .ip (envC fenv) 0, I gn, I gf, .ip (lamC gl) 0, .ip (envC ge) 0]])[List.length R]? = some (Fr.enc { kind := 0, expr := some (Expr.mk 3 xn xv (Ty.mk xtk xtv xtl) [a, Expr.mk bk bn bv (Ty.mk btk btv btl) bl]), env := fenv, fn := Vl.mk gn gf gl ge })) (qI 1 (qC1 (Expr.enc a) ((xE bk bn bv btk btv btl bl)) [] (ob1 (h (List.set (R ++ [[I 0, .ip [I 3, I xn, I xv, I xtk, I xtv, .sl 3 (Ty.encs xtl) false, .sl 7 [Expr.enc a, (xE bk bn bv btk btv btl bl)] false] 0, .ip (envC fenv) 0, I gn, I gf, .ip (lamC gl) 0, .ip (envC ge) 0]]) (List.length R) [I 1, .ip [] 0, .ip [] 0, I wn, I wf, .ip (lamC wl) 0, .ip (envC we) 0])) ob0)))))))))))))) (by first | rfl | (simp [*]; done)) (by (rw [set_last]; rfl))
theorem back_more (kd : Int) (hk : kd ≠ 0) (fe : Option Expr) (fenv : List Vl) (gn gf : Int) (gl : Option Expr) (ge : List Vl) (hR : R.length ≤ 4294967296) (hf : fuel ≤ steps) :
  SC 63 [.lp 0 0]
   [Mc fuel ⟨es, ds, .mk mk mn mv (.mk mtk mtv mtl) ml⟩ steps 1 1 0 0 false none env (.mk wn wf wl we), .arr 1 1 E, lists cc ci cu used width, .arr 1 7 (R ++ [(Fr.mk kd fe fenv (.mk gn gf gl ge)).enc])]
   (B false) [Mc fuel ⟨es, ds, .mk mk mn mv (.mk mtk mtv mtl) ml⟩ steps 1 1 1 0 false none env (.mk wn wf wl we), .arr 1 1 E, lists cc ci cu used width,
    .arr 1 7 (R ++ [(Fr.mk kd fe fenv (.mk gn gf gl ge)).enc])] := by
 have hx := getLast_get R (Fr.mk kd fe fenv (.mk gn gf gl ge)).enc
 have h := fun R => stop_ fuel steps es ds mk mn mv mtk mtv mtl ml E R cc ci cu used width none env wn wf wl we 0 0 false 1
 exact gF Tryz.func63 [rG, rS [(4, .int ((R.length : Int) + 1))], rS [(8, .int ((R.length : Int) + 1)), (9, .int ((R.length : Int) + 1 - 1)), (10, .nat (List.length R)), (11, .row (List.length R) (Fr.enc { kind := kd, expr := fe, env := fenv, fn := Vl.mk gn gf gl ge }))], rS [(2, .bit false)], rS [(8, .bit true)], rS [(1, oC (h (R ++ [[I kd, AV.ip (lamC fe) 0, AV.ip (envC fenv) 0, I gn, I gf, AV.ip (lamC gl) 0, AV.ip (envC ge) 0]])))]] (q ((↑(List.length (R ++ [[I kd, .ip (lamC fe) 0, .ip (envC fenv) 0, I gn, I gf, .ip (lamC gl) 0, .ip (envC ge) 0]])) : Int) = (R.length : Int) + 1) (q ((↑(List.length (R ++ [[I kd, .ip (lamC fe) 0, .ip (envC fenv) 0, I gn, I gf, .ip (lamC gl) 0, .ip (envC ge) 0]])) : Int) = (R.length : Int) + 1) (qw ((R.length : Int) + 1 - 1) (q ((R.length : Int) + 1 - 1 = (R.length : Int)) (q (List.length R < List.length (R ++ [[I kd, .ip (lamC fe) 0, .ip (envC fenv) 0, I gn, I gf, .ip (lamC gl) 0, .ip (envC ge) 0]])) (q ((R ++ [[I kd, .ip (lamC fe) 0, .ip (envC fenv) 0, I gn, I gf, .ip (lamC gl) 0, .ip (envC ge) 0]])[List.length R]? = some (Fr.enc { kind := kd, expr := fe, env := fenv, fn := Vl.mk gn gf gl ge })) (qU (kd == 0) (qT (fuel ≤ steps) (ob1 (h (R ++ [[I kd, .ip (lamC fe) 0, .ip (envC fenv) 0, I gn, I gf, .ip (lamC gl) 0, .ip (envC ge) 0]])) ob0)))))))))
theorem back_let (xn xv xtk xtv : Int) (xtl : List Ty) (a : Expr) (bk bn bv btk btv : Int) (btl : List Ty) (bl : List Expr) (fenv : List Vl) (gn gf : Int) (gl : Option Expr) (ge : List Vl) (hR : R.length ≤ 4294967296)
  (hf : steps < fuel) (hs : 0 ≤ steps ∧ steps ≤ 10000000) :
  SC 63 [.lp 0 0]
   [Mc fuel ⟨es, ds, .mk mk mn mv (.mk mtk mtv mtl) ml⟩ steps 1 1 0 0 false none env (.mk wn wf wl we), .arr 1 1 E, lists cc ci cu used width,
    .arr 1 7 (R ++ [(Fr.mk 2 (some (.mk 5 xn xv (.mk xtk xtv xtl) [a, .mk bk bn bv (.mk btk btv btl) bl])) fenv (.mk gn gf gl ge)).enc])]
   (B true) [Mc fuel ⟨es, ds, .mk mk mn mv (.mk mtk mtv mtl) ml⟩ (steps + 1) 1 2 0 0 false (some (.mk bk bn bv (.mk btk btv btl) bl)) (.mk wn wf wl we :: fenv) (.mk wn wf wl we), .arr 1 1 E, lists cc ci cu used width, .arr 2 7 R] := by
 have hx := getLast_get R (Fr.mk 2 (some (.mk 5 xn xv (.mk xtk xtv xtl) [a, .mk bk bn bv (.mk btk btv btl) bl])) fenv (.mk gn gf gl ge)).enc
 have h := fun R s => goes2 fuel s es ds mk mn mv mtk mtv mtl ml E R cc ci cu used width env wn wf wl we none (some (.mk bk bn bv (.mk btk btv btl) bl)) wn wf wl we fenv
 have hT := take_last R (Fr.mk 2 (some (.mk 5 xn xv (.mk xtk xtv xtl) [a, .mk bk bn bv (.mk btk btv btl) bl])) fenv (.mk gn gf gl ge)).enc ((R.length : Int) + 1 - 1) (by omega)
 exact gR Tryz.func63 [rG, rS [(4, .int ((R.length : Int) + 1))], rS [(8, .int ((R.length : Int) + 1)), (9, .int ((R.length : Int) + 1 - 1)), (10, .nat (List.length R)), (11, .row (List.length R) (Fr.enc { kind := 2, expr := some (Expr.mk 5 xn xv (Ty.mk xtk xtv xtl) [a, Expr.mk bk bn bv (Ty.mk btk btv btl) bl]), env := fenv, fn := Vl.mk gn gf gl ge }))], rG, rS [(8, .bit false)], rS [(9, .int ((R.length : Int) + 1)), (10, .int ((R.length : Int) + 1 - 1))], rG, rG, rG, rS [(4, .int (steps + 1))], rG, rG, rS [(6, .row 1 (xE bk bn bv btk btv btl bl)), (15, oC (h (List.take (Int.toNat ((↑(List.length R) : Int) + 1 - 1)) (R ++ [[I 2, AV.ip [I 5, I xn, I xv, I xtk, I xtv, AV.sl 3 (Ty.encs xtl) false, AV.sl 7 [Expr.enc a, [I bk, I bn, I bv, I btk, I btv, AV.sl 3 (Ty.encs btl) false, AV.sl 7 (Expr.encs bl) false]] false] 0, AV.ip (envC fenv) 0, I gn, I gf, AV.ip (lamC gl) 0, AV.ip (envC ge) 0]])) (steps + 1)))]] [.frz 5, .keep [(2, [])]] [] (B true) ([.cells [I fuel, B false, I (steps + 1), .la 1 1, I 0, I 0, B false, .sl 1 (strs es) false, .sl 14 (Def.encs ds) false, I mk, I mn, I mv, I mtk, I mtv, .sl 3 (Ty.encs mtl) false, .sl 7 (Expr.encs ml) false, .ifc 96 (.lp 2 0), .la 3 2, .ip (xE bk bn bv btk btv btl bl) 0, .ip [I wn, I wf, .ip (lamC wl) 0, .ip (envC we) 0, .ip (envC fenv) 0] 0, I wn, I wf, .ip (lamC wl) 0, .ip (envC we) 0] [9, 10, 11, 12, 13, 14, 15], .arr 1 1 E, .cells [.sl 1 (ints cc) false, .sl 1 (ints ci) false, I used, I cu, I width] [], .arr 2 7 (List.take (Int.toNat ((R.length : Int) + 1 - 1)) (R ++ [[I 2, .ip [I 5, I xn, I xv, I xtk, I xtv, .sl 3 (Ty.encs xtl) false, .sl 7 [Expr.enc a, (xE bk bn bv btk btv btl bl)] false] 0, .ip (envC fenv) 0, I gn, I gf, .ip (lamC gl) 0, .ip (envC ge) 0]]))]) (q ((↑(List.length (R ++ [[I 2, .ip [I 5, I xn, I xv, I xtk, I xtv, .sl 3 (Ty.encs xtl) false, .sl 7 [Expr.enc a, (xE bk bn bv btk btv btl bl)] false] 0, .ip (envC fenv) 0, I gn, I gf, .ip (lamC gl) 0, .ip (envC ge) 0]])) : Int) = (R.length : Int) + 1) (q ((↑(List.length (R ++ [[I 2, .ip [I 5, I xn, I xv, I xtk, I xtv, .sl 3 (Ty.encs xtl) false, .sl 7 [Expr.enc a, (xE bk bn bv btk btv btl bl)] false] 0, .ip (envC fenv) 0, I gn, I gf, .ip (lamC gl) 0, .ip (envC ge) 0]])) : Int) = (R.length : Int) + 1) (qw ((R.length : Int) + 1 - 1) (q ((R.length : Int) + 1 - 1 = (R.length : Int)) (q (List.length R < List.length (R ++ [[I 2, .ip [I 5, I xn, I xv, I xtk, I xtv, .sl 3 (Ty.encs xtl) false, .sl 7 [Expr.enc a, (xE bk bn bv btk btv btl bl)] false] 0, .ip (envC fenv) 0, I gn, I gf, .ip (lamC gl) 0, .ip (envC ge) 0]])) (q ((R ++ [[I 2, .ip [I 5, I xn, I xv, I xtk, I xtv, .sl 3 (Ty.encs xtl) false, .sl 7 [Expr.enc a, (xE bk bn bv btk btv btl bl)] false] 0, .ip (envC fenv) 0, I gn, I gf, .ip (lamC gl) 0, .ip (envC ge) 0]])[List.length R]? = some (Fr.enc { kind := 2, expr := some (Expr.mk 5 xn xv (Ty.mk xtk xtv xtl) [a, Expr.mk bk bn bv (Ty.mk btk btv btl) bl]), env := fenv, fn := Vl.mk gn gf gl ge })) (qF (fuel ≤ steps) (q ((↑(List.length (R ++ [[I 2, .ip [I 5, I xn, I xv, I xtk, I xtv, .sl 3 (Ty.encs xtl) false, .sl 7 [Expr.enc a, (xE bk bn bv btk btv btl bl)] false] 0, .ip (envC fenv) 0, I gn, I gf, .ip (lamC gl) 0, .ip (envC ge) 0]])) : Int) = (R.length : Int) + 1) (qw ((R.length : Int) + 1 - 1) (q ((0 : Int) ≤ (0 : Int)) (q (0 ≤ (R.length : Int) + 1 - 1) (q ((R.length : Int) + 1 - 1 ≤ (↑(List.length (R ++ [[I 2, .ip [I 5, I xn, I xv, I xtk, I xtv, .sl 3 (Ty.encs xtl) false, .sl 7 [Expr.enc a, (xE bk bn bv btk btv btl bl)] false] 0, .ip (envC fenv) 0, I gn, I gf, .ip (lamC gl) 0, .ip (envC ge) 0]])) : Int)) (qw (steps + 1) (qI 1 (qC1 (Expr.enc a) ((xE bk bn bv btk btv btl bl)) [] (ob1 (h (List.take (Int.toNat ((R.length : Int) + 1 - 1)) (R ++ [[I 2, .ip [I 5, I xn, I xv, I xtk, I xtv, .sl 3 (Ty.encs xtl) false, .sl 7 [Expr.enc a, (xE bk bn bv btk btv btl bl)] false] 0, .ip (envC fenv) 0, I gn, I gf, .ip (lamC gl) 0, .ip (envC ge) 0]])) (steps + 1)) ob0)))))))))))))))) (by first | rfl | (simp [*]; done)) (by (refine congrArg (fun x => [_, _, _, (.arr 2 7 x : AObj)]) hT))
end
end Go.Ae.N
namespace Go.Ae.N
open Go.Proofs
section
variable (fuel steps : Int) (es : List ByteArray) (ds : List Def) (mk mn mv mtk mtv : Int) (mtl : List Ty) (ml : List Expr) (E R : List (List AV)) (cc ci : List Int) (cu : Int) (used width : Int)
 (env : List Vl) (wn wf : Int) (wl : Option Expr) (we : List Vl)
theorem back_case (w : Nat) (xn xv xtk xtv : Int) (xtl : List Ty) (l : List Expr) (bk bn bv btk btv : Int) (btl : List Ty) (bl : List Expr) (fenv : List Vl) (gn gf : Int) (gl : Option Expr) (ge : List Vl) (hR : R.length ≤ 4294967296)
  (hf : steps < fuel) (hs : 0 ≤ steps ∧ steps ≤ 10000000) (hl : l.length ≤ 4294967296) (hw : l[1 + w]? = some (.mk bk bn bv (.mk btk btv btl) bl)) :
  SC 63 [.lp 0 0]
   [Mc fuel ⟨es, ds, .mk mk mn mv (.mk mtk mtv mtl) ml⟩ steps 1 1 0 0 false none env (.mk (w : Int) wf wl we), .arr 1 1 E, lists cc ci cu used width,
    .arr 1 7 (R ++ [(Fr.mk 3 (some (.mk 6 xn xv (.mk xtk xtv xtl) l)) fenv (.mk gn gf gl ge)).enc])]
   (B true) [Mc fuel ⟨es, ds, .mk mk mn mv (.mk mtk mtv mtl) ml⟩ (steps + 1) 1 2 0 0 false (some (.mk bk bn bv (.mk btk btv btl) bl)) fenv (.mk (w : Int) wf wl we), .arr 1 1 E, lists cc ci cu used width, .arr 2 7 R] := by
 have hx := getLast_get R (Fr.mk 3 (some (.mk 6 xn xv (.mk xtk xtv xtl) l)) fenv (.mk gn gf gl ge)).enc
 have hy : (Expr.encs l)[1 + w]? = some (Expr.mk bk bn bv (.mk btk btv btl) bl).enc := by rw [Expr.encs_get, hw]; rfl
 have hlt : 1 + w < l.length := (List.getElem?_eq_some_iff.1 hw).1
 have h := fun R s => goes_ fuel s es ds mk mn mv mtk mtv mtl ml E R cc ci cu used width none env (w : Int) wf wl we 0 0 false (some (.mk bk bn bv (.mk btk btv btl) bl)) fenv
 have hT := take_last R (Fr.mk 3 (some (.mk 6 xn xv (.mk xtk xtv xtl) l)) fenv (.mk gn gf gl ge)).enc ((R.length : Int) + 1 - 1) (by omega)
 clear hw
 exact gR Tryz.func63 [rG, rS [(4, .int ((R.length : Int) + 1))], rS [(8, .int ((R.length : Int) + 1)), (9, .int ((R.length : Int) + 1 - 1)), (10, .nat (List.length R)), (11, .row (List.length R) (Fr.enc { kind := 3, expr := some (Expr.mk 6 xn xv (Ty.mk xtk xtv xtl) l), env := fenv, fn := Vl.mk gn gf gl ge }))], rG, rS [(8, .bit false)], rS [(9, .int ((R.length : Int) + 1)), (10, .int ((R.length : Int) + 1 - 1))], rG, rG, rG, rS [(4, .int (steps + 1))], rG, rG, rG, rS [(11, .int (1 + (w : Int))), (12, oW hy), (15, oC (h (List.take (Int.toNat ((↑(List.length R) : Int) + 1 - 1)) (R ++ [[I 3, AV.ip [I 6, I xn, I xv, I xtk, I xtv, AV.sl 3 (Ty.encs xtl) false, AV.sl 7 (Expr.encs l) false] 0, AV.ip (envC fenv) 0, I gn, I gf, AV.ip (lamC gl) 0, AV.ip (envC ge) 0]])) (steps + 1)))]] [] [] (B true) ([.cells [I fuel, B false, I (steps + 1), .la 1 1, I 0, I 0, B false, .sl 1 (strs es) false, .sl 14 (Def.encs ds) false, I mk, I mn, I mv, I mtk, I mtv, .sl 3 (Ty.encs mtl) false, .sl 7 (Expr.encs ml) false, .ifc 96 (.lp 2 0), .la 3 2, .ip (xE bk bn bv btk btv btl bl) 0, .ip (envC fenv) 0, I (w : Int), I wf, .ip (lamC wl) 0, .ip (envC we) 0] [9, 10, 11, 12, 13, 14, 15], .arr 1 1 E, .cells [.sl 1 (ints cc) false, .sl 1 (ints ci) false, I used, I cu, I width] [], .arr 2 7 (List.take (Int.toNat ((R.length : Int) + 1 - 1)) (R ++ [[I 3, .ip (xE 6 xn xv xtk xtv xtl l) 0, .ip (envC fenv) 0, I gn, I gf, .ip (lamC gl) 0, .ip (envC ge) 0]]))]) (q ((↑(List.length (R ++ [[I 3, .ip (xE 6 xn xv xtk xtv xtl l) 0, .ip (envC fenv) 0, I gn, I gf, .ip (lamC gl) 0, .ip (envC ge) 0]])) : Int) = (R.length : Int) + 1) (q ((↑(List.length (R ++ [[I 3, .ip (xE 6 xn xv xtk xtv xtl l) 0, .ip (envC fenv) 0, I gn, I gf, .ip (lamC gl) 0, .ip (envC ge) 0]])) : Int) = (R.length : Int) + 1) (qw ((R.length : Int) + 1 - 1) (q ((R.length : Int) + 1 - 1 = (R.length : Int)) (q (List.length R < List.length (R ++ [[I 3, .ip (xE 6 xn xv xtk xtv xtl l) 0, .ip (envC fenv) 0, I gn, I gf, .ip (lamC gl) 0, .ip (envC ge) 0]])) (q ((R ++ [[I 3, .ip (xE 6 xn xv xtk xtv xtl l) 0, .ip (envC fenv) 0, I gn, I gf, .ip (lamC gl) 0, .ip (envC ge) 0]])[List.length R]? = some (Fr.enc { kind := 3, expr := some (Expr.mk 6 xn xv (Ty.mk xtk xtv xtl) l), env := fenv, fn := Vl.mk gn gf gl ge })) (qF (fuel ≤ steps) (q ((↑(List.length (R ++ [[I 3, .ip (xE 6 xn xv xtk xtv xtl l) 0, .ip (envC fenv) 0, I gn, I gf, .ip (lamC gl) 0, .ip (envC ge) 0]])) : Int) = (R.length : Int) + 1) (qw ((R.length : Int) + 1 - 1) (q ((0 : Int) ≤ (0 : Int)) (q (0 ≤ (R.length : Int) + 1 - 1) (q ((R.length : Int) + 1 - 1 ≤ (↑(List.length (R ++ [[I 3, .ip (xE 6 xn xv xtk xtv xtl l) 0, .ip (envC fenv) 0, I gn, I gf, .ip (lamC gl) 0, .ip (envC ge) 0]])) : Int)) (qw (steps + 1) (qw (1 + (w : Int)) (q (1 + (w : Int) = (↑(1 + w) : Int)) (ob1 hy (ob1 (h (List.take (Int.toNat ((R.length : Int) + 1 - 1)) (R ++ [[I 3, .ip (xE 6 xn xv xtk xtv xtl l) 0, .ip (envC fenv) 0, I gn, I gf, .ip (lamC gl) 0, .ip (envC ge) 0]])) (steps + 1)) ob0))))))))))))))))) (by first | rfl | (simp [*]; done)) (by (refine congrArg (fun x => [_, _, _, (.arr 2 7 x : AObj)]) hT))
theorem back_fun (i : Nat) (nm : ByteArray) (pk pv : Int) (pl : List Ty) (rk rv : Int) (rl : List Ty) (bk bn bv btk btv : Int) (btl : List Ty) (bl : List Expr) (gl : Option Expr) (ge : List Vl) (hR : R.length ≤ 4294967296)
  (hf : steps < fuel) (hs : 0 ≤ steps ∧ steps ≤ 10000000) (hd : ds.length ≤ 4294967296) (hw : ds[i]? = some (.mk nm (.mk pk pv pl) (.mk rk rv rl) (.mk bk bn bv (.mk btk btv btl) bl))) :
  SC 63 [.lp 0 0]
   [Mc fuel ⟨es, ds, .mk mk mn mv (.mk mtk mtv mtl) ml⟩ steps 1 1 0 0 false none env (.mk wn wf wl we), .arr 1 1 E, lists cc ci cu used width,
    .arr 1 7 (R ++ [(Fr.mk 1 none [] (.mk 0 ((i : Int) + 1) gl ge)).enc])]
   (B true) [Mc fuel ⟨es, ds, .mk mk mn mv (.mk mtk mtv mtl) ml⟩ (steps + 1) 1 2 0 0 false (some (.mk bk bn bv (.mk btk btv btl) bl)) [.mk wn wf wl we] (.mk wn wf wl we), .arr 1 1 E, lists cc ci cu used width, .arr 2 7 R] := by
 have hx := getLast_get R (Fr.mk 1 none [] (.mk 0 ((i : Int) + 1) gl ge)).enc
 have hy : (Def.encs ds)[i]? = some (Def.mk nm (.mk pk pv pl) (.mk rk rv rl) (.mk bk bn bv (.mk btk btv btl) bl)).enc := by rw [Def.encs_get, hw]; rfl
 have hlt : i < ds.length := (List.getElem?_eq_some_iff.1 hw).1
 have h := fun R s => goes2 fuel s es ds mk mn mv mtk mtv mtl ml E R cc ci cu used width env wn wf wl we none (some (.mk bk bn bv (.mk btk btv btl) bl)) wn wf wl we []
 have hT := take_last R (Fr.mk 1 none [] (.mk 0 ((i : Int) + 1) gl ge)).enc ((R.length : Int) + 1 - 1) (by omega)
 clear hw
 exact gR Tryz.func63 [rG, rS [(4, .int ((R.length : Int) + 1))], rS [(8, .int ((R.length : Int) + 1)), (9, .int ((R.length : Int) + 1 - 1)), (10, .nat (List.length R)), (11, .row (List.length R) (Fr.enc { kind := 1, expr := none, env := [], fn := Vl.mk 0 ((i : Int) + 1) gl ge }))], rG, rS [(8, .bit false)], rS [(9, .int ((R.length : Int) + 1)), (10, .int ((R.length : Int) + 1 - 1))], rG, rG, rG, rS [(4, .int (steps + 1))], rG, rG, rG, rG, rS [(2, .bit true)], rS [(8, .int ((i : Int) + 1 - 1)), (9, oW hy), (17, oC (h (List.take (Int.toNat ((↑(List.length R) : Int) + 1 - 1)) (R ++ [[I 1, AV.ip [] 0, AV.ip [] 0, I 0, I ((↑i : Int) + 1), AV.ip (lamC gl) 0, AV.ip (envC ge) 0]])) (steps + 1)))]] [.frz 6, .keep [(2, [])]] [] (B true) ([.cells [I fuel, B false, I (steps + 1), .la 1 1, I 0, I 0, B false, .sl 1 (strs es) false, .sl 14 (Def.encs ds) false, I mk, I mn, I mv, I mtk, I mtv, .sl 3 (Ty.encs mtl) false, .sl 7 (Expr.encs ml) false, .ifc 96 (.lp 2 0), .la 3 2, .ip (xE bk bn bv btk btv btl bl) 0, .ip [I wn, I wf, .ip (lamC wl) 0, .ip (envC we) 0, .ip [] 0] 0, I wn, I wf, .ip (lamC wl) 0, .ip (envC we) 0] [9, 10, 11, 12, 13, 14, 15], .arr 1 1 E, .cells [.sl 1 (ints cc) false, .sl 1 (ints ci) false, I used, I cu, I width] [], .arr 2 7 (List.take (Int.toNat ((R.length : Int) + 1 - 1)) (R ++ [[I 1, .ip [] 0, .ip [] 0, I 0, I ((i : Int) + 1), .ip (lamC gl) 0, .ip (envC ge) 0]]))]) (q ((↑(List.length (R ++ [[I 1, .ip [] 0, .ip [] 0, I 0, I ((i : Int) + 1), .ip (lamC gl) 0, .ip (envC ge) 0]])) : Int) = (R.length : Int) + 1) (q ((↑(List.length (R ++ [[I 1, .ip [] 0, .ip [] 0, I 0, I ((i : Int) + 1), .ip (lamC gl) 0, .ip (envC ge) 0]])) : Int) = (R.length : Int) + 1) (qw ((R.length : Int) + 1 - 1) (q ((R.length : Int) + 1 - 1 = (R.length : Int)) (q (List.length R < List.length (R ++ [[I 1, .ip [] 0, .ip [] 0, I 0, I ((i : Int) + 1), .ip (lamC gl) 0, .ip (envC ge) 0]])) (q ((R ++ [[I 1, .ip [] 0, .ip [] 0, I 0, I ((i : Int) + 1), .ip (lamC gl) 0, .ip (envC ge) 0]])[List.length R]? = some (Fr.enc { kind := 1, expr := none, env := [], fn := Vl.mk 0 ((i : Int) + 1) gl ge })) (qF (fuel ≤ steps) (q ((↑(List.length (R ++ [[I 1, .ip [] 0, .ip [] 0, I 0, I ((i : Int) + 1), .ip (lamC gl) 0, .ip (envC ge) 0]])) : Int) = (R.length : Int) + 1) (qw ((R.length : Int) + 1 - 1) (q ((0 : Int) ≤ (0 : Int)) (q (0 ≤ (R.length : Int) + 1 - 1) (q ((R.length : Int) + 1 - 1 ≤ (↑(List.length (R ++ [[I 1, .ip [] 0, .ip [] 0, I 0, I ((i : Int) + 1), .ip (lamC gl) 0, .ip (envC ge) 0]])) : Int)) (qw (steps + 1) (qT (0 < (i : Int) + 1) (qw ((i : Int) + 1 - 1) (q ((i : Int) + 1 - 1 = (i : Int)) (ob1 hy (ob1 (h (List.take (Int.toNat ((R.length : Int) + 1 - 1)) (R ++ [[I 1, .ip [] 0, .ip [] 0, I 0, I ((i : Int) + 1), .ip (lamC gl) 0, .ip (envC ge) 0]])) (steps + 1)) ob0)))))))))))))))))) (by first | rfl | (simp [*]; done)) (by (refine congrArg (fun x => [_, _, _, (.arr 2 7 x : AObj)]) hT))
theorem back_clo (xn xv xtk xtv : Int) (xtl : List Ty) (bk bn bv btk btv : Int) (btl : List Ty) (bl : List Expr) (ge : List Vl) (hR : R.length ≤ 4294967296)
  (hf : steps < fuel) (hs : 0 ≤ steps ∧ steps ≤ 10000000) :
  SC 63 [.lp 0 0]
   [Mc fuel ⟨es, ds, .mk mk mn mv (.mk mtk mtv mtl) ml⟩ steps 1 1 0 0 false none env (.mk wn wf wl we), .arr 1 1 E, lists cc ci cu used width,
    .arr 1 7 (R ++ [(Fr.mk 1 none [] (.mk 0 0 (some (.mk 4 xn xv (.mk xtk xtv xtl) [.mk bk bn bv (.mk btk btv btl) bl])) ge)).enc])]
   (B true) [Mc fuel ⟨es, ds, .mk mk mn mv (.mk mtk mtv mtl) ml⟩ (steps + 1) 1 2 0 0 false (some (.mk bk bn bv (.mk btk btv btl) bl)) (.mk wn wf wl we :: ge) (.mk wn wf wl we), .arr 1 1 E, lists cc ci cu used width, .arr 2 7 R] := by
 have hx := getLast_get R (Fr.mk 1 none [] (.mk 0 0 (some (.mk 4 xn xv (.mk xtk xtv xtl) [.mk bk bn bv (.mk btk btv btl) bl])) ge)).enc
 have h := fun R s => goes2 fuel s es ds mk mn mv mtk mtv mtl ml E R cc ci cu used width env wn wf wl we none (some (.mk bk bn bv (.mk btk btv btl) bl)) wn wf wl we ge
 have hT := take_last R (Fr.mk 1 none [] (.mk 0 0 (some (.mk 4 xn xv (.mk xtk xtv xtl) [.mk bk bn bv (.mk btk btv btl) bl])) ge)).enc ((R.length : Int) + 1 - 1) (by omega)
 exact gR Tryz.func63 ([rG, rS [(4, .int ((R.length : Int) + 1))], rS [(8, .int ((R.length : Int) + 1)), (9, .int ((R.length : Int) + 1 - 1)), (10, .nat (List.length R)), (11, .row (List.length R) (Fr.enc { kind := 1, expr := none, env := [], fn := Vl.mk 0 0 (some (Expr.mk 4 xn xv (Ty.mk xtk xtv xtl) [Expr.mk bk bn bv (Ty.mk btk btv btl) bl])) ge }))], rG, rS [(8, .bit false)], rS [(9, .int ((R.length : Int) + 1)), (10, .int ((R.length : Int) + 1 - 1))], rG, rG, rG, rS [(4, .int (steps + 1))]] ++ (rGs 5 [rS [(7, .row 0 (xE bk bn bv btk btv btl bl)), (17, oC (h (List.take (Int.toNat ((↑(List.length R) : Int) + 1 - 1)) (R ++ [[I 1, AV.ip [] 0, AV.ip [] 0, I 0, I 0, AV.ip [I 4, I xn, I xv, I xtk, I xtv, AV.sl 3 (Ty.encs xtl) false, AV.sl 7 [[I bk, I bn, I bv, I btk, I btv, AV.sl 3 (Ty.encs btl) false, AV.sl 7 (Expr.encs bl) false]] false] 0, AV.ip (envC ge) 0]])) (steps + 1)))]])) [.frz 6, .keep [(2, [])]] [] (B true) ([.cells [I fuel, B false, I (steps + 1), .la 1 1, I 0, I 0, B false, .sl 1 (strs es) false, .sl 14 (Def.encs ds) false, I mk, I mn, I mv, I mtk, I mtv, .sl 3 (Ty.encs mtl) false, .sl 7 (Expr.encs ml) false, .ifc 96 (.lp 2 0), .la 3 2, .ip (xE bk bn bv btk btv btl bl) 0, .ip [I wn, I wf, .ip (lamC wl) 0, .ip (envC we) 0, .ip (envC ge) 0] 0, I wn, I wf, .ip (lamC wl) 0, .ip (envC we) 0] [9, 10, 11, 12, 13, 14, 15], .arr 1 1 E, .cells [.sl 1 (ints cc) false, .sl 1 (ints ci) false, I used, I cu, I width] [], .arr 2 7 (List.take (Int.toNat ((R.length : Int) + 1 - 1)) (R ++ [[I 1, .ip [] 0, .ip [] 0, I 0, I 0, .ip [I 4, I xn, I xv, I xtk, I xtv, .sl 3 (Ty.encs xtl) false, .sl 7 [(xE bk bn bv btk btv btl bl)] false] 0, .ip (envC ge) 0]]))]) (q ((↑(List.length (R ++ [[I 1, .ip [] 0, .ip [] 0, I 0, I 0, .ip [I 4, I xn, I xv, I xtk, I xtv, .sl 3 (Ty.encs xtl) false, .sl 7 [(xE bk bn bv btk btv btl bl)] false] 0, .ip (envC ge) 0]])) : Int) = (R.length : Int) + 1) (q ((↑(List.length (R ++ [[I 1, .ip [] 0, .ip [] 0, I 0, I 0, .ip [I 4, I xn, I xv, I xtk, I xtv, .sl 3 (Ty.encs xtl) false, .sl 7 [(xE bk bn bv btk btv btl bl)] false] 0, .ip (envC ge) 0]])) : Int) = (R.length : Int) + 1) (qw ((R.length : Int) + 1 - 1) (q ((R.length : Int) + 1 - 1 = (R.length : Int)) (q (List.length R < List.length (R ++ [[I 1, .ip [] 0, .ip [] 0, I 0, I 0, .ip [I 4, I xn, I xv, I xtk, I xtv, .sl 3 (Ty.encs xtl) false, .sl 7 [(xE bk bn bv btk btv btl bl)] false] 0, .ip (envC ge) 0]])) (q ((R ++ [[I 1, .ip [] 0, .ip [] 0, I 0, I 0, .ip [I 4, I xn, I xv, I xtk, I xtv, .sl 3 (Ty.encs xtl) false, .sl 7 [(xE bk bn bv btk btv btl bl)] false] 0, .ip (envC ge) 0]])[List.length R]? = some (Fr.enc { kind := 1, expr := none, env := [], fn := Vl.mk 0 0 (some (Expr.mk 4 xn xv (Ty.mk xtk xtv xtl) [Expr.mk bk bn bv (Ty.mk btk btv btl) bl])) ge })) (qF (fuel ≤ steps) (q ((↑(List.length (R ++ [[I 1, .ip [] 0, .ip [] 0, I 0, I 0, .ip [I 4, I xn, I xv, I xtk, I xtv, .sl 3 (Ty.encs xtl) false, .sl 7 [(xE bk bn bv btk btv btl bl)] false] 0, .ip (envC ge) 0]])) : Int) = (R.length : Int) + 1) (qw ((R.length : Int) + 1 - 1) (q ((0 : Int) ≤ (0 : Int)) (q (0 ≤ (R.length : Int) + 1 - 1) (q ((R.length : Int) + 1 - 1 ≤ (↑(List.length (R ++ [[I 1, .ip [] 0, .ip [] 0, I 0, I 0, .ip [I 4, I xn, I xv, I xtk, I xtv, .sl 3 (Ty.encs xtl) false, .sl 7 [(xE bk bn bv btk btv btl bl)] false] 0, .ip (envC ge) 0]])) : Int)) (qw (steps + 1) (qI 0 (qC0 ((xE bk bn bv btk btv btl bl)) [] (ob1 (h (List.take (Int.toNat ((R.length : Int) + 1 - 1)) (R ++ [[I 1, .ip [] 0, .ip [] 0, I 0, I 0, .ip [I 4, I xn, I xv, I xtk, I xtv, .sl 3 (Ty.encs xtl) false, .sl 7 [(xE bk bn bv btk btv btl bl)] false] 0, .ip (envC ge) 0]])) (steps + 1)) ob0)))))))))))))))) (by first | rfl | (simp [*]; done)) (by (refine congrArg (fun x => [_, _, _, (.arr 2 7 x : AObj)]) hT))
theorem back_add (xk xn xv xtk xtv : Int) (xtl : List Ty) (l : List Expr) (fenv : List Vl) (gn gf : Int) (gl : Option Expr) (ge : List Vl) (hR : R.length ≤ 4294967296) (hf : steps < fuel) (hs : 0 ≤ steps ∧ steps ≤ 10000000) :
  SC 63 [.lp 0 0]
   [Mc fuel ⟨es, ds, .mk mk mn mv (.mk mtk mtv mtl) ml⟩ steps 1 1 0 0 false none env (.mk wn wf wl we), .arr 1 1 E, lists cc ci cu used width,
    .arr 1 7 (R ++ [(Fr.mk 4 (some (.mk xk xn xv (.mk xtk xtv xtl) l)) fenv (.mk gn gf gl ge)).enc])]
   (B true) [Mc fuel ⟨es, ds, .mk mk mn mv (.mk mtk mtv mtl) ml⟩ (steps + 1) 1 2 0 0 false none [] (.mk (IntKind.wrap .i64 (wn + xn)) 0 none []), .arr 1 1 E, lists cc ci cu used width, .arr 2 7 R] := by
 have hx := getLast_get R (Fr.mk 4 (some (.mk xk xn xv (.mk xtk xtv xtl) l)) fenv (.mk gn gf gl ge)).enc
 have hw := ladd_ cc ci cu used width wn xn
 have h := fun R n => answered0 fuel steps es ds mk mn mv mtk mtv mtl ml E R cc ci cu used width none env wn wf wl we 0 0 false n hs
 have hT := take_last R (Fr.mk 4 (some (.mk xk xn xv (.mk xtk xtv xtl) l)) fenv (.mk gn gf gl ge)).enc ((R.length : Int) + 1 - 1) (by omega)
 exact gR Tryz.func63 [rG, rS [(4, .int ((R.length : Int) + 1))], rS [(8, .int ((R.length : Int) + 1)), (9, .int ((R.length : Int) + 1 - 1)), (10, .nat (List.length R)), (11, .row (List.length R) (Fr.enc { kind := 4, expr := some (Expr.mk xk xn xv (Ty.mk xtk xtv xtl) l), env := fenv, fn := Vl.mk gn gf gl ge }))], rG, rS [(8, .bit false)], rS [(9, .int ((R.length : Int) + 1)), (10, .int ((R.length : Int) + 1 - 1))], rG, rG, rS [(17, oC hw), (20, oC (h (List.take (Int.toNat ((↑(List.length R) : Int) + 1 - 1)) (R ++ [[I 4, AV.ip [I xk, I xn, I xv, I xtk, I xtv, AV.sl 3 (Ty.encs xtl) false, AV.sl 7 (Expr.encs l) false] 0, AV.ip (envC fenv) 0, I gn, I gf, AV.ip (lamC gl) 0, AV.ip (envC ge) 0]])) (IntKind.wrap IntKind.i64 (wn + xn))))]] [] [] (B true) ([.cells [I fuel, B false, I (steps + 1), .la 1 1, I 0, I 0, B false, .sl 1 (strs es) false, .sl 14 (Def.encs ds) false, I mk, I mn, I mv, I mtk, I mtv, .sl 3 (Ty.encs mtl) false, .sl 7 (Expr.encs ml) false, .ifc 96 (.lp 2 0), .la 3 2, .ip [] 0, .ip [] 0, I (IntKind.wrap IntKind.i64 (wn + xn)), I 0, .ip [] 0, .ip [] 0] [9, 10, 11, 12, 13, 14, 15], .arr 1 1 E, .cells [.sl 1 (ints cc) false, .sl 1 (ints ci) false, I used, I cu, I width] [], .arr 2 7 (List.take (Int.toNat ((R.length : Int) + 1 - 1)) (R ++ [[I 4, .ip (xE xk xn xv xtk xtv xtl l) 0, .ip (envC fenv) 0, I gn, I gf, .ip (lamC gl) 0, .ip (envC ge) 0]]))]) (q ((↑(List.length (R ++ [[I 4, .ip (xE xk xn xv xtk xtv xtl l) 0, .ip (envC fenv) 0, I gn, I gf, .ip (lamC gl) 0, .ip (envC ge) 0]])) : Int) = (R.length : Int) + 1) (q ((↑(List.length (R ++ [[I 4, .ip (xE xk xn xv xtk xtv xtl l) 0, .ip (envC fenv) 0, I gn, I gf, .ip (lamC gl) 0, .ip (envC ge) 0]])) : Int) = (R.length : Int) + 1) (qw ((R.length : Int) + 1 - 1) (q ((R.length : Int) + 1 - 1 = (R.length : Int)) (q (List.length R < List.length (R ++ [[I 4, .ip (xE xk xn xv xtk xtv xtl l) 0, .ip (envC fenv) 0, I gn, I gf, .ip (lamC gl) 0, .ip (envC ge) 0]])) (q ((R ++ [[I 4, .ip (xE xk xn xv xtk xtv xtl l) 0, .ip (envC fenv) 0, I gn, I gf, .ip (lamC gl) 0, .ip (envC ge) 0]])[List.length R]? = some (Fr.enc { kind := 4, expr := some (Expr.mk xk xn xv (Ty.mk xtk xtv xtl) l), env := fenv, fn := Vl.mk gn gf gl ge })) (qF (fuel ≤ steps) (q ((↑(List.length (R ++ [[I 4, .ip (xE xk xn xv xtk xtv xtl l) 0, .ip (envC fenv) 0, I gn, I gf, .ip (lamC gl) 0, .ip (envC ge) 0]])) : Int) = (R.length : Int) + 1) (qw ((R.length : Int) + 1 - 1) (q ((0 : Int) ≤ (0 : Int)) (q (0 ≤ (R.length : Int) + 1 - 1) (q ((R.length : Int) + 1 - 1 ≤ (↑(List.length (R ++ [[I 4, .ip (xE xk xn xv xtk xtv xtl l) 0, .ip (envC fenv) 0, I gn, I gf, .ip (lamC gl) 0, .ip (envC ge) 0]])) : Int)) (ob1 (hw) (ob1 (h (List.take (Int.toNat ((R.length : Int) + 1 - 1)) (R ++ [[I 4, .ip (xE xk xn xv xtk xtv xtl l) 0, .ip (envC fenv) 0, I gn, I gf, .ip (lamC gl) 0, .ip (envC ge) 0]])) (IntKind.wrap IntKind.i64 (wn + xn))) ob0)))))))))))))) (by first | rfl | (simp [*]; done)) (by (refine congrArg (fun x => [_, _, _, (.arr 2 7 x : AObj)]) hT))
theorem back_less (xk xn xv xtk xtv : Int) (xtl : List Ty) (l : List Expr) (fenv : List Vl) (gn gf : Int) (gl : Option Expr) (ge : List Vl) (hR : R.length ≤ 4294967296) (hf : steps < fuel) (hs : 0 ≤ steps ∧ steps ≤ 10000000) :
  SC 63 [.lp 0 0]
   [Mc fuel ⟨es, ds, .mk mk mn mv (.mk mtk mtv mtl) ml⟩ steps 1 1 0 0 false none env (.mk wn wf wl we), .arr 1 1 E, lists cc ci cu used width,
    .arr 1 7 (R ++ [(Fr.mk 5 (some (.mk xk xn xv (.mk xtk xtv xtl) l)) fenv (.mk gn gf gl ge)).enc])]
   (B true) [Mc fuel ⟨es, ds, .mk mk mn mv (.mk mtk mtv mtl) ml⟩ (steps + 1) 1 2 0 0 false none [] (.mk (if wn < xn then 1 else 0) 0 none []), .arr 1 1 E, lists cc ci cu used width, .arr 2 7 R] := by
 have hx := getLast_get R (Fr.mk 5 (some (.mk xk xn xv (.mk xtk xtv xtl) l)) fenv (.mk gn gf gl ge)).enc
 have hw := lless_ cc ci cu used width wn xn
 generalize (if wn < xn then (1 : Int) else 0) = zz at hw ⊢
 have h := fun R n => answered0 fuel steps es ds mk mn mv mtk mtv mtl ml E R cc ci cu used width none env wn wf wl we 0 0 false n hs
 have hT := take_last R (Fr.mk 5 (some (.mk xk xn xv (.mk xtk xtv xtl) l)) fenv (.mk gn gf gl ge)).enc ((R.length : Int) + 1 - 1) (by omega)
 exact gR Tryz.func63 [rG, rS [(4, .int ((R.length : Int) + 1))], rS [(8, .int ((R.length : Int) + 1)), (9, .int ((R.length : Int) + 1 - 1)), (10, .nat (List.length R)), (11, .row (List.length R) (Fr.enc { kind := 5, expr := some (Expr.mk xk xn xv (Ty.mk xtk xtv xtl) l), env := fenv, fn := Vl.mk gn gf gl ge }))], rG, rS [(8, .bit false)], rS [(9, .int ((R.length : Int) + 1)), (10, .int ((R.length : Int) + 1 - 1))], rG, rG, rG, rS [(17, oC hw), (20, oC (h (List.take (Int.toNat ((↑(List.length R) : Int) + 1 - 1)) (R ++ [[I 5, AV.ip [I xk, I xn, I xv, I xtk, I xtv, AV.sl 3 (Ty.encs xtl) false, AV.sl 7 (Expr.encs l) false] 0, AV.ip (envC fenv) 0, I gn, I gf, AV.ip (lamC gl) 0, AV.ip (envC ge) 0]])) (zz)))]] [] [] (B true) ([.cells [I fuel, B false, I (steps + 1), .la 1 1, I 0, I 0, B false, .sl 1 (strs es) false, .sl 14 (Def.encs ds) false, I mk, I mn, I mv, I mtk, I mtv, .sl 3 (Ty.encs mtl) false, .sl 7 (Expr.encs ml) false, .ifc 96 (.lp 2 0), .la 3 2, .ip [] 0, .ip [] 0, I zz, I 0, .ip [] 0, .ip [] 0] [9, 10, 11, 12, 13, 14, 15], .arr 1 1 E, .cells [.sl 1 (ints cc) false, .sl 1 (ints ci) false, I used, I cu, I width] [], .arr 2 7 (List.take (Int.toNat ((R.length : Int) + 1 - 1)) (R ++ [[I 5, .ip (xE xk xn xv xtk xtv xtl l) 0, .ip (envC fenv) 0, I gn, I gf, .ip (lamC gl) 0, .ip (envC ge) 0]]))]) (q ((↑(List.length (R ++ [[I 5, .ip (xE xk xn xv xtk xtv xtl l) 0, .ip (envC fenv) 0, I gn, I gf, .ip (lamC gl) 0, .ip (envC ge) 0]])) : Int) = (R.length : Int) + 1) (q ((↑(List.length (R ++ [[I 5, .ip (xE xk xn xv xtk xtv xtl l) 0, .ip (envC fenv) 0, I gn, I gf, .ip (lamC gl) 0, .ip (envC ge) 0]])) : Int) = (R.length : Int) + 1) (qw ((R.length : Int) + 1 - 1) (q ((R.length : Int) + 1 - 1 = (R.length : Int)) (q (List.length R < List.length (R ++ [[I 5, .ip (xE xk xn xv xtk xtv xtl l) 0, .ip (envC fenv) 0, I gn, I gf, .ip (lamC gl) 0, .ip (envC ge) 0]])) (q ((R ++ [[I 5, .ip (xE xk xn xv xtk xtv xtl l) 0, .ip (envC fenv) 0, I gn, I gf, .ip (lamC gl) 0, .ip (envC ge) 0]])[List.length R]? = some (Fr.enc { kind := 5, expr := some (Expr.mk xk xn xv (Ty.mk xtk xtv xtl) l), env := fenv, fn := Vl.mk gn gf gl ge })) (qF (fuel ≤ steps) (q ((↑(List.length (R ++ [[I 5, .ip (xE xk xn xv xtk xtv xtl l) 0, .ip (envC fenv) 0, I gn, I gf, .ip (lamC gl) 0, .ip (envC ge) 0]])) : Int) = (R.length : Int) + 1) (qw ((R.length : Int) + 1 - 1) (q ((0 : Int) ≤ (0 : Int)) (q (0 ≤ (R.length : Int) + 1 - 1) (q ((R.length : Int) + 1 - 1 ≤ (↑(List.length (R ++ [[I 5, .ip (xE xk xn xv xtk xtv xtl l) 0, .ip (envC fenv) 0, I gn, I gf, .ip (lamC gl) 0, .ip (envC ge) 0]])) : Int)) (ob1 (hw) (ob1 (h (List.take (Int.toNat ((R.length : Int) + 1 - 1)) (R ++ [[I 5, .ip (xE xk xn xv xtk xtv xtl l) 0, .ip (envC fenv) 0, I gn, I gf, .ip (lamC gl) 0, .ip (envC ge) 0]])) (zz)) ob0)))))))))))))) (by first | rfl | (simp [*]; done)) (by (refine congrArg (fun x => [_, _, _, (.arr 2 7 x : AObj)]) hT))
end
end Go.Ae.N
namespace Go.Ae.N
open Go.Proofs
section
variable (fuel steps : Int) (es : List ByteArray) (ds : List Def) (mk mn mv mtk mtv : Int) (mtl : List Ty) (ml : List Expr) (E R : List (List AV)) (cc ci : List Int) (cu : Int)
 (env : List Vl) (wn wf : Int) (wl : Option Expr) (we : List Vl)
theorem move_const (used : Int) (n v tk tv : Int) (tl : List Ty) (l : List Expr) :
  SC 37 [.lp 0 0]
   [Mc fuel ⟨es, ds, .mk mk mn mv (.mk mtk mtv mtl) ml⟩ steps 1 1 0 0 false (some (.mk 0 n v (.mk tk tv tl) l)) env (.mk wn wf wl we), .arr 1 1 E, lists cc ci cu used 0, .arr 1 7 R]
   (B true) [Mc fuel ⟨es, ds, .mk mk mn mv (.mk mtk mtv mtl) ml⟩ steps 1 1 0 0 false none [] (.mk n 0 none []), .arr 1 1 E, lists cc ci cu used 0, .arr 1 7 R] := by
 have h := yield_ fuel steps es ds mk mn mv mtk mtv mtl ml E R cc ci cu used 0 (some (.mk 0 n v (.mk tk tv tl) l)) env wn wf wl we 0 0 false n 0 none []
 exact gF Tryz.func37 (rGs 5 [rS [(6, oC h)]]) (ob1 (h) ob0)
theorem move_var (used : Int) (n : Nat) (v tk tv : Int) (tl : List Ty) (l : List Expr) (vn vf : Int) (vl : Option Expr) (ve : List Vl) (hv : env[n]? = some (.mk vn vf vl ve)) (hn : n ≤ 9223372036854775807) :
  SC 37 [.lp 0 0]
   [Mc fuel ⟨es, ds, .mk mk mn mv (.mk mtk mtv mtl) ml⟩ steps 1 1 0 0 false (some (.mk 1 (n : Int) v (.mk tk tv tl) l)) env (.mk wn wf wl we), .arr 1 1 E, lists cc ci cu used 0, .arr 1 7 R]
   (B true) [Mc fuel ⟨es, ds, .mk mk mn mv (.mk mtk mtv mtl) ml⟩ steps 1 1 0 0 false none [] (.mk vn vf vl ve), .arr 1 1 E, lists cc ci cu used 0, .arr 1 7 R] := by
 have h := yield_ fuel steps es ds mk mn mv mtk mtv mtl ml E R cc ci cu used 0 (some (.mk 1 (n : Int) v (.mk tk tv tl) l)) env wn wf wl we 0 0 false vn vf vl ve
 have ha : SC 65 [.ip (envC env) 0, I (n : Int)] [] (.agg [I vn, I vf, .ip (lamC vl) 0, .ip (envC ve) 0]) [] := at_ env n vn vf vl ve hv hn
 clear hv
 exact gF Tryz.func37 (rGs 7 [rS [(9, oC ha), (10, oC h)]]) (ob1 (ha) (ob1 (h) ob0))
theorem move_fun (used : Int) (n v tk tv : Int) (tl : List Ty) (l : List Expr) (h0 : 0 ≤ n) (h1 : n ≤ 100000) :
  SC 37 [.lp 0 0]
   [Mc fuel ⟨es, ds, .mk mk mn mv (.mk mtk mtv mtl) ml⟩ steps 1 1 0 0 false (some (.mk 2 n v (.mk tk tv tl) l)) env (.mk wn wf wl we), .arr 1 1 E, lists cc ci cu used 0, .arr 1 7 R]
   (B true) [Mc fuel ⟨es, ds, .mk mk mn mv (.mk mtk mtv mtl) ml⟩ steps 1 1 0 0 false none [] (.mk 0 (n + 1) none []), .arr 1 1 E, lists cc ci cu used 0, .arr 1 7 R] := by
 have h := yield_ fuel steps es ds mk mn mv mtk mtv mtl ml E R cc ci cu used 0 (some (.mk 2 n v (.mk tk tv tl) l)) env wn wf wl we 0 0 false 0 (n + 1) none []
 exact gF Tryz.func37 (rGs 8 [rS [(5, .int (n + 1)), (7, oC h)]]) (qw (n + 1) (ob1 (h) ob0))
theorem move_lam (used : Int) (n v tk tv : Int) (tl : List Ty) (l : List Expr) :
  SC 37 [.lp 0 0]
   [Mc fuel ⟨es, ds, .mk mk mn mv (.mk mtk mtv mtl) ml⟩ steps 1 1 0 0 false (some (.mk 4 n v (.mk tk tv tl) l)) env (.mk wn wf wl we), .arr 1 1 E, lists cc ci cu used 0, .arr 1 7 R]
   (B true) [Mc fuel ⟨es, ds, .mk mk mn mv (.mk mtk mtv mtl) ml⟩ steps 1 1 0 0 false none [] (.mk 0 0 (some (.mk 4 n v (.mk tk tv tl) l)) env), .arr 1 1 E, lists cc ci cu used 0, .arr 1 7 R] := by
 have h := yield_ fuel steps es ds mk mn mv mtk mtv mtl ml E R cc ci cu used 0 (some (.mk 4 n v (.mk tk tv tl) l)) env wn wf wl we 0 0 false 0 0 (some (.mk 4 n v (.mk tk tv tl) l)) env
 exact gF Tryz.func37 (rGs 9 [rS [(7, oC h)]]) (ob1 (h) ob0)
theorem move_push3 (used : Int) (n v tk tv : Int) (tl : List Ty) (ak an av atk atv : Int) (atl : List Ty) (al xl : List Expr) (hR : R.length ≤ 4294967296) (hl : xl.length ≤ 4294967296) :
  SC 37 [.lp 0 0]
   [Mc fuel ⟨es, ds, .mk mk mn mv (.mk mtk mtv mtl) ml⟩ steps 1 1 0 0 false (some (.mk 3 n v (.mk tk tv tl) (.mk ak an av (.mk atk atv atl) al :: xl))) env (.mk wn wf wl we), .arr 1 1 E, lists cc ci cu used 0, .arr 1 7 R]
   (B true) [Mc fuel ⟨es, ds, .mk mk mn mv (.mk mtk mtv mtl) ml⟩ steps 1 2 0 0 false (some (.mk ak an av (.mk atk atv atl) al)) env (.mk wn wf wl we), .arr 1 1 E, lists cc ci cu used 0,
    .arr 2 7 (R ++ [(Fr.mk 0 (some (.mk 3 n v (.mk tk tv tl) (.mk ak an av (.mk atk atv atl) al :: xl))) env vZ).enc])] := by
 have h := push_ fuel steps es ds mk mn mv mtk mtv mtl ml E R cc ci cu used 0 (some (.mk 3 n v (.mk tk tv tl) (.mk ak an av (.mk atk atv atl) al :: xl))) env wn wf wl we 0 0 false 0 3 n v tk tv tl ak an av atk atv atl al xl hR hl
 exact gF Tryz.func37 (rGs 10 [rS [(2, oC h)]]) (ob1 (h) ob0)
theorem move_push5 (used : Int) (n v tk tv : Int) (tl : List Ty) (ak an av atk atv : Int) (atl : List Ty) (al xl : List Expr) (hR : R.length ≤ 4294967296) (hl : xl.length ≤ 4294967296) :
  SC 37 [.lp 0 0]
   [Mc fuel ⟨es, ds, .mk mk mn mv (.mk mtk mtv mtl) ml⟩ steps 1 1 0 0 false (some (.mk 5 n v (.mk tk tv tl) (.mk ak an av (.mk atk atv atl) al :: xl))) env (.mk wn wf wl we), .arr 1 1 E, lists cc ci cu used 0, .arr 1 7 R]
   (B true) [Mc fuel ⟨es, ds, .mk mk mn mv (.mk mtk mtv mtl) ml⟩ steps 1 2 0 0 false (some (.mk ak an av (.mk atk atv atl) al)) env (.mk wn wf wl we), .arr 1 1 E, lists cc ci cu used 0,
    .arr 2 7 (R ++ [(Fr.mk 2 (some (.mk 5 n v (.mk tk tv tl) (.mk ak an av (.mk atk atv atl) al :: xl))) env vZ).enc])] := by
 have h := push_ fuel steps es ds mk mn mv mtk mtv mtl ml E R cc ci cu used 0 (some (.mk 5 n v (.mk tk tv tl) (.mk ak an av (.mk atk atv atl) al :: xl))) env wn wf wl we 0 0 false 2 5 n v tk tv tl ak an av atk atv atl al xl hR hl
 exact gF Tryz.func37 (rGs 11 [rS [(2, oC h)]]) (ob1 (h) ob0)
theorem move_push6 (used : Int) (n v tk tv : Int) (tl : List Ty) (ak an av atk atv : Int) (atl : List Ty) (al xl : List Expr) (hR : R.length ≤ 4294967296) (hl : xl.length ≤ 4294967296) :
  SC 37 [.lp 0 0]
   [Mc fuel ⟨es, ds, .mk mk mn mv (.mk mtk mtv mtl) ml⟩ steps 1 1 0 0 false (some (.mk 6 n v (.mk tk tv tl) (.mk ak an av (.mk atk atv atl) al :: xl))) env (.mk wn wf wl we), .arr 1 1 E, lists cc ci cu used 0, .arr 1 7 R]
   (B true) [Mc fuel ⟨es, ds, .mk mk mn mv (.mk mtk mtv mtl) ml⟩ steps 1 2 0 0 false (some (.mk ak an av (.mk atk atv atl) al)) env (.mk wn wf wl we), .arr 1 1 E, lists cc ci cu used 0,
    .arr 2 7 (R ++ [(Fr.mk 3 (some (.mk 6 n v (.mk tk tv tl) (.mk ak an av (.mk atk atv atl) al :: xl))) env vZ).enc])] := by
 have h := push_ fuel steps es ds mk mn mv mtk mtv mtl ml E R cc ci cu used 0 (some (.mk 6 n v (.mk tk tv tl) (.mk ak an av (.mk atk atv atl) al :: xl))) env wn wf wl we 0 0 false 3 6 n v tk tv tl ak an av atk atv atl al xl hR hl
 exact gF Tryz.func37 (rGs 12 [rS [(2, oC h)]]) (ob1 (h) ob0)
theorem move_push11 (used : Int) (n v tk tv : Int) (tl : List Ty) (ak an av atk atv : Int) (atl : List Ty) (al xl : List Expr) (hR : R.length ≤ 4294967296) (hl : xl.length ≤ 4294967296) :
  SC 37 [.lp 0 0]
   [Mc fuel ⟨es, ds, .mk mk mn mv (.mk mtk mtv mtl) ml⟩ steps 1 1 0 0 false (some (.mk 11 n v (.mk tk tv tl) (.mk ak an av (.mk atk atv atl) al :: xl))) env (.mk wn wf wl we), .arr 1 1 E, lists cc ci cu used 0, .arr 1 7 R]
   (B true) [Mc fuel ⟨es, ds, .mk mk mn mv (.mk mtk mtv mtl) ml⟩ steps 1 2 0 0 false (some (.mk ak an av (.mk atk atv atl) al)) env (.mk wn wf wl we), .arr 1 1 E, lists cc ci cu used 0,
    .arr 2 7 (R ++ [(Fr.mk 4 (some (.mk 11 n v (.mk tk tv tl) (.mk ak an av (.mk atk atv atl) al :: xl))) env vZ).enc])] := by
 have h := push_ fuel steps es ds mk mn mv mtk mtv mtl ml E R cc ci cu used 0 (some (.mk 11 n v (.mk tk tv tl) (.mk ak an av (.mk atk atv atl) al :: xl))) env wn wf wl we 0 0 false 4 11 n v tk tv tl ak an av atk atv atl al xl hR hl
 exact gF Tryz.func37 (rGs 13 [rS [(2, oC h)]]) (ob1 (h) ob0)
theorem move_push12 (used : Int) (n v tk tv : Int) (tl : List Ty) (ak an av atk atv : Int) (atl : List Ty) (al xl : List Expr) (hR : R.length ≤ 4294967296) (hl : xl.length ≤ 4294967296) :
  SC 37 [.lp 0 0]
   [Mc fuel ⟨es, ds, .mk mk mn mv (.mk mtk mtv mtl) ml⟩ steps 1 1 0 0 false (some (.mk 12 n v (.mk tk tv tl) (.mk ak an av (.mk atk atv atl) al :: xl))) env (.mk wn wf wl we), .arr 1 1 E, lists cc ci cu used 0, .arr 1 7 R]
   (B true) [Mc fuel ⟨es, ds, .mk mk mn mv (.mk mtk mtv mtl) ml⟩ steps 1 2 0 0 false (some (.mk ak an av (.mk atk atv atl) al)) env (.mk wn wf wl we), .arr 1 1 E, lists cc ci cu used 0,
    .arr 2 7 (R ++ [(Fr.mk 5 (some (.mk 12 n v (.mk tk tv tl) (.mk ak an av (.mk atk atv atl) al :: xl))) env vZ).enc])] := by
 have h := push_ fuel steps es ds mk mn mv mtk mtv mtl ml E R cc ci cu used 0 (some (.mk 12 n v (.mk tk tv tl) (.mk ak an av (.mk atk atv atl) al :: xl))) env wn wf wl we 0 0 false 5 12 n v tk tv tl ak an av atk atv atl al xl hR hl
 exact gF Tryz.func37 (rGs 14 [rS [(2, oC h)]]) (ob1 (h) ob0)
theorem move_more (used : Int) (k n v tk tv : Int) (tl : List Ty) (l : List Expr) (hk : k = 7 ∨ k = 8 ∨ k = 10) (hf : fuel ≤ steps) :
  SC 37 [.lp 0 0]
   [Mc fuel ⟨es, ds, .mk mk mn mv (.mk mtk mtv mtl) ml⟩ steps 1 1 0 0 false (some (.mk k n v (.mk tk tv tl) l)) env (.mk wn wf wl we), .arr 1 1 E, lists cc ci cu used 0, .arr 1 7 R]
   (B false) [Mc fuel ⟨es, ds, .mk mk mn mv (.mk mtk mtv mtl) ml⟩ steps 1 1 1 0 false (some (.mk k n v (.mk tk tv tl) l)) env (.mk wn wf wl we), .arr 1 1 E, lists cc ci cu used 0, .arr 1 7 R] := by
 have h := stop_ fuel steps es ds mk mn mv mtk mtv mtl ml E R cc ci cu used 0 (some (.mk k n v (.mk tk tv tl) l)) env wn wf wl we 0 0 false 1
 rcases hk with rfl | rfl | rfl
 ·exact gF Tryz.func37 (rGs 14 [rS [(8, .bit true)], rS [(1, oC h)]]) (qT (fuel ≤ steps) (ob1 (h) ob0))
 ·exact gF Tryz.func37 (rGs 14 [rS [(8, .bit true)], rS [(1, oC h)]]) (qT (fuel ≤ steps) (ob1 (h) ob0))
 ·exact gF Tryz.func37 (rGs 14 [rS [(8, .bit true)], rS [(1, oC h)]]) (qT (fuel ≤ steps) (ob1 (h) ob0))
theorem move_want (used : Nat) (n v tk tv : Int) (tl : List Ty) (l : List Expr) (hf : steps < fuel) (hu : used = cc.length) (hl : cc.length ≤ 4294967296) :
  SC 37 [.lp 0 0]
   [Mc fuel ⟨es, ds, .mk mk mn mv (.mk mtk mtv mtl) ml⟩ steps 1 1 0 0 false (some (.mk 8 n v (.mk tk tv tl) l)) env (.mk wn wf wl we), .arr 1 1 E, lists cc ci cu used 0, .arr 1 7 R]
   (B false) [Mc fuel ⟨es, ds, .mk mk mn mv (.mk mtk mtv mtl) ml⟩ steps 1 1 2 0 false (some (.mk 8 n v (.mk tk tv tl) l)) env (.mk wn wf wl we), .arr 1 1 E, lists cc ci cu used v, .arr 1 7 R] := by
 have hp := pick_want cc ci cu used 0 v hu hl
 have h := answered1 fuel steps es ds mk mn mv mtk mtv mtl ml E R cc ci cu used v (some (.mk 8 n v (.mk tk tv tl) l)) env wn wf wl we 0 0 false 0
 exact gF Tryz.func37 (rGs 14 [rS [(8, .bit false)], rG, rG, rG, rS [(11, oC hp), (14, oC h)]]) (qF (fuel ≤ steps) (ob1 (hp) (ob1 (h) ob0)))
theorem move_wrong (used : Nat) (n v c tk tv : Int) (tl : List Ty) (l : List Expr) (hf : steps < fuel) (hc : cc[used]? = some c) (hl : cc.length ≤ 4294967296) (hw : c < 0 ∨ v ≤ c) :
  SC 37 [.lp 0 0]
   [Mc fuel ⟨es, ds, .mk mk mn mv (.mk mtk mtv mtl) ml⟩ steps 1 1 0 0 false (some (.mk 8 n v (.mk tk tv tl) l)) env (.mk wn wf wl we), .arr 1 1 E, lists cc ci cu used 0, .arr 1 7 R]
   (B false) [Mc fuel ⟨es, ds, .mk mk mn mv (.mk mtk mtv mtl) ml⟩ steps 1 1 0 0 true (some (.mk 8 n v (.mk tk tv tl) l)) env (.mk wn wf wl we), .arr 1 1 E, lists cc ci cu used 0, .arr 1 7 R] := by
 have hp := pick_wrong cc ci cu used 0 v c hc hl hw
 have h := answered2 fuel steps es ds mk mn mv mtk mtv mtl ml E R cc ci cu used 0 (some (.mk 8 n v (.mk tk tv tl) l)) env wn wf wl we 0 0 false 0
 clear hc
 exact gF Tryz.func37 (rGs 14 [rS [(8, .bit false)], rG, rG, rG, rS [(11, oC hp), (14, oC h)]]) (qF (fuel ≤ steps) (ob1 (hp) (ob1 (h) ob0)))
theorem move_fine (used : Nat) (n v c tk tv : Int) (tl : List Ty) (l : List Expr) (hf : steps < fuel) (hs : 0 ≤ steps ∧ steps ≤ 10000000) (hc : cc[used]? = some c) (hl : cc.length ≤ 4294967296) (h0 : 0 ≤ c) (h1 : c < v) :
  SC 37 [.lp 0 0]
   [Mc fuel ⟨es, ds, .mk mk mn mv (.mk mtk mtv mtl) ml⟩ steps 1 1 0 0 false (some (.mk 8 n v (.mk tk tv tl) l)) env (.mk wn wf wl we), .arr 1 1 E, lists cc ci cu used 0, .arr 1 7 R]
   (B true) [Mc fuel ⟨es, ds, .mk mk mn mv (.mk mtk mtv mtl) ml⟩ (steps + 1) 1 1 0 0 false none [] (.mk c 0 none []), .arr 1 1 E, lists cc ci cu ((used : Int) + 1) 0, .arr 1 7 R] := by
 have hp := pick_fine cc ci cu used 0 v c hc hl h0 h1
 have h := answered0 fuel steps es ds mk mn mv mtk mtv mtl ml E R cc ci cu ((used : Int) + 1) 0 (some (.mk 8 n v (.mk tk tv tl) l)) env wn wf wl we 0 0 false c hs
 clear hc
 exact gF Tryz.func37 (rGs 14 [rS [(8, .bit false)], rG, rG, rG, rS [(11, oC hp), (14, oC h)]]) (qF (fuel ≤ steps) (ob1 (hp) (ob1 (h) ob0)))
theorem move_int (used : Int) (n v tk tv : Int) (tl : List Ty) (l : List Expr) :
  SC 37 [.lp 0 0]
   [Mc fuel ⟨es, ds, .mk mk mn mv (.mk mtk mtv mtl) ml⟩ steps 1 1 0 0 false (some (.mk 9 n v (.mk tk tv tl) l)) env (.mk wn wf wl we), .arr 1 1 E, lists cc ci cu used 0, .arr 1 7 R]
   (B true) [Mc fuel ⟨es, ds, .mk mk mn mv (.mk mtk mtv mtl) ml⟩ steps 1 1 0 0 false none [] (.mk n 0 none []), .arr 1 1 E, lists cc ci cu used 0, .arr 1 7 R] := by
 have hp := lint_ cc ci cu used 0 n
 have h := yield_ fuel steps es ds mk mn mv mtk mtv mtl ml E R cc ci cu used 0 (some (.mk 9 n v (.mk tk tv tl) l)) env wn wf wl we 0 0 false n 0 none []
 exact gF Tryz.func37 (rGs 6 [rS [(11, oC hp), (13, oC h)]]) (ob1 (hp) (ob1 (h) ob0))
theorem move_awant (c is : List Int) (ui : Nat) (used : Int) (n v tk tv : Int) (tl : List Ty) (l : List Expr) (hf : steps < fuel) (hu : ui = is.length) (hl : is.length ≤ 4294967296) :
  SC 37 [.lp 0 0]
   [Mc fuel ⟨es, ds, .mk mk mn mv (.mk mtk mtv mtl) ml⟩ steps 1 1 0 0 false (some (.mk 10 n v (.mk tk tv tl) l)) env (.mk wn wf wl we), .arr 1 1 E, lists c is (ui) used 0, .arr 1 7 R]
   (B false) [Mc fuel ⟨es, ds, .mk mk mn mv (.mk mtk mtv mtl) ml⟩ steps 1 1 2 0 false (some (.mk 10 n v (.mk tk tv tl) l)) env (.mk wn wf wl we), .arr 1 1 E, lists c is (ui) used 0, .arr 1 7 R] := by
 have hp := any_want c is ui used 0 hu hl
 have h := answered1 fuel steps es ds mk mn mv mtk mtv mtl ml E R c is (ui) used 0 (some (.mk 10 n v (.mk tk tv tl) l)) env wn wf wl we 0 0 false 0
 exact gF Tryz.func37 (rGs 14 [rS [(8, .bit false)], rG, rG, rS [(5, oC hp), (8, oC h)]]) (qF (fuel ≤ steps) (ob1 (hp) (ob1 (h) ob0)))
theorem move_awrong (c is : List Int) (ui : Nat) (used : Int) (n v x tk tv : Int) (tl : List Ty) (l : List Expr) (hf : steps < fuel) (hc : is[ui]? = some x) (hl : is.length ≤ 4294967296) (hw : x < -1099511627776 ∨ 1099511627776 < x) :
  SC 37 [.lp 0 0]
   [Mc fuel ⟨es, ds, .mk mk mn mv (.mk mtk mtv mtl) ml⟩ steps 1 1 0 0 false (some (.mk 10 n v (.mk tk tv tl) l)) env (.mk wn wf wl we), .arr 1 1 E, lists c is (ui) used 0, .arr 1 7 R]
   (B false) [Mc fuel ⟨es, ds, .mk mk mn mv (.mk mtk mtv mtl) ml⟩ steps 1 1 0 0 true (some (.mk 10 n v (.mk tk tv tl) l)) env (.mk wn wf wl we), .arr 1 1 E, lists c is (ui) used 0, .arr 1 7 R] := by
 have hp := any_wrong c is ui used 0 x hc hl hw
 have h := answered2 fuel steps es ds mk mn mv mtk mtv mtl ml E R c is (ui) used 0 (some (.mk 10 n v (.mk tk tv tl) l)) env wn wf wl we 0 0 false 0
 clear hc
 exact gF Tryz.func37 (rGs 14 [rS [(8, .bit false)], rG, rG, rS [(5, oC hp), (8, oC h)]]) (qF (fuel ≤ steps) (ob1 (hp) (ob1 (h) ob0)))
theorem move_afine (c is : List Int) (ui : Nat) (used : Int) (n v x tk tv : Int) (tl : List Ty) (l : List Expr) (hf : steps < fuel) (hs : 0 ≤ steps ∧ steps ≤ 10000000) (hc : is[ui]? = some x) (hl : is.length ≤ 4294967296) (h0 : -1099511627776 ≤ x) (h1 : x ≤ 1099511627776) :
  SC 37 [.lp 0 0]
   [Mc fuel ⟨es, ds, .mk mk mn mv (.mk mtk mtv mtl) ml⟩ steps 1 1 0 0 false (some (.mk 10 n v (.mk tk tv tl) l)) env (.mk wn wf wl we), .arr 1 1 E, lists c is (ui) used 0, .arr 1 7 R]
   (B true) [Mc fuel ⟨es, ds, .mk mk mn mv (.mk mtk mtv mtl) ml⟩ (steps + 1) 1 1 0 0 false none [] (.mk x 0 none []), .arr 1 1 E, lists c is ((ui : Int) + 1) used 0, .arr 1 7 R] := by
 have hp := any_fine c is ui used 0 x hc hl h0 h1
 have h := answered0 fuel steps es ds mk mn mv mtk mtv mtl ml E R c is ((ui : Int) + 1) used 0 (some (.mk 10 n v (.mk tk tv tl) l)) env wn wf wl we 0 0 false x hs
 clear hc
 exact gF Tryz.func37 (rGs 14 [rS [(8, .bit false)], rG, rG, rS [(5, oC hp), (8, oC h)]]) (qF (fuel ≤ steps) (ob1 (hp) (ob1 (h) ob0)))
theorem move_full (used : Int) (n v tk tv : Int) (tl : List Ty) (l : List Expr) (hf : steps < fuel) (hE : 4096 ≤ E.length) (hE2 : E.length ≤ 100000) :
  SC 37 [.lp 0 0]
   [Mc fuel ⟨es, ds, .mk mk mn mv (.mk mtk mtv mtl) ml⟩ steps 1 1 0 0 false (some (.mk 7 n v (.mk tk tv tl) l)) env (.mk wn wf wl we), .arr 1 1 E, lists cc ci cu used 0, .arr 1 7 R]
   (B false) [Mc fuel ⟨es, ds, .mk mk mn mv (.mk mtk mtv mtl) ml⟩ steps 1 1 1 0 false (some (.mk 7 n v (.mk tk tv tl) l)) env (.mk wn wf wl we), .arr 1 1 E, lists cc ci cu used 0, .arr 1 7 R] := by
 have h := stop_ fuel steps es ds mk mn mv mtk mtv mtl ml E R cc ci cu used 0 (some (.mk 7 n v (.mk tk tv tl) l)) env wn wf wl we 0 0 false 1
 exact gF Tryz.func37 (rGs 14 [rS [(8, .bit false)], rG, rG, rG, rS [(5, .bit true)], rS [(1, oC h)]]) (qF (fuel ≤ steps) (qT (4096 ≤ (E.length : Int)) (ob1 (h) ob0)))
theorem move_event (used : Int) (n v tk tv : Int) (tl : List Ty) (ak an av atk atv : Int) (atl : List Ty) (al xl : List Expr) (hf : steps < fuel) (hs : 0 ≤ steps ∧ steps ≤ 10000000) (hE : E.length < 4096) (hl : xl.length ≤ 4294967296) :
  SC 37 [.lp 0 0]
   [Mc fuel ⟨es, ds, .mk mk mn mv (.mk mtk mtv mtl) ml⟩ steps 1 1 0 0 false (some (.mk 7 n v (.mk tk tv tl) (.mk ak an av (.mk atk atv atl) al :: xl))) env (.mk wn wf wl we), .arr 1 1 E, lists cc ci cu used 0, .arr 1 7 R]
   (B true) [Mc fuel ⟨es, ds, .mk mk mn mv (.mk mtk mtv mtl) ml⟩ (steps + 1) 2 1 0 0 false (some (.mk ak an av (.mk atk atv atl) al)) env (.mk wn wf wl we), .arr 2 1 (E ++ [[I n]]), lists cc ci cu used 0, .arr 1 7 R] := by
 have hF : Fits (E.length + 1) E.length 8 := by apply Fits.of; omega
 have hp := event_ cc ci cu used 0 n
 have h := fun E => goes_ fuel (steps + 1) es ds mk mn mv mtk mtv mtl ml E R cc ci cu used 0 (some (.mk 7 n v (.mk tk tv tl) (.mk ak an av (.mk atk atv atl) al :: xl))) env wn wf wl we 0 0 false (some (.mk ak an av (.mk atk atv atl) al)) env
 exact gF Tryz.func37 (rGs 14 [rS [(8, .bit false)], rG, rG, rG, rS [(5, .bit false)], rS [(4, .int (steps + 1))], rG, rS [(10, oC hp)], rS [(5, .row 0 (xE ak an av atk atv atl al)), (10, oC (h (E ++ [[I n]])))]]) (qF (fuel ≤ steps) (qF (4096 ≤ (E.length : Int)) (qw (steps + 1) (q (Fits (List.length E + 1) (List.length E) 8) (ob1 (hp) (qI 0 (qC0 ((xE ak an av atk atv atl al)) (Expr.encs xl) (ob1 (h (E ++ [[I n]])) ob0))))))))
end
theorem move_back1 (fuel steps : Int) (es : List ByteArray) (ds : List Def) (mk mn mv mtk mtv : Int) (mtl : List Ty) (ml : List Expr) (E R : List (List AV)) (cc ci : List Int) (cu : Int)
 (env : List Vl) (wn wf : Int) (wl : Option Expr) (we : List Vl) (used : Int) (b : Bool) (steps' en value : Int) (e2 : Option Expr) (env2 : List Vl) (xn xf : Int) (xl : Option Expr) (xe : List Vl) (R' : List (List AV))
  (h : SC 63 [.lp 0 0]
   [Mc fuel ⟨es, ds, .mk mk mn mv (.mk mtk mtv mtl) ml⟩ steps 1 1 0 0 false none env (.mk wn wf wl we), .arr 1 1 E, lists cc ci cu used 0, .arr 1 7 R]
   (B b) [Mc fuel ⟨es, ds, .mk mk mn mv (.mk mtk mtv mtl) ml⟩ steps' 1 1 en value false e2 env2 (.mk xn xf xl xe), .arr 1 1 E, lists cc ci cu used 0, .arr 1 7 R']) :
  SC 37 [.lp 0 0]
   [Mc fuel ⟨es, ds, .mk mk mn mv (.mk mtk mtv mtl) ml⟩ steps 1 1 0 0 false none env (.mk wn wf wl we), .arr 1 1 E, lists cc ci cu used 0, .arr 1 7 R]
   (B b) [Mc fuel ⟨es, ds, .mk mk mn mv (.mk mtk mtv mtl) ml⟩ steps' 1 1 en value false e2 env2 (.mk xn xf xl xe), .arr 1 1 E, lists cc ci cu used 0, .arr 1 7 R'] := by
 cases b with
 | true => exact gF Tryz.func37 [rG, rG, rS [(1, oC h)]] (ob1 (h) ob0)
 | false => exact gF Tryz.func37 [rG, rG, rS [(1, oC h)]] (ob1 (h) ob0)
theorem move_back2 (fuel steps : Int) (es : List ByteArray) (ds : List Def) (mk mn mv mtk mtv : Int) (mtl : List Ty) (ml : List Expr) (E R : List (List AV)) (cc ci : List Int) (cu : Int)
 (env : List Vl) (wn wf : Int) (wl : Option Expr) (we : List Vl) (used : Int) (b : Bool) (steps' en value : Int) (e2 : Option Expr) (env2 : List Vl) (xn xf : Int) (xl : Option Expr) (xe : List Vl) (R' : List (List AV))
  (h : SC 63 [.lp 0 0]
   [Mc fuel ⟨es, ds, .mk mk mn mv (.mk mtk mtv mtl) ml⟩ steps 1 1 0 0 false none env (.mk wn wf wl we), .arr 1 1 E, lists cc ci cu used 0, .arr 1 7 R]
   (B b) [Mc fuel ⟨es, ds, .mk mk mn mv (.mk mtk mtv mtl) ml⟩ steps' 1 2 en value false e2 env2 (.mk xn xf xl xe), .arr 1 1 E, lists cc ci cu used 0, .arr 2 7 R']) :
  SC 37 [.lp 0 0]
   [Mc fuel ⟨es, ds, .mk mk mn mv (.mk mtk mtv mtl) ml⟩ steps 1 1 0 0 false none env (.mk wn wf wl we), .arr 1 1 E, lists cc ci cu used 0, .arr 1 7 R]
   (B b) [Mc fuel ⟨es, ds, .mk mk mn mv (.mk mtk mtv mtl) ml⟩ steps' 1 2 en value false e2 env2 (.mk xn xf xl xe), .arr 1 1 E, lists cc ci cu used 0, .arr 2 7 R'] := by
 cases b with
 | true => exact gF Tryz.func37 [rG, rG, rS [(1, oC h)]] (ob1 (h) ob0)
 | false => exact gF Tryz.func37 [rG, rG, rS [(1, oC h)]] (ob1 (h) ob0)
end Go.Ae.N
namespace Go.Ae.N
open Go.Proofs
def objs (p : Prog) (fuel : Int) (ch is : List Int) (s : MS) (g1 g3 : Nat) (en value width : Int) (wrong : Bool) : List AObj :=
 [Mc fuel p s.steps g1 g3 en value wrong s.expr s.env s.val, .arr g1 1 (ints s.ev), lists ch is (s.ui) s.used width, .arr g3 7 (Fr.encs s.fr.reverse)]
theorem encs_top (f : Fr) (l : List Fr) : Fr.encs (f :: l).reverse = Fr.encs l.reverse ++ [f.enc] := by
 rw [List.reverse_cons, Fr.encs_append]; rfl
structure Small (p : Prog) (fuel : Int) (ch is : List Int) (s : MS) : Prop where
 s0 : 0 ≤ s.steps
 s1 : s.steps ≤ 10000000
 fr : s.fr.length ≤ 4294967296
 ev : s.ev.length ≤ 4096
 ch : ch.length ≤ 4294967296
 is : is.length ≤ 4294967296
 ds : p.defs.length ≤ 4294967296
theorem move_go {p : Prog} {fuel : Int} {ch is : List Int} {s s' : MS} (h : Mv p fuel ch is s (.go s')) (hb : Small p fuel ch is s) :
  SC 37 [.lp 0 0] (objs p fuel ch is s 1 1 0 0 0 false) (B true) (objs p fuel ch is s' 1 1 0 0 0 false) ∨
  SC 37 [.lp 0 0] (objs p fuel ch is s 1 1 0 0 0 false) (B true) (objs p fuel ch is s' 2 1 0 0 0 false) ∨
  SC 37 [.lp 0 0] (objs p fuel ch is s 1 1 0 0 0 false) (B true) (objs p fuel ch is s' 1 2 0 0 0 false) := by
 obtain ⟨es, ds, mk, mn, mv, ⟨mtk, mtv, mtl⟩, ml⟩ := p
 obtain ⟨b1, b2, b3, b4, b5, b5i, b6⟩ := hb
 have hrl : ∀ fr : List Fr, (Fr.encs fr.reverse).length = fr.length := fun fr => by simp
 generalize ho : Out.go s' = o at h
 cases h with
 | @const st ev fr n v ty l env val us ui =>
  obtain ⟨tk, tv, tl⟩ := ty; obtain ⟨wn, wf, wl, we⟩ := val
  cases ho
  exact .inl (by apply move_const <;> first | assumption | exact ⟨b1, b2⟩)
 | @var st ev fr n v ty l env val us ui w h hn =>
  obtain ⟨tk, tv, tl⟩ := ty; obtain ⟨wn, wf, wl, we⟩ := val; obtain ⟨vn, vf, vl, ve⟩ := w
  cases ho
  exact .inl (by apply move_var <;> first | assumption | exact ⟨b1, b2⟩)
 | @fn st ev fr n v ty l env val us ui h0 h1 =>
  obtain ⟨tk, tv, tl⟩ := ty; obtain ⟨wn, wf, wl, we⟩ := val
  cases ho
  exact .inl (by apply move_fun <;> first | assumption | exact ⟨b1, b2⟩)
 | @lam st ev fr n v ty l env val us ui =>
  obtain ⟨tk, tv, tl⟩ := ty; obtain ⟨wn, wf, wl, we⟩ := val
  cases ho
  exact .inl (by apply move_lam <;> first | assumption | exact ⟨b1, b2⟩)
 | @app st ev fr n v ty a l env val us ui hl =>
  obtain ⟨tk, tv, tl⟩ := ty; obtain ⟨wn, wf, wl, we⟩ := val; obtain ⟨ak, an, av, ⟨atk, atv, atl⟩, al⟩ := a
  cases ho
  have := move_push3 fuel st es ds mk mn mv mtk mtv mtl ml (ints ev) (Fr.encs fr.reverse) ch is (ui) env wn wf wl we us n v tk tv tl ak an av atk atv atl al l (by rw [hrl]; exact b3) (by omega)
  rw [← encs_top] at this
  exact .inr (.inr this)
 | @lt st ev fr n v ty a l env val us ui hl =>
  obtain ⟨tk, tv, tl⟩ := ty; obtain ⟨wn, wf, wl, we⟩ := val; obtain ⟨ak, an, av, ⟨atk, atv, atl⟩, al⟩ := a
  cases ho
  have := move_push5 fuel st es ds mk mn mv mtk mtv mtl ml (ints ev) (Fr.encs fr.reverse) ch is (ui) env wn wf wl we us n v tk tv tl ak an av atk atv atl al l (by rw [hrl]; exact b3) (by omega)
  rw [← encs_top] at this
  exact .inr (.inr this)
 | @cs st ev fr n v ty a l env val us ui hl =>
  obtain ⟨tk, tv, tl⟩ := ty; obtain ⟨wn, wf, wl, we⟩ := val; obtain ⟨ak, an, av, ⟨atk, atv, atl⟩, al⟩ := a
  cases ho
  have := move_push6 fuel st es ds mk mn mv mtk mtv mtl ml (ints ev) (Fr.encs fr.reverse) ch is (ui) env wn wf wl we us n v tk tv tl ak an av atk atv atl al l (by rw [hrl]; exact b3) (by omega)
  rw [← encs_top] at this
  exact .inr (.inr this)
 | @fine st ev fr n v ty l env val us ui c hf hc h0 h1 =>
  obtain ⟨tk, tv, tl⟩ := ty; obtain ⟨wn, wf, wl, we⟩ := val
  cases ho
  exact .inl (by apply move_fine <;> first | assumption | exact ⟨b1, b2⟩)
 | @event st ev fr n v ty a l env val us ui hf he hl =>
  obtain ⟨tk, tv, tl⟩ := ty; obtain ⟨wn, wf, wl, we⟩ := val; obtain ⟨ak, an, av, ⟨atk, atv, atl⟩, al⟩ := a
  cases ho
  have := move_event fuel st es ds mk mn mv mtk mtv mtl ml (ints ev) (Fr.encs fr.reverse) ch is (ui) env wn wf wl we us n v tk tv tl ak an av atk atv atl al l hf ⟨b1, b2⟩ (by simpa using he) (by omega)
  rw [show ints ev ++ [[I n]] = ints (ev ++ [n]) by rw [ints_append]; rfl] at this
  exact .inr (.inl this)
 | @arg st ev fr n v ty a b env fn env' val us ui =>
  obtain ⟨tk, tv, tl⟩ := ty; obtain ⟨wn, wf, wl, we⟩ := val; obtain ⟨bk, bn, bv, ⟨btk, btv, btl⟩, bl⟩ := b; obtain ⟨gn, gf, gl, ge⟩ := fn
  cases ho
  have := back_arg fuel st es ds mk mn mv mtk mtv mtl ml (ints ev) (Fr.encs fr.reverse) ch is (ui) us 0 env' wn wf wl we n v tk tv tl a bk bn bv btk btv btl bl env gn gf gl ge (by rw [hrl]; simp at b3; omega)
  have := move_back1 (h := this)
  rw [← encs_top, ← encs_top] at this
  exact .inl this
 | @blet st ev fr n v ty a b env fn env' val us ui hf =>
  obtain ⟨tk, tv, tl⟩ := ty; obtain ⟨wn, wf, wl, we⟩ := val; obtain ⟨bk, bn, bv, ⟨btk, btv, btl⟩, bl⟩ := b; obtain ⟨gn, gf, gl, ge⟩ := fn
  cases ho
  have := back_let fuel st es ds mk mn mv mtk mtv mtl ml (ints ev) (Fr.encs fr.reverse) ch is (ui) us 0 env' wn wf wl we n v tk tv tl a bk bn bv btk btv btl bl env gn gf gl ge (by rw [hrl]; simp at b3; omega) hf ⟨b1, b2⟩
  have := move_back2 (h := this)
  rw [← encs_top] at this
  exact .inr (.inr this)
 | @bcase st ev fr n v ty l env fn env' w wf wl we us ui b hf hl hw =>
  obtain ⟨tk, tv, tl⟩ := ty; obtain ⟨bk, bn, bv, ⟨btk, btv, btl⟩, bl⟩ := b; obtain ⟨gn, gf, gl, ge⟩ := fn
  cases ho
  have := back_case fuel st es ds mk mn mv mtk mtv mtl ml (ints ev) (Fr.encs fr.reverse) ch is (ui) us 0 env' wf wl we w n v tk tv tl l bk bn bv btk btv btl bl env gn gf gl ge (by rw [hrl]; simp at b3; omega) hf ⟨b1, b2⟩ (by omega) hw
  have := move_back2 (h := this)
  rw [← encs_top] at this
  exact .inr (.inr this)
 | @bfun st ev fr i gl ge env' val us ui d hf hd =>
  obtain ⟨nm, ⟨pk, pv, pl⟩, ⟨rk, rv, rl⟩, ⟨bk, bn, bv, ⟨btk, btv, btl⟩, bl⟩⟩ := d; obtain ⟨wn, wf, wl, we⟩ := val
  cases ho
  have := back_fun fuel st es ds mk mn mv mtk mtv mtl ml (ints ev) (Fr.encs fr.reverse) ch is (ui) us 0 env' wn wf wl we i nm pk pv pl rk rv rl bk bn bv btk btv btl bl gl ge (by rw [hrl]; simp at b3; omega) hf ⟨b1, b2⟩ b6 hd
  have := move_back2 (h := this)
  rw [← encs_top] at this
  exact .inr (.inr this)
 | @bclo st ev fr n v ty b ge env' val us ui hf =>
  obtain ⟨tk, tv, tl⟩ := ty; obtain ⟨wn, wf, wl, we⟩ := val; obtain ⟨bk, bn, bv, ⟨btk, btv, btl⟩, bl⟩ := b
  cases ho
  have := back_clo fuel st es ds mk mn mv mtk mtv mtl ml (ints ev) (Fr.encs fr.reverse) ch is (ui) us 0 env' wn wf wl we n v tk tv tl bk bn bv btk btv btl bl ge (by rw [hrl]; simp at b3; omega) hf ⟨b1, b2⟩
  have := move_back2 (h := this)
  rw [← encs_top] at this
  exact .inr (.inr this)
 | @int st ev fr n v ty l env val us ui =>
  obtain ⟨tk, tv, tl⟩ := ty; obtain ⟨wn, wf, wl, we⟩ := val
  cases ho
  exact .inl (by apply move_int <;> first | assumption | exact ⟨b1, b2⟩)
 | @afine st ev fr n v ty l env val us ui x hf hc h0 h1 =>
  obtain ⟨tk, tv, tl⟩ := ty; obtain ⟨wn, wf, wl, we⟩ := val
  cases ho
  exact .inl (by apply move_afine <;> first | assumption | exact ⟨b1, b2⟩)
 | @add st ev fr n v ty a l env val us ui hl =>
  obtain ⟨tk, tv, tl⟩ := ty; obtain ⟨wn, wf, wl, we⟩ := val; obtain ⟨ak, an, av, ⟨atk, atv, atl⟩, al⟩ := a
  cases ho
  have := move_push11 fuel st es ds mk mn mv mtk mtv mtl ml (ints ev) (Fr.encs fr.reverse) ch is (ui) env wn wf wl we us n v tk tv tl ak an av atk atv atl al l (by rw [hrl]; exact b3) (by omega)
  rw [← encs_top] at this
  exact .inr (.inr this)
 | @less st ev fr n v ty a l env val us ui hl =>
  obtain ⟨tk, tv, tl⟩ := ty; obtain ⟨wn, wf, wl, we⟩ := val; obtain ⟨ak, an, av, ⟨atk, atv, atl⟩, al⟩ := a
  cases ho
  have := move_push12 fuel st es ds mk mn mv mtk mtv mtl ml (ints ev) (Fr.encs fr.reverse) ch is (ui) env wn wf wl we us n v tk tv tl ak an av atk atv atl al l (by rw [hrl]; exact b3) (by omega)
  rw [← encs_top] at this
  exact .inr (.inr this)
 | @badd st ev fr n v ty l env fn env' w wf wl we us ui hf =>
  obtain ⟨tk, tv, tl⟩ := ty; obtain ⟨gn, gf, gl, ge⟩ := fn
  cases ho
  have := back_add fuel st es ds mk mn mv mtk mtv mtl ml (ints ev) (Fr.encs fr.reverse) ch is (ui) us 0 env' w wf wl we 11 n v tk tv tl l env gn gf gl ge (by rw [hrl]; simp at b3; omega) hf ⟨b1, b2⟩
  have := move_back2 (h := this)
  rw [← encs_top] at this
  exact .inr (.inr this)
 | @bless st ev fr n v ty l env fn env' w wf wl we us ui hf =>
  obtain ⟨tk, tv, tl⟩ := ty; obtain ⟨gn, gf, gl, ge⟩ := fn
  cases ho
  have := back_less fuel st es ds mk mn mv mtk mtv mtl ml (ints ev) (Fr.encs fr.reverse) ch is (ui) us 0 env' w wf wl we 12 n v tk tv tl l env gn gf gl ge (by rw [hrl]; simp at b3; omega) hf ⟨b1, b2⟩
  have := move_back2 (h := this)
  rw [← encs_top] at this
  exact .inr (.inr this)
 | _ => cases ho
theorem move_stop {p : Prog} {fuel : Int} {ch is : List Int} {s s' : MS} {en value width : Int} {wrong : Bool} (h : Mv p fuel ch is s (.stop s' en value width wrong)) (hb : Small p fuel ch is s) :
  SC 37 [.lp 0 0] (objs p fuel ch is s 1 1 0 0 0 false) (B false) (objs p fuel ch is s' 1 1 en value width wrong) := by
 obtain ⟨es, ds, mk, mn, mv, ⟨mtk, mtv, mtl⟩, ml⟩ := p
 obtain ⟨b1, b2, b3, b4, b5, b5i, b6⟩ := hb
 have hrl : ∀ fr : List Fr, (Fr.encs fr.reverse).length = fr.length := fun fr => by simp
 generalize ho : Out.stop s' en value width wrong = o at h
 cases h with
 | @more st ev fr k n v ty l env val us ui hk hf =>
  obtain ⟨tk, tv, tl⟩ := ty; obtain ⟨wn, wf, wl, we⟩ := val
  cases ho
  apply move_more <;> assumption
 | @want st ev fr n v ty l env val us ui hf hu =>
  obtain ⟨tk, tv, tl⟩ := ty; obtain ⟨wn, wf, wl, we⟩ := val
  cases ho
  apply move_want <;> assumption
 | @wrong st ev fr n v ty l env val us ui c hf hc hw =>
  obtain ⟨tk, tv, tl⟩ := ty; obtain ⟨wn, wf, wl, we⟩ := val
  cases ho
  apply move_wrong <;> assumption
 | @full st ev fr n v ty l env val us ui hf he =>
  obtain ⟨tk, tv, tl⟩ := ty; obtain ⟨wn, wf, wl, we⟩ := val
  cases ho
  have he1 : 4096 ≤ (ints ev).length := by simpa using he
  have he2 : (ints ev).length ≤ 100000 := by simp only [ints_length]; simp only at b4; omega
  apply move_full <;> assumption
 | @awant st ev fr n v ty l env val us ui hf hu =>
  obtain ⟨tk, tv, tl⟩ := ty; obtain ⟨wn, wf, wl, we⟩ := val
  cases ho
  apply move_awant <;> assumption
 | @awrong st ev fr n v ty l env val us ui x hf hc hw =>
  obtain ⟨tk, tv, tl⟩ := ty; obtain ⟨wn, wf, wl, we⟩ := val
  cases ho
  apply move_awrong <;> assumption
 | @done st ev env val us ui =>
  obtain ⟨wn, wf, wl, we⟩ := val
  cases ho
  apply move_back1; apply back_done
 | @bmore st ev fr k e env fn env' val us ui hk hf =>
  obtain ⟨wn, wf, wl, we⟩ := val; obtain ⟨gn, gf, gl, ge⟩ := fn
  cases ho
  have := back_more fuel st es ds mk mn mv mtk mtv mtl ml (ints ev) (Fr.encs fr.reverse) ch is (ui) us 0 env' wn wf wl we k hk e env gn gf gl ge (by rw [hrl]; simp at b3; omega) hf
  have := move_back1 (h := this)
  rw [← encs_top] at this
  exact this
 | _ => cases ho
end Go.Ae.N
namespace Go.Ae.N
open Go.Proofs
def McR (fuel : Int) (p : Prog) (steps : Int) (en value : Int) (wrong : Bool) (e : Option Expr) (env : List Vl) (v : Vl) : AObj :=
 .cells ([I fuel, B false, I steps, .la 2 1, I en, I value, B wrong] ++ (p.enc ++ ([.ifc 96 (.lp 1 0), .la 3 1, .ip (lamC e) 0, .ip (envC env) 0] ++ v.enc))) [9, 10, 11, 12, 13, 14, 15]
def objsR (p : Prog) (fuel : Int) (ch is : List Int) (s : MS) (en value width : Int) (wrong : Bool) : List AObj :=
 [McR fuel p s.steps en value wrong s.expr s.env s.val, lists ch is (s.ui) s.used width, .arr 1 1 (ints s.ev), .arr 1 7 (Fr.encs s.fr.reverse)]
section
variable (fuel : Int) (es : List ByteArray) (ds : List Def) (mk mn mv mtk mtv : Int) (mtl : List Ty) (ml : List Expr) (cc ci : List Int) (cu : Int)
 (st : Int) (E : List (List AV)) (R : List (List AV)) (e : Option Expr) (env : List Vl) (wn wf : Int) (wl : Option Expr) (we : List Vl) (us : Int)
 (st2 : Int) (E2 : List (List AV)) (R2 : List (List AV)) (e2 : Option Expr) (env2 : List Vl) (vn vf : Int) (vl : Option Expr) (ve : List Vl) (us2 : Int) (cc2 ci2 : List Int) (cu2 : Int)
theorem round_go0 (x : Exit) (s' : ASt)
  (h : SC 37 [.lp 0 0]
   [Mc fuel ⟨es, ds, .mk mk mn mv (.mk mtk mtv mtl) ml⟩ st 1 1 0 0 false e env (.mk wn wf wl we), .arr 1 1 E, lists cc ci cu us 0, .arr 1 7 R]
   (B true) [Mc fuel ⟨es, ds, .mk mk mn mv (.mk mtk mtv mtl) ml⟩ st2 1 1 0 0 false e2 env2 (.mk vn vf vl ve), .arr 1 1 E2, lists cc2 ci2 cu2 us2 0, .arr 1 7 R2])
  (k : Lp Tryz.prog 6 2 (loopN Tryz.f19 0)
   ⟨lookT [(0, .lp 0 0)], [McR fuel ⟨es, ds, .mk mk mn mv (.mk mtk mtv mtl) ml⟩ st2 0 0 false e2 env2 (.mk vn vf vl ve), lists cc2 ci2 cu2 us2 0, .arr 1 1 E2, .arr 1 7 R2]⟩ x s') :
  Lp Tryz.prog 6 2 (loopN Tryz.f19 0)
   ⟨lookT [(0, .lp 0 0)], [McR fuel ⟨es, ds, .mk mk mn mv (.mk mtk mtv mtl) ml⟩ st 0 0 false e env (.mk wn wf wl we), lists cc ci cu us 0, .arr 1 1 E, .arr 1 7 R]⟩ x s' := by
 exact lN [rS [(1, oC h)]] [.keep [(0, [])]] (ob1 (h) ob0) (k)
theorem round_go1 (x : Exit) (s' : ASt)
  (h : SC 37 [.lp 0 0]
   [Mc fuel ⟨es, ds, .mk mk mn mv (.mk mtk mtv mtl) ml⟩ st 1 1 0 0 false e env (.mk wn wf wl we), .arr 1 1 E, lists cc ci cu us 0, .arr 1 7 R]
   (B true) [Mc fuel ⟨es, ds, .mk mk mn mv (.mk mtk mtv mtl) ml⟩ st2 2 1 0 0 false e2 env2 (.mk vn vf vl ve), .arr 2 1 E2, lists cc2 ci2 cu2 us2 0, .arr 1 7 R2])
  (k : Lp Tryz.prog 6 2 (loopN Tryz.f19 0)
   ⟨lookT [(0, .lp 0 0)], [McR fuel ⟨es, ds, .mk mk mn mv (.mk mtk mtv mtl) ml⟩ st2 0 0 false e2 env2 (.mk vn vf vl ve), lists cc2 ci2 cu2 us2 0, .arr 1 1 E2, .arr 1 7 R2]⟩ x s') :
  Lp Tryz.prog 6 2 (loopN Tryz.f19 0)
   ⟨lookT [(0, .lp 0 0)], [McR fuel ⟨es, ds, .mk mk mn mv (.mk mtk mtv mtl) ml⟩ st 0 0 false e env (.mk wn wf wl we), lists cc ci cu us 0, .arr 1 1 E, .arr 1 7 R]⟩ x s' := by
 exact lN [rS [(1, oC h)]] [.keep [(0, [])]] (ob1 (h) ob0) (k)
theorem round_go2 (x : Exit) (s' : ASt)
  (h : SC 37 [.lp 0 0]
   [Mc fuel ⟨es, ds, .mk mk mn mv (.mk mtk mtv mtl) ml⟩ st 1 1 0 0 false e env (.mk wn wf wl we), .arr 1 1 E, lists cc ci cu us 0, .arr 1 7 R]
   (B true) [Mc fuel ⟨es, ds, .mk mk mn mv (.mk mtk mtv mtl) ml⟩ st2 1 2 0 0 false e2 env2 (.mk vn vf vl ve), .arr 1 1 E2, lists cc2 ci2 cu2 us2 0, .arr 2 7 R2])
  (k : Lp Tryz.prog 6 2 (loopN Tryz.f19 0)
   ⟨lookT [(0, .lp 0 0)], [McR fuel ⟨es, ds, .mk mk mn mv (.mk mtk mtv mtl) ml⟩ st2 0 0 false e2 env2 (.mk vn vf vl ve), lists cc2 ci2 cu2 us2 0, .arr 1 1 E2, .arr 1 7 R2]⟩ x s') :
  Lp Tryz.prog 6 2 (loopN Tryz.f19 0)
   ⟨lookT [(0, .lp 0 0)], [McR fuel ⟨es, ds, .mk mk mn mv (.mk mtk mtv mtl) ml⟩ st 0 0 false e env (.mk wn wf wl we), lists cc ci cu us 0, .arr 1 1 E, .arr 1 7 R]⟩ x s' := by
 exact lN [rS [(1, oC h)]] [.keep [(0, [])]] (ob1 (h) ob0) (k)
theorem round_stop (en value width : Int) (wrong : Bool)
  (h : SC 37 [.lp 0 0]
   [Mc fuel ⟨es, ds, .mk mk mn mv (.mk mtk mtv mtl) ml⟩ st 1 1 0 0 false e env (.mk wn wf wl we), .arr 1 1 E, lists cc ci cu us 0, .arr 1 7 R]
   (B false) [Mc fuel ⟨es, ds, .mk mk mn mv (.mk mtk mtv mtl) ml⟩ st2 1 1 en value wrong e2 env2 (.mk vn vf vl ve), .arr 1 1 E2, lists cc2 ci2 cu2 us2 width, .arr 1 7 R2]) :
  Lp Tryz.prog 6 2 (loopN Tryz.f19 0)
   ⟨lookT [(0, .lp 0 0)], [McR fuel ⟨es, ds, .mk mk mn mv (.mk mtk mtv mtl) ml⟩ st 0 0 false e env (.mk wn wf wl we), lists cc ci cu us 0, .arr 1 1 E, .arr 1 7 R]⟩ (.exit 0)
   ⟨lookT [(0, .lp 0 0)], [McR fuel ⟨es, ds, .mk mk mn mv (.mk mtk mtv mtl) ml⟩ st2 en value wrong e2 env2 (.mk vn vf vl ve), lists cc2 ci2 cu2 us2 width, .arr 1 1 E2, .arr 1 7 R2]⟩ := by
 exact lL [rS [(1, oC h)]] [.keep [(0, [])]] (ob1 (h) ob0)
end
end Go.Ae.N
namespace Go.Ae.N
open Go.Proofs
theorem Inv.small {p : Prog} {T : Ty} {fuel : Int} {ch is : List Int} {s : MS} (hp : PT p) (hf : fuel ≤ 1048576) (hc : ch.length ≤ 4294967296) (hi : is.length ≤ 4294967296) (h : Inv p T fuel ch is s) : Small p fuel ch is s where
 s0 := h.s0
 s1 := by have := h.s1; omega
 fr := by
  have h1 := pends_len s.fr
  have h2 := h.psi
  have h3 := h.s0
  have h4 := h.s1
  unfold MS.psi at h2
  omega
 ev := h.ev
 ch := hc
 is := hi
 ds := by have := hp.len; omega
theorem run_lp {p : Prog} {T : Ty} {fuel : Int} {ch is : List Int} {s s' : MS} {en value width : Int} {wrong : Bool} (hp : PT p) (hf : fuel ≤ 1048576) (hc : ch.length ≤ 4294967296) (hci : is.length ≤ 4294967296)
  (h : MRun p fuel ch is s s' en value width wrong) (hi : Inv p T fuel ch is s) :
  Lp Tryz.prog 6 2 (loopN Tryz.f19 0) ⟨lookT [(0, .lp 0 0)], objsR p fuel ch is s 0 0 0 false⟩ (.exit 0) ⟨lookT [(0, .lp 0 0)], objsR p fuel ch is s' en value width wrong⟩ := by
 induction h with
 | @stop s s' en value width wrong h =>
  have hm := move_stop h (hi.small hp hf hc hci)
  obtain ⟨es, ds, mk, mn, mv, ⟨mtk, mtv, mtl⟩, ml⟩ := p
  obtain ⟨st, ev, fr, e, env, ⟨wn, wf, wl, we⟩, us, ui⟩ := s
  obtain ⟨st2, ev2, fr2, e2, env2, ⟨vn, vf, vl, ve⟩, us2, ui2⟩ := s'
  exact round_stop fuel es ds mk mn mv mtk mtv mtl ml ch is (ui) st _ _ e env wn wf wl we us st2 _ _ e2 env2 vn vf vl ve us2 ch is (ui2) en value width wrong hm
 | @more s s1 s' en value width wrong h r ih =>
  have hm := move_go h (hi.small hp hf hc hci)
  have ih := ih (hi.go hp h)
  obtain ⟨es, ds, mk, mn, mv, ⟨mtk, mtv, mtl⟩, ml⟩ := p
  obtain ⟨st, ev, fr, e, env, ⟨wn, wf, wl, we⟩, us, ui⟩ := s
  obtain ⟨st2, ev2, fr2, e2, env2, ⟨vn, vf, vl, ve⟩, us2, ui2⟩ := s1
  rcases hm with hm | hm | hm
  ·exact round_go0 fuel es ds mk mn mv mtk mtv mtl ml ch is (ui) st _ _ e env wn wf wl we us st2 _ _ e2 env2 vn vf vl ve us2 ch is (ui2) _ _ hm ih
  ·exact round_go1 fuel es ds mk mn mv mtk mtv mtl ml ch is (ui) st _ _ e env wn wf wl we us st2 _ _ e2 env2 vn vf vl ve us2 ch is (ui2) _ _ hm ih
  ·exact round_go2 fuel es ds mk mn mv mtk mtv mtl ml ch is (ui) st _ _ e env wn wf wl we us st2 _ _ e2 env2 vn vf vl ve us2 ch is (ui2) _ _ hm ih
section
variable (fuel : Int) (es : List ByteArray) (ds : List Def) (mk mn mv mtk mtv : Int) (mtl : List Ty) (ml : List Expr) (cc ci : List Int) (cu : Int)
def Mc0 (fuel : Int) (p : Prog) (l : Nat) : AObj :=
 .cells ([I fuel, B false, I 0, .nil, I 0, I 0, B false] ++ (p.enc ++ ([.ifc 96 (.lp l 0), .nil, .ip p.main.enc 0, .ip [] 0] ++ vZ.enc))) [9, 10, 11, 12, 13, 14, 15]
theorem new_ (used width : Int) :
  SC 18 [.agg (Prog.enc ⟨es, ds, .mk mk mn mv (.mk mtk mtv mtl) ml⟩), .ifc 96 (.lp 0 0), I fuel] [lists cc ci cu used width]
   (.lp 1 0) [lists cc ci cu used width, Mc0 fuel ⟨es, ds, .mk mk mn mv (.mk mtk mtv mtl) ml⟩ 0] := by
 exact gK Tryz.func18 (rGs 4 []) [.roO 2 18 9 7] [] ob0
theorem run0 (st2 : Int) (E2 : List (List AV)) (R2 : List (List AV)) (e2 : Option Expr) (env2 : List Vl) (vn vf : Int) (vl : Option Expr) (ve : List Vl) (us2 : Int) (cc2 ci2 : List Int) (cu2 : Int) (en value width : Int) (wrong : Bool)
  (lp : Lp Tryz.prog 6 2 (loopN Tryz.f19 0)
   ⟨lookT [(0, .lp 0 0)], [McR fuel ⟨es, ds, .mk mk mn mv (.mk mtk mtv mtl) ml⟩ 0 0 0 false (some (.mk mk mn mv (.mk mtk mtv mtl) ml)) [] vZ, lists cc ci cu 0 0, .arr 1 1 [], .arr 1 7 []]⟩ (.exit 0)
   ⟨lookT [(0, .lp 0 0)], [McR fuel ⟨es, ds, .mk mk mn mv (.mk mtk mtv mtl) ml⟩ st2 en value wrong e2 env2 (.mk vn vf vl ve), lists cc2 ci2 cu2 us2 width, .arr 1 1 E2, .arr 1 7 R2]⟩) :
  SC 19 [.lp 0 0] [Mc0 fuel ⟨es, ds, .mk mk mn mv (.mk mtk mtv mtl) ml⟩ 1, lists cc ci cu 0 0]
   (.lp 0 0) [McR fuel ⟨es, ds, .mk mk mn mv (.mk mtk mtv mtl) ml⟩ st2 en value wrong e2 env2 (.mk vn vf vl ve), lists cc2 ci2 cu2 us2 width, .arr 1 1 E2, .arr 1 7 R2] := by
 exact Fn.go KT Tryz.func19 [.reg [] [], .loop [.accO 0 3 1, .accO 0 17 7, .keep [(0, [])]] (.exit 0)
  ⟨lookT [(0, .lp 0 0)], [McR fuel ⟨es, ds, .mk mk mn mv (.mk mtk mtv mtl) ml⟩ st2 en value wrong e2 env2 (.mk vn vf vl ve), lists cc2 ci2 cu2 us2 width, .arr 1 1 E2, .arr 1 7 R2]⟩, .reg [] []] [] []
  (.lp 0 0) ([McR fuel ⟨es, ds, .mk mk mn mv (.mk mtk mtv mtl) ml⟩ st2 en value wrong e2 env2 (.mk vn vf vl ve), lists cc2 ci2 cu2 us2 width, .arr 1 1 E2, .arr 1 7 R2]) (by kernel_rfl) (ob1 lp ob0)
theorem srun_bad (st2 : Int) (E2 : List (List AV)) (R2 : List (List AV)) (e2 : Option Expr) (env2 : List Vl) (vn vf : Int) (vl : Option Expr) (ve : List Vl) (us2 : Int) (cc2 ci2 : List Int) (cu2 : Int) (en value width : Int)
  (h : SC 19 [.lp 0 0] [Mc0 fuel ⟨es, ds, .mk mk mn mv (.mk mtk mtv mtl) ml⟩ 1, lists cc ci cu 0 0]
   (.lp 0 0) [McR fuel ⟨es, ds, .mk mk mn mv (.mk mtk mtv mtl) ml⟩ st2 en value true e2 env2 (.mk vn vf vl ve), lists cc2 ci2 cu2 us2 width, .arr 1 1 E2, .arr 1 7 R2]) :
  SC 36 [.agg (Prog.enc ⟨es, ds, .mk mk mn mv (.mk mtk mtv mtl) ml⟩), .lp 0 0, I fuel] [lists cc ci cu 0 0]
   (.tup [.agg [.sl 1 [] false, I 0, I 0, I 0], B false]) [lists cc2 ci2 cu2 us2 width] := by
 have hn := new_ fuel es ds mk mn mv mtk mtv mtl ml cc ci cu 0 0
 exact gK Tryz.func36 [rG, rS [(4, oC hn), (5, oC h)], rG, rG] [.tidO 2 [some 1, none, none, none]] [] (ob1 (hn) (ob1 (h) ob0))
theorem srun_ok (st2 : Int) (ev : List Int) (R2 : List (List AV)) (e2 : Option Expr) (env2 : List Vl) (vn vf : Int) (vl : Option Expr) (ve : List Vl) (us2 : Int) (cc2 ci2 : List Int) (cu2 : Int) (en value width : Int)
  (h : SC 19 [.lp 0 0] [Mc0 fuel ⟨es, ds, .mk mk mn mv (.mk mtk mtv mtl) ml⟩ 1, lists cc ci cu 0 0]
   (.lp 0 0) [McR fuel ⟨es, ds, .mk mk mn mv (.mk mtk mtv mtl) ml⟩ st2 en value false e2 env2 (.mk vn vf vl ve), lists cc2 ci2 cu2 us2 width, .arr 1 1 (ints ev), .arr 1 7 R2]) :
  SC 36 [.agg (Prog.enc ⟨es, ds, .mk mk mn mv (.mk mtk mtv mtl) ml⟩), .lp 0 0, I fuel] [lists cc ci cu 0 0]
   (.tup [.agg [.sl 1 (ints ev) false, I us2, I en, I value], B true]) [lists cc2 ci2 cu2 us2 width] := by
 have hn := new_ fuel es ds mk mn mv mtk mtv mtl ml cc ci cu 0 0
 exact gK Tryz.func36 [rG, rS [(4, oC hn), (5, oC h)], rG, rG] [.frz 4] [] (ob1 (hn) (ob1 (h) ob0))
end
end Go.Ae.N

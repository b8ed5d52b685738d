/- Part 17 of the proof: AeRLM3, AeRLM4, AeRLM5. -/
import Derived.Test.YtcmlbbgbfgikaaaGreatT16
set_option linter.unusedSimpArgs false
set_option linter.unusedVariables false
namespace Go.Ae.N.L
open Go.Proofs
theorem clC_nat (a : Int) (cuts : List Int) : ∃ k : Nat, clC a cuts 0 = (k : Int) ∧ k ≤ cuts.length := by
 have h := clC_bound a cuts 0
 exact ⟨(clC a cuts 0).toNat, by omega, by omega⟩
section
variable (cc ci : List Int) (cu : Int) (cuts : List Int) (O : List (List AV))
theorem lpick_want (used : Nat) (width v : Int) (h : used = cc.length) (hl : cc.length ≤ 4294967296) :
  SC 127 [.lp 0 0, I v] [fol cc ci cu used width cuts 1 1, .arr 1 1 O] (.tup [I 0, I 1]) [fol cc ci cu used v cuts 1 1, .arr 1 1 O] := by
 exact gF Tryz.func127 [rG, rS [(8, .int (cc.length : Int)), (9, .bit true)], rG, rG] (qN ints cc (qV ((used : Int) == (cc.length : Int)) ob0))
theorem lpick_wrong (used : Nat) (width v c : Int) (hx : (ints cc)[used]? = some [I c]) (hu : used < cc.length) (hl : cc.length ≤ 4294967296) (hw : c < 0 ∨ v ≤ c) :
  SC 127 [.lp 0 0, I v] [fol cc ci cu used width cuts 1 1, .arr 1 1 O] (.tup [I 0, I 2]) [fol cc ci cu used width cuts 1 1, .arr 1 1 O] := by
 rcases dsp (c < 0) with ⟨hb1, hb1'⟩ | ⟨hb1, hb1'⟩
 ·skip
  exact gF Tryz.func127 [rG, rS [(8, .int (cc.length : Int)), (9, .bit false)], rS [(8, oW hx)], rS [(1, .bit true)], rG] (qN ints cc (qU ((used : Int) == (cc.length : Int)) (qI used (ob1 hx (qT (c < 0) ob0)))))
 ·skip
  exact gF Tryz.func127 [rG, rS [(8, .int (cc.length : Int)), (9, .bit false)], rS [(8, oW hx)], rS [(1, .bit false), (5, .bit true)], rG] (qN ints cc (qU ((used : Int) == (cc.length : Int)) (qI used (ob1 hx (qF (c < 0) (qT (v ≤ c) ob0))))))
theorem lpick_fine (used : Nat) (width v c : Int) (hx : (ints cc)[used]? = some [I c]) (hu : used < cc.length) (hl : cc.length ≤ 4294967296) (h0 : 0 ≤ c) (h1 : c < v) :
  SC 127 [.lp 0 0, I v] [fol cc ci cu used width cuts 1 1, .arr 1 1 O] (.tup [I c, I 0]) [fol cc ci cu ((used : Int) + 1) width cuts 1 1, .arr 1 1 O] := by
 exact gF Tryz.func127 [rG, rS [(8, .int (cc.length : Int)), (9, .bit false)], rS [(8, oW hx)], rS [(1, .bit false), (5, .bit false)], rS [(4, .int ((used : Int) + 1))], rG] (qN ints cc (qU ((used : Int) == (cc.length : Int)) (qI used (ob1 hx (qF (c < 0) (qF (v ≤ c) (qw ((used : Int) + 1) ob0)))))))
theorem pick_want (used : Nat) (width v : Int) (h : used = cc.length) (hl : cc.length ≤ 4294967296) :
  SC 123 [.lp 0 0, I v] [fol cc ci cu used width cuts 1 1, .arr 1 1 O] (.tup [I 0, I 1]) [fol cc ci cu used v cuts 1 1, .arr 1 1 O] := by
 have hp := lpick_want cc ci cu cuts O used width v h hl
 exact gF Tryz.func123 [rG, rS [(4, oC hp)], rG, rG] (ob1 (hp) ob0)
theorem pick_wrong (used : Nat) (width v c : Int) (hc : cc[used]? = some c) (hl : cc.length ≤ 4294967296) (hw : c < 0 ∨ v ≤ c) :
  SC 123 [.lp 0 0, I v] [fol cc ci cu used width cuts 1 1, .arr 1 1 O] (.tup [I 0, I 2]) [fol cc ci cu used width cuts 1 1, .arr 1 1 O] := by
 have hp := lpick_wrong cc ci cu cuts O used width v c (by rw [ints_get, hc]; rfl) (List.getElem?_eq_some_iff.1 hc).1 hl hw
 clear hc
 exact gF Tryz.func123 [rG, rS [(4, oC hp)], rG, rG] (ob1 (hp) ob0)
theorem pick_fine (used : Nat) (width v c : Int) (hc : cc[used]? = some c) (hl : cc.length ≤ 4294967296) (h0 : 0 ≤ c) (h1 : c < v) (hO : O.length ≤ 4294967296) :
  SC 123 [.lp 0 0, I v] [fol cc ci cu used width cuts 1 1, .arr 1 1 O] (.tup [I c, I 0]) [fol cc ci cu ((used : Int) + 1) width cuts 1 2, .arr 2 1 (O ++ [[I c]])] := by
 have hp := lpick_fine cc ci cu cuts O used width v c (by rw [ints_get, hc]; rfl) (List.getElem?_eq_some_iff.1 hc).1 hl h0 h1
 have hF : Fits (O.length + 1) O.length 8 := by apply Fits.of; omega
 clear hc
 exact gF Tryz.func123 [rG, rS [(4, oC hp)], rG, rG, rG] (ob1 (hp) (q (Fits (List.length O + 1) (List.length O) 8) ob0))
theorem lany_want (ui : Nat) (used width : Int) (h : ui = ci.length) (hl : ci.length ≤ 4294967296) :
  SC 125 [.lp 0 0] [fol cc ci ui used width cuts 1 1, .arr 1 1 O] (.tup [I 0, I 1]) [fol cc ci ui used width cuts 1 1, .arr 1 1 O] := by
 exact gF Tryz.func125 [rG, rS [(8, .int (ci.length : Int)), (9, .bit true)], rG] (qN ints ci (qV ((ui : Int) == (ci.length : Int)) ob0))
theorem lany_wrong (ui : Nat) (used width n : Int) (hx : (ints ci)[ui]? = some [I n]) (hu : ui < ci.length) (hl : ci.length ≤ 4294967296) (hw : n < -1099511627776 ∨ 1099511627776 < n) :
  SC 125 [.lp 0 0] [fol cc ci ui used width cuts 1 1, .arr 1 1 O] (.tup [I 0, I 2]) [fol cc ci ui used width cuts 1 1, .arr 1 1 O] := by
 rcases dsp (n < -1099511627776) with ⟨hb1, hb1'⟩ | ⟨hb1, hb1'⟩
 ·skip
  exact gF Tryz.func125 [rG, rS [(8, .int (ci.length : Int)), (9, .bit false)], rS [(8, oW hx)], rS [(1, .bit true)], rG] (qN ints ci (qU ((ui : Int) == (ci.length : Int)) (qI ui (ob1 hx (qT (n < -1099511627776) ob0)))))
 ·skip
  exact gF Tryz.func125 [rG, rS [(8, .int (ci.length : Int)), (9, .bit false)], rS [(8, oW hx)], rS [(1, .bit false), (4, .bit true)], rG] (qN ints ci (qU ((ui : Int) == (ci.length : Int)) (qI ui (ob1 hx (qF (n < -1099511627776) (qT (1099511627776 < n) ob0))))))
theorem lany_fine (ui : Nat) (used width n : Int) (hx : (ints ci)[ui]? = some [I n]) (hu : ui < ci.length) (hl : ci.length ≤ 4294967296) (h0 : -1099511627776 ≤ n) (h1 : n ≤ 1099511627776) :
  SC 125 [.lp 0 0] [fol cc ci ui used width cuts 1 1, .arr 1 1 O] (.tup [I n, I 0]) [fol cc ci ((ui : Int) + 1) used width cuts 1 1, .arr 1 1 O] := by
 exact gF Tryz.func125 [rG, rS [(8, .int (ci.length : Int)), (9, .bit false)], rS [(8, oW hx)], rS [(1, .bit false), (4, .bit false)], rS [(4, .int ((ui : Int) + 1))], rG] (qN ints ci (qU ((ui : Int) == (ci.length : Int)) (qI ui (ob1 hx (qF (n < -1099511627776) (qF (1099511627776 < n) (qw ((ui : Int) + 1) ob0)))))))
theorem any_want (ui : Nat) (cuts : List Int) (O : List (List AV)) (used width : Int) (h : ui = ci.length) (hl : ci.length ≤ 4294967296) :
  SC 119 [.lp 0 0] [fol cc ci ui used width cuts 1 1, .arr 1 1 O] (.tup [I 0, I 1]) [fol cc ci ui used width cuts 1 1, .arr 1 1 O] := by
 have hp := lany_want cc ci cuts O ui used width h hl
 exact gF Tryz.func119 [rG, rS [(3, oC hp)], rG, rG] (ob1 (hp) ob0)
theorem any_wrong (ui : Nat) (cuts : List Int) (O : List (List AV)) (used width n : Int) (hc : ci[ui]? = some n) (hl : ci.length ≤ 4294967296) (hw : n < -1099511627776 ∨ 1099511627776 < n) :
  SC 119 [.lp 0 0] [fol cc ci ui used width cuts 1 1, .arr 1 1 O] (.tup [I 0, I 2]) [fol cc ci ui used width cuts 1 1, .arr 1 1 O] := by
 have hp := lany_wrong cc ci cuts O ui used width n (by rw [ints_get, hc]; rfl) (List.getElem?_eq_some_iff.1 hc).1 hl hw
 clear hc
 exact gF Tryz.func119 [rG, rS [(3, oC hp)], rG, rG] (ob1 (hp) ob0)
theorem any_fine (ui : Nat) (cuts : List Int) (O : List (List AV)) (used width n : Int) (hc : ci[ui]? = some n) (hl : ci.length ≤ 4294967296) (h0 : -1099511627776 ≤ n) (h1 : n ≤ 1099511627776) (hO : O.length ≤ 4294967296) (hk : cuts.length ≤ 1000) :
  SC 119 [.lp 0 0] [fol cc ci ui used width cuts 1 1, .arr 1 1 O] (.tup [I n, I 0]) [fol cc ci ((ui : Int) + 1) used width cuts 1 2, .arr 2 1 (O ++ [[I (clC n cuts 0)]])] := by
 have hp := lany_fine cc ci cuts O ui used width n (by rw [ints_get, hc]; rfl) (List.getElem?_eq_some_iff.1 hc).1 hl h0 h1
 have hF : Fits (O.length + 1) O.length 8 := by apply Fits.of; omega
 have hq := class_ cuts n hk
 generalize clC n cuts 0 = K at hq ⊢
 clear hc
 exact gF Tryz.func119 [rG, rS [(3, oC hp)], rG, rS [(10, oC hq)], rG] (ob1 (hp) (ob1 (hq) (q (Fits (List.length O + 1) (List.length O) 8) ob0)))
theorem lint_ (used width n : Int) : SC 121 [.lp 0 0, I n] [fol cc ci cu used width cuts 1 1, .arr 1 1 O] (I n) [fol cc ci cu used width cuts 1 1, .arr 1 1 O] := by
 exact gF Tryz.func121 [rG, rG] ob0
theorem event_ (used width v : Int) : SC 120 [.lp 0 0, I v] [fol cc ci cu used width cuts 1 1, .arr 1 1 O] (.tup []) [fol cc ci cu used width cuts 1 1, .arr 1 1 O] := by
 exact gF Tryz.func120 [] ob0
theorem lless0 (used width a n : Int) : SC 126 [.lp 0 0, I a, I n] [fol cc ci cu used width cuts 1 1, .arr 1 1 O] (.tup [I (if a < n then 1 else 0), I 0]) [fol cc ci cu used width cuts 1 1, .arr 1 1 O] := by
 by_cases h : a < n
 ·rw [if_pos h]
  exact gF Tryz.func126 [rG, rS [(2, .bit true)], rG] (qT (a < n) ob0)
 ·rw [if_neg h]
  exact gF Tryz.func126 [rG, rS [(2, .bit false)], rG] (qF (a < n) ob0)
theorem less_no (used width a n : Int) (hk : cuts.length ≤ 3) (k : Nat) (hkn : clC a cuts 0 = (k : Int)) (hkl : k ≤ cuts.length) (hc : ¬ lessC cuts k n < 0) :
  SC 122 [.lp 0 0, I a, I n] [fol cc ci cu used width cuts 1 1, .arr 1 1 O] (.tup [I (if a < n then 1 else 0), I 0]) [fol cc ci cu used width cuts 1 1, .arr 1 1 O] := by
 have h1 := lless0 cc ci cu cuts O used width a n
 have h2 := class_ cuts a (by omega)
 rw [hkn] at h2
 have h3 := less_ cuts k n hk hkl
 generalize (if a < n then (1 : Int) else 0) = zz at h1 ⊢
 generalize lessC cuts k n = Q at h3 hc
 clear hkn
 exact gF Tryz.func122 [rG, rS [(5, oC h1)], rS [(9, oC h2), (11, oC h3), (12, .bit false)], rG] (ob1 (h1) (ob1 (h2) (ob1 (h3) (qF (Q < 0) ob0))))
theorem less_yes (used width a n : Int) (hk : cuts.length ≤ 3) (k : Nat) (hkn : clC a cuts 0 = (k : Int)) (hkl : k ≤ cuts.length) (hc : lessC cuts k n < 0) (hO : O.length ≤ 4294967296) :
  SC 122 [.lp 0 0, I a, I n] [fol cc ci cu used width cuts 1 1, .arr 1 1 O] (.tup [I (if a < n then 1 else 0), I 0]) [fol cc ci cu used width cuts 1 2, .arr 2 1 (O ++ [[I (if a < n then 1 else 0)]])] := by
 have h1 := lless0 cc ci cu cuts O used width a n
 have h2 := class_ cuts a (by omega)
 rw [hkn] at h2
 have h3 := less_ cuts k n hk hkl
 have hF : Fits (O.length + 1) O.length 8 := by apply Fits.of; omega
 generalize (if a < n then (1 : Int) else 0) = zz at h1 ⊢
 generalize lessC cuts k n = Q at h3 hc
 clear hkn
 exact gF Tryz.func122 [rG, rS [(5, oC h1)], rS [(9, oC h2), (11, oC h3), (12, .bit true)], rG, rG] (ob1 (h1) (ob1 (h2) (ob1 (h3) (qT (Q < 0) (q (Fits (List.length O + 1) (List.length O) 8) ob0)))))
end
section
variable (x y z : Int)
theorem index_lp2 : Lp Tryz.prog 19 0 (loopN Tryz.f124 0) ⟨lookT [(0, .sl 1 (ints [x, y]) false), (1, I z), (7, I 2), (8, I 2)], []⟩ (.exit 0) ⟨lookT [], []⟩ := by
 exact lL [rG] [.keep []] ob0
theorem index_lp1n (h : ¬ z = y) : Lp Tryz.prog 19 0 (loopN Tryz.f124 0) ⟨lookT [(0, .sl 1 (ints [x, y]) false), (1, I z), (7, I 2), (8, I 1)], []⟩ (.exit 0) ⟨lookT [], []⟩ := by
 have hx : (ints [x, y])[1]? = some [I y] := rfl
 have ih := index_lp2 x y z
 exact lN [rG, rG, rS [(3, .row 1 [I y]), (5, .bit false)], rG] [.keep [(0, []), (1, []), (7, []), (8, [])]] (qI 1 (qC1 ([I x]) ([I y]) [] (qU (z == y) ob0))) (ih)
theorem index_lp1y (h : z = y) : Lp Tryz.prog 19 0 (loopN Tryz.f124 0) ⟨lookT [(0, .sl 1 (ints [x, y]) false), (1, I z), (7, I 2), (8, I 1)], []⟩ .ret ⟨lookT [(4, I 1)], []⟩ := by
 have hx : (ints [x, y])[1]? = some [I y] := rfl
 exact lL [rG, rG, rS [(3, .row 1 [I y]), (5, .bit true)], rG] [.keep [(4, [])]] (qI 1 (qC1 ([I x]) ([I y]) [] (qV (z == y) ob0)))
theorem index_lp0n (h0 : ¬ z = x) (h : ¬ z = y) : Lp Tryz.prog 19 0 (loopN Tryz.f124 0) ⟨lookT [(0, .sl 1 (ints [x, y]) false), (1, I z), (7, I 2), (8, I 0)], []⟩ (.exit 0) ⟨lookT [], []⟩ := by
 have hx : (ints [x, y])[0]? = some [I x] := rfl
 have ih := index_lp1n x y z h
 exact lN [rG, rG, rS [(3, .row 0 [I x]), (5, .bit false)], rG] [.keep [(0, []), (1, []), (7, []), (8, [])]] (qI 0 (qC0 ([I x]) [[I y]] (qU (z == x) ob0))) (ih)
theorem index_lp0y (h0 : ¬ z = x) (h : z = y) : Lp Tryz.prog 19 0 (loopN Tryz.f124 0) ⟨lookT [(0, .sl 1 (ints [x, y]) false), (1, I z), (7, I 2), (8, I 0)], []⟩ .ret ⟨lookT [(4, I 1)], []⟩ := by
 have hx : (ints [x, y])[0]? = some [I x] := rfl
 have ih := index_lp1y x y z h
 exact lN [rG, rG, rS [(3, .row 0 [I x]), (5, .bit false)], rG] [.keep [(0, []), (1, []), (7, []), (8, [])]] (qI 0 (qC0 ([I x]) [[I y]] (qU (z == x) ob0))) (ih)
theorem index_lp0x (h0 : z = x) : Lp Tryz.prog 19 0 (loopN Tryz.f124 0) ⟨lookT [(0, .sl 1 (ints [x, y]) false), (1, I z), (7, I 2), (8, I 0)], []⟩ .ret ⟨lookT [(4, I 0)], []⟩ := by
 have hx : (ints [x, y])[0]? = some [I x] := rfl
 exact lL [rG, rG, rS [(3, .row 0 [I x]), (5, .bit true)], rG] [.keep [(4, [])]] (qI 0 (qC0 ([I x]) [[I y]] (qV (z == x) ob0)))
theorem index_ : SC 124 [.sl 1 (ints [x, y]) false, I z] [] (I (idxC x y z)) [] := by
 unfold idxC
 by_cases h0 : z = x
 ·rw [if_pos h0]
  have lp := index_lp0x x y z h0
  exact gF Tryz.func124 [rG, rG, oL [.keep [(0, []), (1, []), (7, []), (8, [])]] lp] (ob1 (lp) ob0)
 ·rw [if_neg h0]
  by_cases h : z = y
  ·rw [if_pos h]
   have lp := index_lp0y x y z h0 h
   exact gF Tryz.func124 [rG, rG, oL [.keep [(0, []), (1, []), (7, []), (8, [])]] lp] (ob1 (lp) ob0)
  ·rw [if_neg h]
   have lp := index_lp0n x y z h0 h
   exact gF Tryz.func124 [rG, rG, oL [.keep [(0, []), (1, []), (7, []), (8, [])]] lp, rG] (ob1 (lp) ob0)
end
section
variable (cc ci : List Int) (cu : Int) (cuts : List Int) (O : List (List AV))
theorem add_no (used width a b : Int) (hk : cuts.length ≤ 3) (hr : ∀ x ∈ cuts, -2000 ≤ x ∧ x ≤ 2000) (k : Nat) (hkn : clC a cuts 0 = (k : Int)) (hkl : k ≤ cuts.length) (x : Int) (hc : afterC cuts k b = [x]) :
  SC 118 [.lp 0 0, I a, I b] [fol cc ci cu used width cuts 1 1, .arr 1 1 O] (.tup [I (IntKind.wrap .i64 (a + b)), I 0]) [fol cc ci cu used width cuts 1 1, .arr 1 1 O] := by
 have h2 := class_ cuts a (by omega)
 rw [hkn] at h2
 have h3 := after_ cuts k b hk hkl hr
 rw [hc] at h3
 clear hkn hc hr
 exact gF Tryz.func118 [rG, rS [(9, oC h2), (11, oC h3)], rG, rG] (ob1 (h2) (ob1 (h3) ob0))
theorem add_yes (used width a b : Int) (hk : cuts.length ≤ 3) (hr : ∀ x ∈ cuts, -2000 ≤ x ∧ x ≤ 2000) (k : Nat) (hkn : clC a cuts 0 = (k : Int)) (hkl : k ≤ cuts.length) (x y : Int) (hc : afterC cuts k b = [x, y]) (hO : O.length ≤ 4294967296) :
  SC 118 [.lp 0 0, I a, I b] [fol cc ci cu used width cuts 1 1, .arr 1 1 O] (.tup [I (IntKind.wrap .i64 (a + b)), I 0]) [fol cc ci cu used width cuts 1 2, .arr 2 1 (O ++ [[I (idxC x y (clC (IntKind.wrap .i64 (a + b)) cuts 0))]])] := by
 have h2 := class_ cuts a (by omega)
 rw [hkn] at h2
 have h3 := after_ cuts k b hk hkl hr
 rw [hc] at h3
 have h4 := class_ cuts (IntKind.wrap .i64 (a + b)) (by omega)
 generalize clC (IntKind.wrap .i64 (a + b)) cuts 0 = K at h4 ⊢
 have h5 := index_ x y K
 generalize idxC x y K = J at h5 ⊢
 have hF : Fits (O.length + 1) O.length 8 := by apply Fits.of; omega
 clear hkn hc hr
 exact gF Tryz.func118 [rG, rS [(9, oC h2), (11, oC h3)], rG, rS [(13, oC h4), (14, oC h5)], rG] (ob1 (h2) (ob1 (h3) (ob1 (h4) (ob1 (h5) (q (Fits (List.length O + 1) (List.length O) 8) ob0)))))
end
section
variable (fuel steps : Int) (es : List ByteArray) (ds : List Def) (mk mn mv mtk mtv : Int) (mtl : List Ty) (ml : List Expr) (E R : List (List AV)) (cc ci : List Int) (cu : Int) (cuts : List Int) (O : List (List AV)) (used width : Int)
 (env : List Vl) (wn wf : Int) (wl : Option Expr) (we : List Vl)
theorem goes2 (e : Option Expr) (e2 : Option Expr) (an af : Int) (al : Option Expr) (ae2 env2 : List Vl) :
  SC 69 [.lp 0 0, .ip (lamC e2) 0, .lp 5 0]
   [Mc fuel ⟨es, ds, .mk mk mn mv (.mk mtk mtv mtl) ml⟩ steps 1 1 0 0 false e env (.mk wn wf wl we), .arr 1 1 E, fol cc ci cu used width cuts 3 1, .arr 1 1 O, .arr 1 7 R, .cells [I an, I af, .ip (lamC al) 0, .ip (envC ae2) 0, .ip (envC env2) 0] []]
   (B true) [.cells ([I fuel, B false, I steps, .la 1 1, I 0, I 0, B false] ++ (Prog.enc ⟨es, ds, .mk mk mn mv (.mk mtk mtv mtl) ml⟩ ++ ([.ifc 58 (.lp 2 0), .la 4 1, .ip (lamC e2) 0, .lp 5 0] ++ (Vl.mk wn wf wl we).enc))) [9, 10, 11, 12, 13, 14, 15],
    .arr 1 1 E, fol cc ci cu used width cuts 3 1, .arr 1 1 O, .arr 1 7 R, .cells [I an, I af, .ip (lamC al) 0, .ip (envC ae2) 0, .ip (envC env2) 0] []] := by
 exact gF Tryz.func69 [rG, rG, rG] ob0
theorem back_done :
  SC 63 [.lp 0 0]
   [Mc fuel ⟨es, ds, .mk mk mn mv (.mk mtk mtv mtl) ml⟩ steps 1 1 0 0 false none env (.mk wn wf wl we), .arr 1 1 E, fol cc ci cu used width cuts 3 1, .arr 1 1 O, .arr 1 7 []]
   (B false) [Mc fuel ⟨es, ds, .mk mk mn mv (.mk mtk mtv mtl) ml⟩ steps 1 1 0 wn false none env (.mk wn wf wl we), .arr 1 1 E, fol cc ci cu used width cuts 3 1, .arr 1 1 O, .arr 1 7 []] := by
 have h := fun R value => stop_ fuel steps es ds mk mn mv mtk mtv mtl ml E R cc ci cu cuts O used width none env wn wf wl we 0 value false 0
 exact gF Tryz.func63 [rG, rG, rG, rS [(1, oC (h ([]) (wn)))]] (ob1 (h ([]) (wn)) ob0)
theorem back_arg (xn xv xtk xtv : Int) (xtl : List Ty) (a : Expr) (bk bn bv btk btv : Int) (btl : List Ty) (bl : List Expr) (fenv : List Vl) (gn gf : Int) (gl : Option Expr) (ge : List Vl) (hR : R.length ≤ 4294967296) :
  SC 63 [.lp 0 0]
   [Mc fuel ⟨es, ds, .mk mk mn mv (.mk mtk mtv mtl) ml⟩ steps 1 1 0 0 false none env (.mk wn wf wl we), .arr 1 1 E, fol cc ci cu used width cuts 3 1, .arr 1 1 O,
    .arr 1 7 (R ++ [(Fr.mk 0 (some (.mk 3 xn xv (.mk xtk xtv xtl) [a, .mk bk bn bv (.mk btk btv btl) bl])) fenv (.mk gn gf gl ge)).enc])]
   (B true) [Mc fuel ⟨es, ds, .mk mk mn mv (.mk mtk mtv mtl) ml⟩ steps 1 1 0 0 false (some (.mk bk bn bv (.mk btk btv btl) bl)) fenv (.mk wn wf wl we), .arr 1 1 E, fol cc ci cu used width cuts 3 1, .arr 1 1 O,
    .arr 1 7 (R ++ [(Fr.mk 1 none [] (.mk wn wf wl we)).enc])] := by
 have hx := getLast_get R (Fr.mk 0 (some (.mk 3 xn xv (.mk xtk xtv xtl) [a, .mk bk bn bv (.mk btk btv btl) bl])) fenv (.mk gn gf gl ge)).enc
 have h := fun R => goes_ fuel steps es ds mk mn mv mtk mtv mtl ml E R cc ci cu cuts O used width none env wn wf wl we 0 0 false (some (.mk bk bn bv (.mk btk btv btl) bl)) fenv
 exact gR Tryz.func63 [rG, rS [(4, .int ((R.length : Int) + 1))], rS [(8, .int ((R.length : Int) + 1)), (9, .int ((R.length : Int) + 1 - 1)), (10, .nat (List.length R)), (11, .row (List.length R) (Fr.enc { kind := 0, expr := some (Expr.mk 3 xn xv (Ty.mk xtk xtv xtl) [a, Expr.mk bk bn bv (Ty.mk btk btv btl) bl]), env := fenv, fn := Vl.mk gn gf gl ge }))], rG, rS [(8, .int ((R.length : Int) + 1)), (9, .int ((R.length : Int) + 1 - 1)), (15, .nat (List.length R)), (16, .row (List.length R) (Fr.enc { kind := 0, expr := some (Expr.mk 3 xn xv (Ty.mk xtk xtv xtl) [a, Expr.mk bk bn bv (Ty.mk btk btv btl) bl]), env := fenv, fn := Vl.mk gn gf gl ge }))], rS [(6, .row 1 (xE bk bn bv btk btv btl bl)), (9, oC (h (List.set (R ++ [[I 0, AV.ip [I 3, I xn, I xv, I xtk, I xtv, AV.sl 3 (Ty.encs xtl) false, AV.sl 7 [Expr.enc a, [I bk, I bn, I bv, I btk, I btv, AV.sl 3 (Ty.encs btl) false, AV.sl 7 (Expr.encs bl) false]] false] 0, AV.ip (envC fenv) 0, I gn, I gf, AV.ip (lamC gl) 0, AV.ip (envC ge) 0]]) (List.length R) [I 1, AV.ip [] 0, AV.ip [] 0, I wn, I wf, AV.ip (lamC wl) 0, AV.ip (envC we) 0])))]] [] [] (B true) ([.cells [I fuel, B false, I steps, .la 1 1, I 0, I 0, B false, .sl 1 (strs es) false, .sl 14 (Def.encs ds) false, I mk, I mn, I mv, I mtk, I mtv, .sl 3 (Ty.encs mtl) false, .sl 7 (Expr.encs ml) false, .ifc 58 (.lp 2 0), .la 4 1, .ip (xE bk bn bv btk btv btl bl) 0, .ip (envC fenv) 0, I wn, I wf, .ip (lamC wl) 0, .ip (envC we) 0] [9, 10, 11, 12, 13, 14, 15], .arr 1 1 E, .cells [.sl 1 (ints cc) false, .sl 1 (ints ci) false, I used, I cu, I width, .sl 1 (ints cuts) false, .la 3 1] [], .arr 1 1 O, .arr 1 7 (List.set (R ++ [[I 0, .ip [I 3, I xn, I xv, I xtk, I xtv, .sl 3 (Ty.encs xtl) false, .sl 7 [Expr.enc a, (xE bk bn bv btk btv btl bl)] false] 0, .ip (envC fenv) 0, I gn, I gf, .ip (lamC gl) 0, .ip (envC ge) 0]]) (List.length R) [I 1, .ip [] 0, .ip [] 0, I wn, I wf, .ip (lamC wl) 0, .ip (envC we) 0])]) (q ((↑(List.length (R ++ [[I 0, .ip [I 3, I xn, I xv, I xtk, I xtv, .sl 3 (Ty.encs xtl) false, .sl 7 [Expr.enc a, (xE bk bn bv btk btv btl bl)] false] 0, .ip (envC fenv) 0, I gn, I gf, .ip (lamC gl) 0, .ip (envC ge) 0]])) : Int) = (R.length : Int) + 1) (q ((↑(List.length (R ++ [[I 0, .ip [I 3, I xn, I xv, I xtk, I xtv, .sl 3 (Ty.encs xtl) false, .sl 7 [Expr.enc a, (xE bk bn bv btk btv btl bl)] false] 0, .ip (envC fenv) 0, I gn, I gf, .ip (lamC gl) 0, .ip (envC ge) 0]])) : Int) = (R.length : Int) + 1) (qw ((R.length : Int) + 1 - 1) (q ((R.length : Int) + 1 - 1 = (R.length : Int)) (q (List.length R < List.length (R ++ [[I 0, .ip [I 3, I xn, I xv, I xtk, I xtv, .sl 3 (Ty.encs xtl) false, .sl 7 [Expr.enc a, (xE bk bn bv btk btv btl bl)] false] 0, .ip (envC fenv) 0, I gn, I gf, .ip (lamC gl) 0, .ip (envC ge) 0]])) (q ((R ++ [[I 0, .ip [I 3, I xn, I xv, I xtk, I xtv, .sl 3 (Ty.encs xtl) false, .sl 7 [Expr.enc a, (xE bk bn bv btk btv btl bl)] false] 0, .ip (envC fenv) 0, I gn, I gf, .ip (lamC gl) 0, .ip (envC ge) 0]])[List.length R]? = some (Fr.enc { kind := 0, expr := some (Expr.mk 3 xn xv (Ty.mk xtk xtv xtl) [a, Expr.mk bk bn bv (Ty.mk btk btv btl) bl]), env := fenv, fn := Vl.mk gn gf gl ge })) (q ((↑(List.length (R ++ [[I 0, .ip [I 3, I xn, I xv, I xtk, I xtv, .sl 3 (Ty.encs xtl) false, .sl 7 [Expr.enc a, (xE bk bn bv btk btv btl bl)] false] 0, .ip (envC fenv) 0, I gn, I gf, .ip (lamC gl) 0, .ip (envC ge) 0]])) : Int) = (R.length : Int) + 1) (qw ((R.length : Int) + 1 - 1) (q ((R.length : Int) + 1 - 1 = (R.length : Int)) (q (List.length R < List.length (R ++ [[I 0, .ip [I 3, I xn, I xv, I xtk, I xtv, .sl 3 (Ty.encs xtl) false, .sl 7 [Expr.enc a, (xE bk bn bv btk btv btl bl)] false] 0, .ip (envC fenv) 0, I gn, I gf, .ip (lamC gl) 0, .ip (envC ge) 0]])) (q ((R ++ [[I 0, .ip [I 3, I xn, I xv, I xtk, I xtv, .sl 3 (Ty.encs xtl) false, .sl 7 [Expr.enc a, (xE bk bn bv btk btv btl bl)] false] 0, .ip (envC fenv) 0, I gn, I gf, .ip (lamC gl) 0, .ip (envC ge) 0]])[List.length R]? = some (Fr.enc { kind := 0, expr := some (Expr.mk 3 xn xv (Ty.mk xtk xtv xtl) [a, Expr.mk bk bn bv (Ty.mk btk btv btl) bl]), env := fenv, fn := Vl.mk gn gf gl ge })) (qI 1 (qC1 (Expr.enc a) ((xE bk bn bv btk btv btl bl)) [] (ob1 (h (List.set (R ++ [[I 0, .ip [I 3, I xn, I xv, I xtk, I xtv, .sl 3 (Ty.encs xtl) false, .sl 7 [Expr.enc a, (xE bk bn bv btk btv btl bl)] false] 0, .ip (envC fenv) 0, I gn, I gf, .ip (lamC gl) 0, .ip (envC ge) 0]]) (List.length R) [I 1, .ip [] 0, .ip [] 0, I wn, I wf, .ip (lamC wl) 0, .ip (envC we) 0])) ob0)))))))))))))) (by first | rfl | (simp [*]; done)) (by (rw [set_last]; rfl))
theorem back_more (kd : Int) (hk : kd ≠ 0) (fe : Option Expr) (fenv : List Vl) (gn gf : Int) (gl : Option Expr) (ge : List Vl) (hR : R.length ≤ 4294967296) (hf : fuel ≤ steps) :
  SC 63 [.lp 0 0]
   [Mc fuel ⟨es, ds, .mk mk mn mv (.mk mtk mtv mtl) ml⟩ steps 1 1 0 0 false none env (.mk wn wf wl we), .arr 1 1 E, fol cc ci cu used width cuts 3 1, .arr 1 1 O, .arr 1 7 (R ++ [(Fr.mk kd fe fenv (.mk gn gf gl ge)).enc])]
   (B false) [Mc fuel ⟨es, ds, .mk mk mn mv (.mk mtk mtv mtl) ml⟩ steps 1 1 1 0 false none env (.mk wn wf wl we), .arr 1 1 E, fol cc ci cu used width cuts 3 1, .arr 1 1 O,
    .arr 1 7 (R ++ [(Fr.mk kd fe fenv (.mk gn gf gl ge)).enc])] := by
 have hx := getLast_get R (Fr.mk kd fe fenv (.mk gn gf gl ge)).enc
 have h := fun R => stop_ fuel steps es ds mk mn mv mtk mtv mtl ml E R cc ci cu cuts O used width none env wn wf wl we 0 0 false 1
 exact gF Tryz.func63 [rG, rS [(4, .int ((R.length : Int) + 1))], rS [(8, .int ((R.length : Int) + 1)), (9, .int ((R.length : Int) + 1 - 1)), (10, .nat (List.length R)), (11, .row (List.length R) (Fr.enc { kind := kd, expr := fe, env := fenv, fn := Vl.mk gn gf gl ge }))], rS [(2, .bit false)], rS [(8, .bit true)], rS [(1, oC (h (R ++ [[I kd, AV.ip (lamC fe) 0, AV.ip (envC fenv) 0, I gn, I gf, AV.ip (lamC gl) 0, AV.ip (envC ge) 0]])))]] (q ((↑(List.length (R ++ [[I kd, .ip (lamC fe) 0, .ip (envC fenv) 0, I gn, I gf, .ip (lamC gl) 0, .ip (envC ge) 0]])) : Int) = (R.length : Int) + 1) (q ((↑(List.length (R ++ [[I kd, .ip (lamC fe) 0, .ip (envC fenv) 0, I gn, I gf, .ip (lamC gl) 0, .ip (envC ge) 0]])) : Int) = (R.length : Int) + 1) (qw ((R.length : Int) + 1 - 1) (q ((R.length : Int) + 1 - 1 = (R.length : Int)) (q (List.length R < List.length (R ++ [[I kd, .ip (lamC fe) 0, .ip (envC fenv) 0, I gn, I gf, .ip (lamC gl) 0, .ip (envC ge) 0]])) (q ((R ++ [[I kd, .ip (lamC fe) 0, .ip (envC fenv) 0, I gn, I gf, .ip (lamC gl) 0, .ip (envC ge) 0]])[List.length R]? = some (Fr.enc { kind := kd, expr := fe, env := fenv, fn := Vl.mk gn gf gl ge })) (qU (kd == 0) (qT (fuel ≤ steps) (ob1 (h (R ++ [[I kd, .ip (lamC fe) 0, .ip (envC fenv) 0, I gn, I gf, .ip (lamC gl) 0, .ip (envC ge) 0]])) ob0)))))))))
theorem back_let (xn xv xtk xtv : Int) (xtl : List Ty) (a : Expr) (bk bn bv btk btv : Int) (btl : List Ty) (bl : List Expr) (fenv : List Vl) (gn gf : Int) (gl : Option Expr) (ge : List Vl) (hR : R.length ≤ 4294967296)
  (hf : steps < fuel) (hs : 0 ≤ steps ∧ steps ≤ 10000000) :
  SC 63 [.lp 0 0]
   [Mc fuel ⟨es, ds, .mk mk mn mv (.mk mtk mtv mtl) ml⟩ steps 1 1 0 0 false none env (.mk wn wf wl we), .arr 1 1 E, fol cc ci cu used width cuts 3 1, .arr 1 1 O,
    .arr 1 7 (R ++ [(Fr.mk 2 (some (.mk 5 xn xv (.mk xtk xtv xtl) [a, .mk bk bn bv (.mk btk btv btl) bl])) fenv (.mk gn gf gl ge)).enc])]
   (B true) [Mc fuel ⟨es, ds, .mk mk mn mv (.mk mtk mtv mtl) ml⟩ (steps + 1) 1 2 0 0 false (some (.mk bk bn bv (.mk btk btv btl) bl)) (.mk wn wf wl we :: fenv) (.mk wn wf wl we), .arr 1 1 E, fol cc ci cu used width cuts 3 1, .arr 1 1 O, .arr 2 7 R] := by
 have hx := getLast_get R (Fr.mk 2 (some (.mk 5 xn xv (.mk xtk xtv xtl) [a, .mk bk bn bv (.mk btk btv btl) bl])) fenv (.mk gn gf gl ge)).enc
 have h := fun R s => goes2 fuel s es ds mk mn mv mtk mtv mtl ml E R cc ci cu cuts O used width env wn wf wl we none (some (.mk bk bn bv (.mk btk btv btl) bl)) wn wf wl we fenv
 have hT := take_last R (Fr.mk 2 (some (.mk 5 xn xv (.mk xtk xtv xtl) [a, .mk bk bn bv (.mk btk btv btl) bl])) fenv (.mk gn gf gl ge)).enc ((R.length : Int) + 1 - 1) (by omega)
 exact gR Tryz.func63 [rG, rS [(4, .int ((R.length : Int) + 1))], rS [(8, .int ((R.length : Int) + 1)), (9, .int ((R.length : Int) + 1 - 1)), (10, .nat (List.length R)), (11, .row (List.length R) (Fr.enc { kind := 2, expr := some (Expr.mk 5 xn xv (Ty.mk xtk xtv xtl) [a, Expr.mk bk bn bv (Ty.mk btk btv btl) bl]), env := fenv, fn := Vl.mk gn gf gl ge }))], rG, rS [(8, .bit false)], rS [(9, .int ((R.length : Int) + 1)), (10, .int ((R.length : Int) + 1 - 1))], rG, rG, rG, rS [(4, .int (steps + 1))], rG, rG, rS [(6, .row 1 (xE bk bn bv btk btv btl bl)), (15, oC (h (List.take (Int.toNat ((↑(List.length R) : Int) + 1 - 1)) (R ++ [[I 2, AV.ip [I 5, I xn, I xv, I xtk, I xtv, AV.sl 3 (Ty.encs xtl) false, AV.sl 7 [Expr.enc a, [I bk, I bn, I bv, I btk, I btv, AV.sl 3 (Ty.encs btl) false, AV.sl 7 (Expr.encs bl) false]] false] 0, AV.ip (envC fenv) 0, I gn, I gf, AV.ip (lamC gl) 0, AV.ip (envC ge) 0]])) (steps + 1)))]] [.frz 6, .keep [(2, [])]] [] (B true) ([.cells [I fuel, B false, I (steps + 1), .la 1 1, I 0, I 0, B false, .sl 1 (strs es) false, .sl 14 (Def.encs ds) false, I mk, I mn, I mv, I mtk, I mtv, .sl 3 (Ty.encs mtl) false, .sl 7 (Expr.encs ml) false, .ifc 58 (.lp 2 0), .la 4 2, .ip (xE bk bn bv btk btv btl bl) 0, .ip [I wn, I wf, .ip (lamC wl) 0, .ip (envC we) 0, .ip (envC fenv) 0] 0, I wn, I wf, .ip (lamC wl) 0, .ip (envC we) 0] [9, 10, 11, 12, 13, 14, 15], .arr 1 1 E, .cells [.sl 1 (ints cc) false, .sl 1 (ints ci) false, I used, I cu, I width, .sl 1 (ints cuts) false, .la 3 1] [], .arr 1 1 O, .arr 2 7 (List.take (Int.toNat ((R.length : Int) + 1 - 1)) (R ++ [[I 2, .ip [I 5, I xn, I xv, I xtk, I xtv, .sl 3 (Ty.encs xtl) false, .sl 7 [Expr.enc a, (xE bk bn bv btk btv btl bl)] false] 0, .ip (envC fenv) 0, I gn, I gf, .ip (lamC gl) 0, .ip (envC ge) 0]]))]) (q ((↑(List.length (R ++ [[I 2, .ip [I 5, I xn, I xv, I xtk, I xtv, .sl 3 (Ty.encs xtl) false, .sl 7 [Expr.enc a, (xE bk bn bv btk btv btl bl)] false] 0, .ip (envC fenv) 0, I gn, I gf, .ip (lamC gl) 0, .ip (envC ge) 0]])) : Int) = (R.length : Int) + 1) (q ((↑(List.length (R ++ [[I 2, .ip [I 5, I xn, I xv, I xtk, I xtv, .sl 3 (Ty.encs xtl) false, .sl 7 [Expr.enc a, (xE bk bn bv btk btv btl bl)] false] 0, .ip (envC fenv) 0, I gn, I gf, .ip (lamC gl) 0, .ip (envC ge) 0]])) : Int) = (R.length : Int) + 1) (qw ((R.length : Int) + 1 - 1) (q ((R.length : Int) + 1 - 1 = (R.length : Int)) (q (List.length R < List.length (R ++ [[I 2, .ip [I 5, I xn, I xv, I xtk, I xtv, .sl 3 (Ty.encs xtl) false, .sl 7 [Expr.enc a, (xE bk bn bv btk btv btl bl)] false] 0, .ip (envC fenv) 0, I gn, I gf, .ip (lamC gl) 0, .ip (envC ge) 0]])) (q ((R ++ [[I 2, .ip [I 5, I xn, I xv, I xtk, I xtv, .sl 3 (Ty.encs xtl) false, .sl 7 [Expr.enc a, (xE bk bn bv btk btv btl bl)] false] 0, .ip (envC fenv) 0, I gn, I gf, .ip (lamC gl) 0, .ip (envC ge) 0]])[List.length R]? = some (Fr.enc { kind := 2, expr := some (Expr.mk 5 xn xv (Ty.mk xtk xtv xtl) [a, Expr.mk bk bn bv (Ty.mk btk btv btl) bl]), env := fenv, fn := Vl.mk gn gf gl ge })) (qF (fuel ≤ steps) (q ((↑(List.length (R ++ [[I 2, .ip [I 5, I xn, I xv, I xtk, I xtv, .sl 3 (Ty.encs xtl) false, .sl 7 [Expr.enc a, (xE bk bn bv btk btv btl bl)] false] 0, .ip (envC fenv) 0, I gn, I gf, .ip (lamC gl) 0, .ip (envC ge) 0]])) : Int) = (R.length : Int) + 1) (qw ((R.length : Int) + 1 - 1) (q ((0 : Int) ≤ (0 : Int)) (q (0 ≤ (R.length : Int) + 1 - 1) (q ((R.length : Int) + 1 - 1 ≤ (↑(List.length (R ++ [[I 2, .ip [I 5, I xn, I xv, I xtk, I xtv, .sl 3 (Ty.encs xtl) false, .sl 7 [Expr.enc a, (xE bk bn bv btk btv btl bl)] false] 0, .ip (envC fenv) 0, I gn, I gf, .ip (lamC gl) 0, .ip (envC ge) 0]])) : Int)) (qw (steps + 1) (qI 1 (qC1 (Expr.enc a) ((xE bk bn bv btk btv btl bl)) [] (ob1 (h (List.take (Int.toNat ((R.length : Int) + 1 - 1)) (R ++ [[I 2, .ip [I 5, I xn, I xv, I xtk, I xtv, .sl 3 (Ty.encs xtl) false, .sl 7 [Expr.enc a, (xE bk bn bv btk btv btl bl)] false] 0, .ip (envC fenv) 0, I gn, I gf, .ip (lamC gl) 0, .ip (envC ge) 0]])) (steps + 1)) ob0)))))))))))))))) (by first | rfl | (simp [*]; done)) (by (refine congrArg (fun x => [_, _, _, _, (.arr 2 7 x : AObj)]) hT))
end
end Go.Ae.N.L
namespace Go.Ae.N.L
open Go.Proofs
section
variable (fuel steps : Int) (es : List ByteArray) (ds : List Def) (mk mn mv mtk mtv : Int) (mtl : List Ty) (ml : List Expr) (E R : List (List AV)) (cc ci : List Int) (cu : Int) (cuts : List Int) (O : List (List AV)) (used width : Int)
 (env : List Vl) (wn wf : Int) (wl : Option Expr) (we : List Vl)
theorem back_case (w : Nat) (xn xv xtk xtv : Int) (xtl : List Ty) (l : List Expr) (bk bn bv btk btv : Int) (btl : List Ty) (bl : List Expr) (fenv : List Vl) (gn gf : Int) (gl : Option Expr) (ge : List Vl) (hR : R.length ≤ 4294967296)
  (hf : steps < fuel) (hs : 0 ≤ steps ∧ steps ≤ 10000000) (hl : l.length ≤ 4294967296) (hw : l[1 + w]? = some (.mk bk bn bv (.mk btk btv btl) bl)) :
  SC 63 [.lp 0 0]
   [Mc fuel ⟨es, ds, .mk mk mn mv (.mk mtk mtv mtl) ml⟩ steps 1 1 0 0 false none env (.mk (w : Int) wf wl we), .arr 1 1 E, fol cc ci cu used width cuts 3 1, .arr 1 1 O,
    .arr 1 7 (R ++ [(Fr.mk 3 (some (.mk 6 xn xv (.mk xtk xtv xtl) l)) fenv (.mk gn gf gl ge)).enc])]
   (B true) [Mc fuel ⟨es, ds, .mk mk mn mv (.mk mtk mtv mtl) ml⟩ (steps + 1) 1 2 0 0 false (some (.mk bk bn bv (.mk btk btv btl) bl)) fenv (.mk (w : Int) wf wl we), .arr 1 1 E, fol cc ci cu used width cuts 3 1, .arr 1 1 O, .arr 2 7 R] := by
 have hx := getLast_get R (Fr.mk 3 (some (.mk 6 xn xv (.mk xtk xtv xtl) l)) fenv (.mk gn gf gl ge)).enc
 have hy : (Expr.encs l)[1 + w]? = some (Expr.mk bk bn bv (.mk btk btv btl) bl).enc := by rw [Expr.encs_get, hw]; rfl
 have hlt : 1 + w < l.length := (List.getElem?_eq_some_iff.1 hw).1
 have h := fun R s => goes_ fuel s es ds mk mn mv mtk mtv mtl ml E R cc ci cu cuts O used width none env (w : Int) wf wl we 0 0 false (some (.mk bk bn bv (.mk btk btv btl) bl)) fenv
 have hT := take_last R (Fr.mk 3 (some (.mk 6 xn xv (.mk xtk xtv xtl) l)) fenv (.mk gn gf gl ge)).enc ((R.length : Int) + 1 - 1) (by omega)
 clear hw
 exact gR Tryz.func63 [rG, rS [(4, .int ((R.length : Int) + 1))], rS [(8, .int ((R.length : Int) + 1)), (9, .int ((R.length : Int) + 1 - 1)), (10, .nat (List.length R)), (11, .row (List.length R) (Fr.enc { kind := 3, expr := some (Expr.mk 6 xn xv (Ty.mk xtk xtv xtl) l), env := fenv, fn := Vl.mk gn gf gl ge }))], rG, rS [(8, .bit false)], rS [(9, .int ((R.length : Int) + 1)), (10, .int ((R.length : Int) + 1 - 1))], rG, rG, rG, rS [(4, .int (steps + 1))], rG, rG, rG, rS [(11, .int (1 + (w : Int))), (12, oW hy), (15, oC (h (List.take (Int.toNat ((↑(List.length R) : Int) + 1 - 1)) (R ++ [[I 3, AV.ip [I 6, I xn, I xv, I xtk, I xtv, AV.sl 3 (Ty.encs xtl) false, AV.sl 7 (Expr.encs l) false] 0, AV.ip (envC fenv) 0, I gn, I gf, AV.ip (lamC gl) 0, AV.ip (envC ge) 0]])) (steps + 1)))]] [] [] (B true) ([.cells [I fuel, B false, I (steps + 1), .la 1 1, I 0, I 0, B false, .sl 1 (strs es) false, .sl 14 (Def.encs ds) false, I mk, I mn, I mv, I mtk, I mtv, .sl 3 (Ty.encs mtl) false, .sl 7 (Expr.encs ml) false, .ifc 58 (.lp 2 0), .la 4 2, .ip (xE bk bn bv btk btv btl bl) 0, .ip (envC fenv) 0, I (w : Int), I wf, .ip (lamC wl) 0, .ip (envC we) 0] [9, 10, 11, 12, 13, 14, 15], .arr 1 1 E, .cells [.sl 1 (ints cc) false, .sl 1 (ints ci) false, I used, I cu, I width, .sl 1 (ints cuts) false, .la 3 1] [], .arr 1 1 O, .arr 2 7 (List.take (Int.toNat ((R.length : Int) + 1 - 1)) (R ++ [[I 3, .ip (xE 6 xn xv xtk xtv xtl l) 0, .ip (envC fenv) 0, I gn, I gf, .ip (lamC gl) 0, .ip (envC ge) 0]]))]) (q ((↑(List.length (R ++ [[I 3, .ip (xE 6 xn xv xtk xtv xtl l) 0, .ip (envC fenv) 0, I gn, I gf, .ip (lamC gl) 0, .ip (envC ge) 0]])) : Int) = (R.length : Int) + 1) (q ((↑(List.length (R ++ [[I 3, .ip (xE 6 xn xv xtk xtv xtl l) 0, .ip (envC fenv) 0, I gn, I gf, .ip (lamC gl) 0, .ip (envC ge) 0]])) : Int) = (R.length : Int) + 1) (qw ((R.length : Int) + 1 - 1) (q ((R.length : Int) + 1 - 1 = (R.length : Int)) (q (List.length R < List.length (R ++ [[I 3, .ip (xE 6 xn xv xtk xtv xtl l) 0, .ip (envC fenv) 0, I gn, I gf, .ip (lamC gl) 0, .ip (envC ge) 0]])) (q ((R ++ [[I 3, .ip (xE 6 xn xv xtk xtv xtl l) 0, .ip (envC fenv) 0, I gn, I gf, .ip (lamC gl) 0, .ip (envC ge) 0]])[List.length R]? = some (Fr.enc { kind := 3, expr := some (Expr.mk 6 xn xv (Ty.mk xtk xtv xtl) l), env := fenv, fn := Vl.mk gn gf gl ge })) (qF (fuel ≤ steps) (q ((↑(List.length (R ++ [[I 3, .ip (xE 6 xn xv xtk xtv xtl l) 0, .ip (envC fenv) 0, I gn, I gf, .ip (lamC gl) 0, .ip (envC ge) 0]])) : Int) = (R.length : Int) + 1) (qw ((R.length : Int) + 1 - 1) (q ((0 : Int) ≤ (0 : Int)) (q (0 ≤ (R.length : Int) + 1 - 1) (q ((R.length : Int) + 1 - 1 ≤ (↑(List.length (R ++ [[I 3, .ip (xE 6 xn xv xtk xtv xtl l) 0, .ip (envC fenv) 0, I gn, I gf, .ip (lamC gl) 0, .ip (envC ge) 0]])) : Int)) (qw (steps + 1) (qw (1 + (w : Int)) (q (1 + (w : Int) = (↑(1 + w) : Int)) (ob1 hy (ob1 (h (List.take (Int.toNat ((R.length : Int) + 1 - 1)) (R ++ [[I 3, .ip (xE 6 xn xv xtk xtv xtl l) 0, .ip (envC fenv) 0, I gn, I gf, .ip (lamC gl) 0, .ip (envC ge) 0]])) (steps + 1)) ob0))))))))))))))))) (by first | rfl | (simp [*]; done)) (by (refine congrArg (fun x => [_, _, _, _, (.arr 2 7 x : AObj)]) hT))
theorem back_fun (i : Nat) (nm : ByteArray) (pk pv : Int) (pl : List Ty) (rk rv : Int) (rl : List Ty) (bk bn bv btk btv : Int) (btl : List Ty) (bl : List Expr) (gl : Option Expr) (ge : List Vl) (hR : R.length ≤ 4294967296)
  (hf : steps < fuel) (hs : 0 ≤ steps ∧ steps ≤ 10000000) (hd : ds.length ≤ 4294967296) (hw : ds[i]? = some (.mk nm (.mk pk pv pl) (.mk rk rv rl) (.mk bk bn bv (.mk btk btv btl) bl))) :
  SC 63 [.lp 0 0]
   [Mc fuel ⟨es, ds, .mk mk mn mv (.mk mtk mtv mtl) ml⟩ steps 1 1 0 0 false none env (.mk wn wf wl we), .arr 1 1 E, fol cc ci cu used width cuts 3 1, .arr 1 1 O,
    .arr 1 7 (R ++ [(Fr.mk 1 none [] (.mk 0 ((i : Int) + 1) gl ge)).enc])]
   (B true) [Mc fuel ⟨es, ds, .mk mk mn mv (.mk mtk mtv mtl) ml⟩ (steps + 1) 1 2 0 0 false (some (.mk bk bn bv (.mk btk btv btl) bl)) [.mk wn wf wl we] (.mk wn wf wl we), .arr 1 1 E, fol cc ci cu used width cuts 3 1, .arr 1 1 O, .arr 2 7 R] := by
 have hx := getLast_get R (Fr.mk 1 none [] (.mk 0 ((i : Int) + 1) gl ge)).enc
 have hy : (Def.encs ds)[i]? = some (Def.mk nm (.mk pk pv pl) (.mk rk rv rl) (.mk bk bn bv (.mk btk btv btl) bl)).enc := by rw [Def.encs_get, hw]; rfl
 have hlt : i < ds.length := (List.getElem?_eq_some_iff.1 hw).1
 have h := fun R s => goes2 fuel s es ds mk mn mv mtk mtv mtl ml E R cc ci cu cuts O used width env wn wf wl we none (some (.mk bk bn bv (.mk btk btv btl) bl)) wn wf wl we []
 have hT := take_last R (Fr.mk 1 none [] (.mk 0 ((i : Int) + 1) gl ge)).enc ((R.length : Int) + 1 - 1) (by omega)
 clear hw
 exact gR Tryz.func63 [rG, rS [(4, .int ((R.length : Int) + 1))], rS [(8, .int ((R.length : Int) + 1)), (9, .int ((R.length : Int) + 1 - 1)), (10, .nat (List.length R)), (11, .row (List.length R) (Fr.enc { kind := 1, expr := none, env := [], fn := Vl.mk 0 ((i : Int) + 1) gl ge }))], rG, rS [(8, .bit false)], rS [(9, .int ((R.length : Int) + 1)), (10, .int ((R.length : Int) + 1 - 1))], rG, rG, rG, rS [(4, .int (steps + 1))], rG, rG, rG, rG, rS [(2, .bit true)], rS [(8, .int ((i : Int) + 1 - 1)), (9, oW hy), (17, oC (h (List.take (Int.toNat ((↑(List.length R) : Int) + 1 - 1)) (R ++ [[I 1, AV.ip [] 0, AV.ip [] 0, I 0, I ((↑i : Int) + 1), AV.ip (lamC gl) 0, AV.ip (envC ge) 0]])) (steps + 1)))]] [.frz 7, .keep [(2, [])]] [] (B true) ([.cells [I fuel, B false, I (steps + 1), .la 1 1, I 0, I 0, B false, .sl 1 (strs es) false, .sl 14 (Def.encs ds) false, I mk, I mn, I mv, I mtk, I mtv, .sl 3 (Ty.encs mtl) false, .sl 7 (Expr.encs ml) false, .ifc 58 (.lp 2 0), .la 4 2, .ip (xE bk bn bv btk btv btl bl) 0, .ip [I wn, I wf, .ip (lamC wl) 0, .ip (envC we) 0, .ip [] 0] 0, I wn, I wf, .ip (lamC wl) 0, .ip (envC we) 0] [9, 10, 11, 12, 13, 14, 15], .arr 1 1 E, .cells [.sl 1 (ints cc) false, .sl 1 (ints ci) false, I used, I cu, I width, .sl 1 (ints cuts) false, .la 3 1] [], .arr 1 1 O, .arr 2 7 (List.take (Int.toNat ((R.length : Int) + 1 - 1)) (R ++ [[I 1, .ip [] 0, .ip [] 0, I 0, I ((i : Int) + 1), .ip (lamC gl) 0, .ip (envC ge) 0]]))]) (q ((↑(List.length (R ++ [[I 1, .ip [] 0, .ip [] 0, I 0, I ((i : Int) + 1), .ip (lamC gl) 0, .ip (envC ge) 0]])) : Int) = (R.length : Int) + 1) (q ((↑(List.length (R ++ [[I 1, .ip [] 0, .ip [] 0, I 0, I ((i : Int) + 1), .ip (lamC gl) 0, .ip (envC ge) 0]])) : Int) = (R.length : Int) + 1) (qw ((R.length : Int) + 1 - 1) (q ((R.length : Int) + 1 - 1 = (R.length : Int)) (q (List.length R < List.length (R ++ [[I 1, .ip [] 0, .ip [] 0, I 0, I ((i : Int) + 1), .ip (lamC gl) 0, .ip (envC ge) 0]])) (q ((R ++ [[I 1, .ip [] 0, .ip [] 0, I 0, I ((i : Int) + 1), .ip (lamC gl) 0, .ip (envC ge) 0]])[List.length R]? = some (Fr.enc { kind := 1, expr := none, env := [], fn := Vl.mk 0 ((i : Int) + 1) gl ge })) (qF (fuel ≤ steps) (q ((↑(List.length (R ++ [[I 1, .ip [] 0, .ip [] 0, I 0, I ((i : Int) + 1), .ip (lamC gl) 0, .ip (envC ge) 0]])) : Int) = (R.length : Int) + 1) (qw ((R.length : Int) + 1 - 1) (q ((0 : Int) ≤ (0 : Int)) (q (0 ≤ (R.length : Int) + 1 - 1) (q ((R.length : Int) + 1 - 1 ≤ (↑(List.length (R ++ [[I 1, .ip [] 0, .ip [] 0, I 0, I ((i : Int) + 1), .ip (lamC gl) 0, .ip (envC ge) 0]])) : Int)) (qw (steps + 1) (qT (0 < (i : Int) + 1) (qw ((i : Int) + 1 - 1) (q ((i : Int) + 1 - 1 = (i : Int)) (ob1 hy (ob1 (h (List.take (Int.toNat ((R.length : Int) + 1 - 1)) (R ++ [[I 1, .ip [] 0, .ip [] 0, I 0, I ((i : Int) + 1), .ip (lamC gl) 0, .ip (envC ge) 0]])) (steps + 1)) ob0)))))))))))))))))) (by first | rfl | (simp [*]; done)) (by (refine congrArg (fun x => [_, _, _, _, (.arr 2 7 x : AObj)]) hT))
theorem back_clo (xn xv xtk xtv : Int) (xtl : List Ty) (bk bn bv btk btv : Int) (btl : List Ty) (bl : List Expr) (ge : List Vl) (hR : R.length ≤ 4294967296)
  (hf : steps < fuel) (hs : 0 ≤ steps ∧ steps ≤ 10000000) :
  SC 63 [.lp 0 0]
   [Mc fuel ⟨es, ds, .mk mk mn mv (.mk mtk mtv mtl) ml⟩ steps 1 1 0 0 false none env (.mk wn wf wl we), .arr 1 1 E, fol cc ci cu used width cuts 3 1, .arr 1 1 O,
    .arr 1 7 (R ++ [(Fr.mk 1 none [] (.mk 0 0 (some (.mk 4 xn xv (.mk xtk xtv xtl) [.mk bk bn bv (.mk btk btv btl) bl])) ge)).enc])]
   (B true) [Mc fuel ⟨es, ds, .mk mk mn mv (.mk mtk mtv mtl) ml⟩ (steps + 1) 1 2 0 0 false (some (.mk bk bn bv (.mk btk btv btl) bl)) (.mk wn wf wl we :: ge) (.mk wn wf wl we), .arr 1 1 E, fol cc ci cu used width cuts 3 1, .arr 1 1 O, .arr 2 7 R] := by
 have hx := getLast_get R (Fr.mk 1 none [] (.mk 0 0 (some (.mk 4 xn xv (.mk xtk xtv xtl) [.mk bk bn bv (.mk btk btv btl) bl])) ge)).enc
 have h := fun R s => goes2 fuel s es ds mk mn mv mtk mtv mtl ml E R cc ci cu cuts O used width env wn wf wl we none (some (.mk bk bn bv (.mk btk btv btl) bl)) wn wf wl we ge
 have hT := take_last R (Fr.mk 1 none [] (.mk 0 0 (some (.mk 4 xn xv (.mk xtk xtv xtl) [.mk bk bn bv (.mk btk btv btl) bl])) ge)).enc ((R.length : Int) + 1 - 1) (by omega)
 exact gR Tryz.func63 ([rG, rS [(4, .int ((R.length : Int) + 1))], rS [(8, .int ((R.length : Int) + 1)), (9, .int ((R.length : Int) + 1 - 1)), (10, .nat (List.length R)), (11, .row (List.length R) (Fr.enc { kind := 1, expr := none, env := [], fn := Vl.mk 0 0 (some (Expr.mk 4 xn xv (Ty.mk xtk xtv xtl) [Expr.mk bk bn bv (Ty.mk btk btv btl) bl])) ge }))], rG, rS [(8, .bit false)], rS [(9, .int ((R.length : Int) + 1)), (10, .int ((R.length : Int) + 1 - 1))], rG, rG, rG, rS [(4, .int (steps + 1))]] ++ (rGs 5 [rS [(7, .row 0 (xE bk bn bv btk btv btl bl)), (17, oC (h (List.take (Int.toNat ((↑(List.length R) : Int) + 1 - 1)) (R ++ [[I 1, AV.ip [] 0, AV.ip [] 0, I 0, I 0, AV.ip [I 4, I xn, I xv, I xtk, I xtv, AV.sl 3 (Ty.encs xtl) false, AV.sl 7 [[I bk, I bn, I bv, I btk, I btv, AV.sl 3 (Ty.encs btl) false, AV.sl 7 (Expr.encs bl) false]] false] 0, AV.ip (envC ge) 0]])) (steps + 1)))]])) [.frz 7, .keep [(2, [])]] [] (B true) ([.cells [I fuel, B false, I (steps + 1), .la 1 1, I 0, I 0, B false, .sl 1 (strs es) false, .sl 14 (Def.encs ds) false, I mk, I mn, I mv, I mtk, I mtv, .sl 3 (Ty.encs mtl) false, .sl 7 (Expr.encs ml) false, .ifc 58 (.lp 2 0), .la 4 2, .ip (xE bk bn bv btk btv btl bl) 0, .ip [I wn, I wf, .ip (lamC wl) 0, .ip (envC we) 0, .ip (envC ge) 0] 0, I wn, I wf, .ip (lamC wl) 0, .ip (envC we) 0] [9, 10, 11, 12, 13, 14, 15], .arr 1 1 E, .cells [.sl 1 (ints cc) false, .sl 1 (ints ci) false, I used, I cu, I width, .sl 1 (ints cuts) false, .la 3 1] [], .arr 1 1 O, .arr 2 7 (List.take (Int.toNat ((R.length : Int) + 1 - 1)) (R ++ [[I 1, .ip [] 0, .ip [] 0, I 0, I 0, .ip [I 4, I xn, I xv, I xtk, I xtv, .sl 3 (Ty.encs xtl) false, .sl 7 [(xE bk bn bv btk btv btl bl)] false] 0, .ip (envC ge) 0]]))]) (q ((↑(List.length (R ++ [[I 1, .ip [] 0, .ip [] 0, I 0, I 0, .ip [I 4, I xn, I xv, I xtk, I xtv, .sl 3 (Ty.encs xtl) false, .sl 7 [(xE bk bn bv btk btv btl bl)] false] 0, .ip (envC ge) 0]])) : Int) = (R.length : Int) + 1) (q ((↑(List.length (R ++ [[I 1, .ip [] 0, .ip [] 0, I 0, I 0, .ip [I 4, I xn, I xv, I xtk, I xtv, .sl 3 (Ty.encs xtl) false, .sl 7 [(xE bk bn bv btk btv btl bl)] false] 0, .ip (envC ge) 0]])) : Int) = (R.length : Int) + 1) (qw ((R.length : Int) + 1 - 1) (q ((R.length : Int) + 1 - 1 = (R.length : Int)) (q (List.length R < List.length (R ++ [[I 1, .ip [] 0, .ip [] 0, I 0, I 0, .ip [I 4, I xn, I xv, I xtk, I xtv, .sl 3 (Ty.encs xtl) false, .sl 7 [(xE bk bn bv btk btv btl bl)] false] 0, .ip (envC ge) 0]])) (q ((R ++ [[I 1, .ip [] 0, .ip [] 0, I 0, I 0, .ip [I 4, I xn, I xv, I xtk, I xtv, .sl 3 (Ty.encs xtl) false, .sl 7 [(xE bk bn bv btk btv btl bl)] false] 0, .ip (envC ge) 0]])[List.length R]? = some (Fr.enc { kind := 1, expr := none, env := [], fn := Vl.mk 0 0 (some (Expr.mk 4 xn xv (Ty.mk xtk xtv xtl) [Expr.mk bk bn bv (Ty.mk btk btv btl) bl])) ge })) (qF (fuel ≤ steps) (q ((↑(List.length (R ++ [[I 1, .ip [] 0, .ip [] 0, I 0, I 0, .ip [I 4, I xn, I xv, I xtk, I xtv, .sl 3 (Ty.encs xtl) false, .sl 7 [(xE bk bn bv btk btv btl bl)] false] 0, .ip (envC ge) 0]])) : Int) = (R.length : Int) + 1) (qw ((R.length : Int) + 1 - 1) (q ((0 : Int) ≤ (0 : Int)) (q (0 ≤ (R.length : Int) + 1 - 1) (q ((R.length : Int) + 1 - 1 ≤ (↑(List.length (R ++ [[I 1, .ip [] 0, .ip [] 0, I 0, I 0, .ip [I 4, I xn, I xv, I xtk, I xtv, .sl 3 (Ty.encs xtl) false, .sl 7 [(xE bk bn bv btk btv btl bl)] false] 0, .ip (envC ge) 0]])) : Int)) (qw (steps + 1) (qI 0 (qC0 ((xE bk bn bv btk btv btl bl)) [] (ob1 (h (List.take (Int.toNat ((R.length : Int) + 1 - 1)) (R ++ [[I 1, .ip [] 0, .ip [] 0, I 0, I 0, .ip [I 4, I xn, I xv, I xtk, I xtv, .sl 3 (Ty.encs xtl) false, .sl 7 [(xE bk bn bv btk btv btl bl)] false] 0, .ip (envC ge) 0]])) (steps + 1)) ob0)))))))))))))))) (by first | rfl | (simp [*]; done)) (by (refine congrArg (fun x => [_, _, _, _, (.arr 2 7 x : AObj)]) hT))
theorem back_add_no (xk xn xv xtk xtv : Int) (xtl : List Ty) (l : List Expr) (fenv : List Vl) (gn gf : Int) (gl : Option Expr) (ge : List Vl) (hR : R.length ≤ 4294967296) (hf : steps < fuel) (hs : 0 ≤ steps ∧ steps ≤ 10000000)
  (hk : cuts.length ≤ 3) (k : Nat) (hkn : clC wn cuts 0 = (k : Int)) (hkl : k ≤ cuts.length) (hr : ∀ x ∈ cuts, -2000 ≤ x ∧ x ≤ 2000) (x : Int) (hc : afterC cuts k xn = [x]) :
  SC 63 [.lp 0 0]
   [Mc fuel ⟨es, ds, .mk mk mn mv (.mk mtk mtv mtl) ml⟩ steps 1 1 0 0 false none env (.mk wn wf wl we), .arr 1 1 E, fol cc ci cu used width cuts 3 1, .arr 1 1 O, .arr 1 7 (R ++ [(Fr.mk 4 (some (.mk xk xn xv (.mk xtk xtv xtl) l)) fenv (.mk gn gf gl ge)).enc])]
   (B true) [Mc fuel ⟨es, ds, .mk mk mn mv (.mk mtk mtv mtl) ml⟩ (steps + 1) 1 2 0 0 false none [] (.mk (IntKind.wrap .i64 (wn + xn)) 0 none []), .arr 1 1 E, fol cc ci cu used width cuts 3 1, .arr 1 1 O, .arr 2 7 R] := by
 have hx := getLast_get R (Fr.mk 4 (some (.mk xk xn xv (.mk xtk xtv xtl) l)) fenv (.mk gn gf gl ge)).enc
 have hw := add_no cc ci cu cuts O used width wn xn hk hr k hkn hkl x hc
 clear hc hr
 have h := fun R O n => answered0 fuel steps es ds mk mn mv mtk mtv mtl ml E R cc ci cu cuts O used width none env wn wf wl we 0 0 false n hs
 have hT := take_last R (Fr.mk 4 (some (.mk xk xn xv (.mk xtk xtv xtl) l)) fenv (.mk gn gf gl ge)).enc ((R.length : Int) + 1 - 1) (by omega)
 clear hkn
 exact gR Tryz.func63 [rG, rS [(4, .int ((R.length : Int) + 1))], rS [(8, .int ((R.length : Int) + 1)), (9, .int ((R.length : Int) + 1 - 1)), (10, .nat (List.length R)), (11, .row (List.length R) (Fr.enc { kind := 4, expr := some (Expr.mk xk xn xv (Ty.mk xtk xtv xtl) l), env := fenv, fn := Vl.mk gn gf gl ge }))], rG, rS [(8, .bit false)], rS [(9, .int ((R.length : Int) + 1)), (10, .int ((R.length : Int) + 1 - 1))], rG, rG, rS [(17, oC hw), (20, oC (h (List.take (Int.toNat ((↑(List.length R) : Int) + 1 - 1)) (R ++ [[I 4, AV.ip [I xk, I xn, I xv, I xtk, I xtv, AV.sl 3 (Ty.encs xtl) false, AV.sl 7 (Expr.encs l) false] 0, AV.ip (envC fenv) 0, I gn, I gf, AV.ip (lamC gl) 0, AV.ip (envC ge) 0]])) (O) (IntKind.wrap IntKind.i64 (wn + xn))))]] [] [] (B true) ([.cells [I fuel, B false, I (steps + 1), .la 1 1, I 0, I 0, B false, .sl 1 (strs es) false, .sl 14 (Def.encs ds) false, I mk, I mn, I mv, I mtk, I mtv, .sl 3 (Ty.encs mtl) false, .sl 7 (Expr.encs ml) false, .ifc 58 (.lp 2 0), .la 4 2, .ip [] 0, .ip [] 0, I (IntKind.wrap IntKind.i64 (wn + xn)), I 0, .ip [] 0, .ip [] 0] [9, 10, 11, 12, 13, 14, 15], .arr 1 1 E, .cells [.sl 1 (ints cc) false, .sl 1 (ints ci) false, I used, I cu, I width, .sl 1 (ints cuts) false, .la 3 1] [], .arr 1 1 O, .arr 2 7 (List.take (Int.toNat ((R.length : Int) + 1 - 1)) (R ++ [[I 4, .ip (xE xk xn xv xtk xtv xtl l) 0, .ip (envC fenv) 0, I gn, I gf, .ip (lamC gl) 0, .ip (envC ge) 0]]))]) (q ((↑(List.length (R ++ [[I 4, .ip (xE xk xn xv xtk xtv xtl l) 0, .ip (envC fenv) 0, I gn, I gf, .ip (lamC gl) 0, .ip (envC ge) 0]])) : Int) = (R.length : Int) + 1) (q ((↑(List.length (R ++ [[I 4, .ip (xE xk xn xv xtk xtv xtl l) 0, .ip (envC fenv) 0, I gn, I gf, .ip (lamC gl) 0, .ip (envC ge) 0]])) : Int) = (R.length : Int) + 1) (qw ((R.length : Int) + 1 - 1) (q ((R.length : Int) + 1 - 1 = (R.length : Int)) (q (List.length R < List.length (R ++ [[I 4, .ip (xE xk xn xv xtk xtv xtl l) 0, .ip (envC fenv) 0, I gn, I gf, .ip (lamC gl) 0, .ip (envC ge) 0]])) (q ((R ++ [[I 4, .ip (xE xk xn xv xtk xtv xtl l) 0, .ip (envC fenv) 0, I gn, I gf, .ip (lamC gl) 0, .ip (envC ge) 0]])[List.length R]? = some (Fr.enc { kind := 4, expr := some (Expr.mk xk xn xv (Ty.mk xtk xtv xtl) l), env := fenv, fn := Vl.mk gn gf gl ge })) (qF (fuel ≤ steps) (q ((↑(List.length (R ++ [[I 4, .ip (xE xk xn xv xtk xtv xtl l) 0, .ip (envC fenv) 0, I gn, I gf, .ip (lamC gl) 0, .ip (envC ge) 0]])) : Int) = (R.length : Int) + 1) (qw ((R.length : Int) + 1 - 1) (q ((0 : Int) ≤ (0 : Int)) (q (0 ≤ (R.length : Int) + 1 - 1) (q ((R.length : Int) + 1 - 1 ≤ (↑(List.length (R ++ [[I 4, .ip (xE xk xn xv xtk xtv xtl l) 0, .ip (envC fenv) 0, I gn, I gf, .ip (lamC gl) 0, .ip (envC ge) 0]])) : Int)) (ob1 (hw) (ob1 (h (List.take (Int.toNat ((R.length : Int) + 1 - 1)) (R ++ [[I 4, .ip (xE xk xn xv xtk xtv xtl l) 0, .ip (envC fenv) 0, I gn, I gf, .ip (lamC gl) 0, .ip (envC ge) 0]])) (O) (IntKind.wrap IntKind.i64 (wn + xn))) ob0)))))))))))))) (by first | rfl | (simp [*]; done)) (by (refine congrArg (fun x => [_, _, _, _, (.arr 2 7 x : AObj)]) hT))
theorem back_add_yes (xk xn xv xtk xtv : Int) (xtl : List Ty) (l : List Expr) (fenv : List Vl) (gn gf : Int) (gl : Option Expr) (ge : List Vl) (hR : R.length ≤ 4294967296) (hf : steps < fuel) (hs : 0 ≤ steps ∧ steps ≤ 10000000)
  (hk : cuts.length ≤ 3) (k : Nat) (hkn : clC wn cuts 0 = (k : Int)) (hkl : k ≤ cuts.length) (hr : ∀ x ∈ cuts, -2000 ≤ x ∧ x ≤ 2000) (x y : Int) (hc : afterC cuts k xn = [x, y]) (hO : O.length ≤ 4294967296) :
  SC 63 [.lp 0 0]
   [Mc fuel ⟨es, ds, .mk mk mn mv (.mk mtk mtv mtl) ml⟩ steps 1 1 0 0 false none env (.mk wn wf wl we), .arr 1 1 E, fol cc ci cu used width cuts 3 1, .arr 1 1 O, .arr 1 7 (R ++ [(Fr.mk 4 (some (.mk xk xn xv (.mk xtk xtv xtl) l)) fenv (.mk gn gf gl ge)).enc])]
   (B true) [Mc fuel ⟨es, ds, .mk mk mn mv (.mk mtk mtv mtl) ml⟩ (steps + 1) 1 2 0 0 false none [] (.mk (IntKind.wrap .i64 (wn + xn)) 0 none []), .arr 1 1 E, fol cc ci cu used width cuts 3 2, .arr 2 1 (O ++ [[I (idxC x y (clC (IntKind.wrap .i64 (wn + xn)) cuts 0))]]), .arr 2 7 R] := by
 have hx := getLast_get R (Fr.mk 4 (some (.mk xk xn xv (.mk xtk xtv xtl) l)) fenv (.mk gn gf gl ge)).enc
 have hw := add_yes cc ci cu cuts O used width wn xn hk hr k hkn hkl x y hc hO
 clear hc hr
 generalize idxC x y (clC (IntKind.wrap .i64 (wn + xn)) cuts 0) = J at hw ⊢
 have h := fun R O n => answered0 fuel steps es ds mk mn mv mtk mtv mtl ml E R cc ci cu cuts O used width none env wn wf wl we 0 0 false n hs
 have hT := take_last R (Fr.mk 4 (some (.mk xk xn xv (.mk xtk xtv xtl) l)) fenv (.mk gn gf gl ge)).enc ((R.length : Int) + 1 - 1) (by omega)
 clear hkn
 exact gR Tryz.func63 [rG, rS [(4, .int ((R.length : Int) + 1))], rS [(8, .int ((R.length : Int) + 1)), (9, .int ((R.length : Int) + 1 - 1)), (10, .nat (List.length R)), (11, .row (List.length R) (Fr.enc { kind := 4, expr := some (Expr.mk xk xn xv (Ty.mk xtk xtv xtl) l), env := fenv, fn := Vl.mk gn gf gl ge }))], rG, rS [(8, .bit false)], rS [(9, .int ((R.length : Int) + 1)), (10, .int ((R.length : Int) + 1 - 1))], rG, rG, rS [(17, oC hw), (20, oC (h (List.take (Int.toNat ((↑(List.length R) : Int) + 1 - 1)) (R ++ [[I 4, AV.ip [I xk, I xn, I xv, I xtk, I xtv, AV.sl 3 (Ty.encs xtl) false, AV.sl 7 (Expr.encs l) false] 0, AV.ip (envC fenv) 0, I gn, I gf, AV.ip (lamC gl) 0, AV.ip (envC ge) 0]])) (O ++ [[I J]]) (IntKind.wrap IntKind.i64 (wn + xn))))]] [] [] (B true) ([.cells [I fuel, B false, I (steps + 1), .la 1 1, I 0, I 0, B false, .sl 1 (strs es) false, .sl 14 (Def.encs ds) false, I mk, I mn, I mv, I mtk, I mtv, .sl 3 (Ty.encs mtl) false, .sl 7 (Expr.encs ml) false, .ifc 58 (.lp 2 0), .la 4 2, .ip [] 0, .ip [] 0, I (IntKind.wrap IntKind.i64 (wn + xn)), I 0, .ip [] 0, .ip [] 0] [9, 10, 11, 12, 13, 14, 15], .arr 1 1 E, .cells [.sl 1 (ints cc) false, .sl 1 (ints ci) false, I used, I cu, I width, .sl 1 (ints cuts) false, .la 3 2] [], .arr 2 1 (O ++ [[I J]]), .arr 2 7 (List.take (Int.toNat ((R.length : Int) + 1 - 1)) (R ++ [[I 4, .ip (xE xk xn xv xtk xtv xtl l) 0, .ip (envC fenv) 0, I gn, I gf, .ip (lamC gl) 0, .ip (envC ge) 0]]))]) (q ((↑(List.length (R ++ [[I 4, .ip (xE xk xn xv xtk xtv xtl l) 0, .ip (envC fenv) 0, I gn, I gf, .ip (lamC gl) 0, .ip (envC ge) 0]])) : Int) = (R.length : Int) + 1) (q ((↑(List.length (R ++ [[I 4, .ip (xE xk xn xv xtk xtv xtl l) 0, .ip (envC fenv) 0, I gn, I gf, .ip (lamC gl) 0, .ip (envC ge) 0]])) : Int) = (R.length : Int) + 1) (qw ((R.length : Int) + 1 - 1) (q ((R.length : Int) + 1 - 1 = (R.length : Int)) (q (List.length R < List.length (R ++ [[I 4, .ip (xE xk xn xv xtk xtv xtl l) 0, .ip (envC fenv) 0, I gn, I gf, .ip (lamC gl) 0, .ip (envC ge) 0]])) (q ((R ++ [[I 4, .ip (xE xk xn xv xtk xtv xtl l) 0, .ip (envC fenv) 0, I gn, I gf, .ip (lamC gl) 0, .ip (envC ge) 0]])[List.length R]? = some (Fr.enc { kind := 4, expr := some (Expr.mk xk xn xv (Ty.mk xtk xtv xtl) l), env := fenv, fn := Vl.mk gn gf gl ge })) (qF (fuel ≤ steps) (q ((↑(List.length (R ++ [[I 4, .ip (xE xk xn xv xtk xtv xtl l) 0, .ip (envC fenv) 0, I gn, I gf, .ip (lamC gl) 0, .ip (envC ge) 0]])) : Int) = (R.length : Int) + 1) (qw ((R.length : Int) + 1 - 1) (q ((0 : Int) ≤ (0 : Int)) (q (0 ≤ (R.length : Int) + 1 - 1) (q ((R.length : Int) + 1 - 1 ≤ (↑(List.length (R ++ [[I 4, .ip (xE xk xn xv xtk xtv xtl l) 0, .ip (envC fenv) 0, I gn, I gf, .ip (lamC gl) 0, .ip (envC ge) 0]])) : Int)) (ob1 (hw) (ob1 (h (List.take (Int.toNat ((R.length : Int) + 1 - 1)) (R ++ [[I 4, .ip (xE xk xn xv xtk xtv xtl l) 0, .ip (envC fenv) 0, I gn, I gf, .ip (lamC gl) 0, .ip (envC ge) 0]])) (O ++ [[I J]]) (IntKind.wrap IntKind.i64 (wn + xn))) ob0)))))))))))))) (by first | rfl | (simp [*]; done)) (by (refine congrArg (fun x => [_, _, _, _, (.arr 2 7 x : AObj)]) hT))
theorem back_less_no (xk xn xv xtk xtv : Int) (xtl : List Ty) (l : List Expr) (fenv : List Vl) (gn gf : Int) (gl : Option Expr) (ge : List Vl) (hR : R.length ≤ 4294967296) (hf : steps < fuel) (hs : 0 ≤ steps ∧ steps ≤ 10000000)
  (hk : cuts.length ≤ 3) (k : Nat) (hkn : clC wn cuts 0 = (k : Int)) (hkl : k ≤ cuts.length) (hc : ¬ lessC cuts k xn < 0) :
  SC 63 [.lp 0 0]
   [Mc fuel ⟨es, ds, .mk mk mn mv (.mk mtk mtv mtl) ml⟩ steps 1 1 0 0 false none env (.mk wn wf wl we), .arr 1 1 E, fol cc ci cu used width cuts 3 1, .arr 1 1 O, .arr 1 7 (R ++ [(Fr.mk 5 (some (.mk xk xn xv (.mk xtk xtv xtl) l)) fenv (.mk gn gf gl ge)).enc])]
   (B true) [Mc fuel ⟨es, ds, .mk mk mn mv (.mk mtk mtv mtl) ml⟩ (steps + 1) 1 2 0 0 false none [] (.mk (if wn < xn then 1 else 0) 0 none []), .arr 1 1 E, fol cc ci cu used width cuts 3 1, .arr 1 1 O, .arr 2 7 R] := by
 have hx := getLast_get R (Fr.mk 5 (some (.mk xk xn xv (.mk xtk xtv xtl) l)) fenv (.mk gn gf gl ge)).enc
 have hw := less_no cc ci cu cuts O used width wn xn hk k hkn hkl hc
 clear hc
 generalize (if wn < xn then (1 : Int) else 0) = zz at hw ⊢
 have h := fun R O n => answered0 fuel steps es ds mk mn mv mtk mtv mtl ml E R cc ci cu cuts O used width none env wn wf wl we 0 0 false n hs
 have hT := take_last R (Fr.mk 5 (some (.mk xk xn xv (.mk xtk xtv xtl) l)) fenv (.mk gn gf gl ge)).enc ((R.length : Int) + 1 - 1) (by omega)
 clear hkn
 exact gR Tryz.func63 [rG, rS [(4, .int ((R.length : Int) + 1))], rS [(8, .int ((R.length : Int) + 1)), (9, .int ((R.length : Int) + 1 - 1)), (10, .nat (List.length R)), (11, .row (List.length R) (Fr.enc { kind := 5, expr := some (Expr.mk xk xn xv (Ty.mk xtk xtv xtl) l), env := fenv, fn := Vl.mk gn gf gl ge }))], rG, rS [(8, .bit false)], rS [(9, .int ((R.length : Int) + 1)), (10, .int ((R.length : Int) + 1 - 1))], rG, rG, rG, rS [(17, oC hw), (20, oC (h (List.take (Int.toNat ((↑(List.length R) : Int) + 1 - 1)) (R ++ [[I 5, AV.ip [I xk, I xn, I xv, I xtk, I xtv, AV.sl 3 (Ty.encs xtl) false, AV.sl 7 (Expr.encs l) false] 0, AV.ip (envC fenv) 0, I gn, I gf, AV.ip (lamC gl) 0, AV.ip (envC ge) 0]])) (O) (zz)))]] [] [] (B true) ([.cells [I fuel, B false, I (steps + 1), .la 1 1, I 0, I 0, B false, .sl 1 (strs es) false, .sl 14 (Def.encs ds) false, I mk, I mn, I mv, I mtk, I mtv, .sl 3 (Ty.encs mtl) false, .sl 7 (Expr.encs ml) false, .ifc 58 (.lp 2 0), .la 4 2, .ip [] 0, .ip [] 0, I zz, I 0, .ip [] 0, .ip [] 0] [9, 10, 11, 12, 13, 14, 15], .arr 1 1 E, .cells [.sl 1 (ints cc) false, .sl 1 (ints ci) false, I used, I cu, I width, .sl 1 (ints cuts) false, .la 3 1] [], .arr 1 1 O, .arr 2 7 (List.take (Int.toNat ((R.length : Int) + 1 - 1)) (R ++ [[I 5, .ip (xE xk xn xv xtk xtv xtl l) 0, .ip (envC fenv) 0, I gn, I gf, .ip (lamC gl) 0, .ip (envC ge) 0]]))]) (q ((↑(List.length (R ++ [[I 5, .ip (xE xk xn xv xtk xtv xtl l) 0, .ip (envC fenv) 0, I gn, I gf, .ip (lamC gl) 0, .ip (envC ge) 0]])) : Int) = (R.length : Int) + 1) (q ((↑(List.length (R ++ [[I 5, .ip (xE xk xn xv xtk xtv xtl l) 0, .ip (envC fenv) 0, I gn, I gf, .ip (lamC gl) 0, .ip (envC ge) 0]])) : Int) = (R.length : Int) + 1) (qw ((R.length : Int) + 1 - 1) (q ((R.length : Int) + 1 - 1 = (R.length : Int)) (q (List.length R < List.length (R ++ [[I 5, .ip (xE xk xn xv xtk xtv xtl l) 0, .ip (envC fenv) 0, I gn, I gf, .ip (lamC gl) 0, .ip (envC ge) 0]])) (q ((R ++ [[I 5, .ip (xE xk xn xv xtk xtv xtl l) 0, .ip (envC fenv) 0, I gn, I gf, .ip (lamC gl) 0, .ip (envC ge) 0]])[List.length R]? = some (Fr.enc { kind := 5, expr := some (Expr.mk xk xn xv (Ty.mk xtk xtv xtl) l), env := fenv, fn := Vl.mk gn gf gl ge })) (qF (fuel ≤ steps) (q ((↑(List.length (R ++ [[I 5, .ip (xE xk xn xv xtk xtv xtl l) 0, .ip (envC fenv) 0, I gn, I gf, .ip (lamC gl) 0, .ip (envC ge) 0]])) : Int) = (R.length : Int) + 1) (qw ((R.length : Int) + 1 - 1) (q ((0 : Int) ≤ (0 : Int)) (q (0 ≤ (R.length : Int) + 1 - 1) (q ((R.length : Int) + 1 - 1 ≤ (↑(List.length (R ++ [[I 5, .ip (xE xk xn xv xtk xtv xtl l) 0, .ip (envC fenv) 0, I gn, I gf, .ip (lamC gl) 0, .ip (envC ge) 0]])) : Int)) (ob1 (hw) (ob1 (h (List.take (Int.toNat ((R.length : Int) + 1 - 1)) (R ++ [[I 5, .ip (xE xk xn xv xtk xtv xtl l) 0, .ip (envC fenv) 0, I gn, I gf, .ip (lamC gl) 0, .ip (envC ge) 0]])) (O) (zz)) ob0)))))))))))))) (by first | rfl | (simp [*]; done)) (by (refine congrArg (fun x => [_, _, _, _, (.arr 2 7 x : AObj)]) hT))
theorem back_less_yes (xk xn xv xtk xtv : Int) (xtl : List Ty) (l : List Expr) (fenv : List Vl) (gn gf : Int) (gl : Option Expr) (ge : List Vl) (hR : R.length ≤ 4294967296) (hf : steps < fuel) (hs : 0 ≤ steps ∧ steps ≤ 10000000)
  (hk : cuts.length ≤ 3) (k : Nat) (hkn : clC wn cuts 0 = (k : Int)) (hkl : k ≤ cuts.length) (hc : lessC cuts k xn < 0) (hO : O.length ≤ 4294967296) :
  SC 63 [.lp 0 0]
   [Mc fuel ⟨es, ds, .mk mk mn mv (.mk mtk mtv mtl) ml⟩ steps 1 1 0 0 false none env (.mk wn wf wl we), .arr 1 1 E, fol cc ci cu used width cuts 3 1, .arr 1 1 O, .arr 1 7 (R ++ [(Fr.mk 5 (some (.mk xk xn xv (.mk xtk xtv xtl) l)) fenv (.mk gn gf gl ge)).enc])]
   (B true) [Mc fuel ⟨es, ds, .mk mk mn mv (.mk mtk mtv mtl) ml⟩ (steps + 1) 1 2 0 0 false none [] (.mk (if wn < xn then 1 else 0) 0 none []), .arr 1 1 E, fol cc ci cu used width cuts 3 2, .arr 2 1 (O ++ [[I (if wn < xn then 1 else 0)]]), .arr 2 7 R] := by
 have hx := getLast_get R (Fr.mk 5 (some (.mk xk xn xv (.mk xtk xtv xtl) l)) fenv (.mk gn gf gl ge)).enc
 have hw := less_yes cc ci cu cuts O used width wn xn hk k hkn hkl hc hO
 clear hc
 generalize (if wn < xn then (1 : Int) else 0) = zz at hw ⊢
 have h := fun R O n => answered0 fuel steps es ds mk mn mv mtk mtv mtl ml E R cc ci cu cuts O used width none env wn wf wl we 0 0 false n hs
 have hT := take_last R (Fr.mk 5 (some (.mk xk xn xv (.mk xtk xtv xtl) l)) fenv (.mk gn gf gl ge)).enc ((R.length : Int) + 1 - 1) (by omega)
 clear hkn
 exact gR Tryz.func63 [rG, rS [(4, .int ((R.length : Int) + 1))], rS [(8, .int ((R.length : Int) + 1)), (9, .int ((R.length : Int) + 1 - 1)), (10, .nat (List.length R)), (11, .row (List.length R) (Fr.enc { kind := 5, expr := some (Expr.mk xk xn xv (Ty.mk xtk xtv xtl) l), env := fenv, fn := Vl.mk gn gf gl ge }))], rG, rS [(8, .bit false)], rS [(9, .int ((R.length : Int) + 1)), (10, .int ((R.length : Int) + 1 - 1))], rG, rG, rG, rS [(17, oC hw), (20, oC (h (List.take (Int.toNat ((↑(List.length R) : Int) + 1 - 1)) (R ++ [[I 5, AV.ip [I xk, I xn, I xv, I xtk, I xtv, AV.sl 3 (Ty.encs xtl) false, AV.sl 7 (Expr.encs l) false] 0, AV.ip (envC fenv) 0, I gn, I gf, AV.ip (lamC gl) 0, AV.ip (envC ge) 0]])) (O ++ [[I zz]]) (zz)))]] [] [] (B true) ([.cells [I fuel, B false, I (steps + 1), .la 1 1, I 0, I 0, B false, .sl 1 (strs es) false, .sl 14 (Def.encs ds) false, I mk, I mn, I mv, I mtk, I mtv, .sl 3 (Ty.encs mtl) false, .sl 7 (Expr.encs ml) false, .ifc 58 (.lp 2 0), .la 4 2, .ip [] 0, .ip [] 0, I zz, I 0, .ip [] 0, .ip [] 0] [9, 10, 11, 12, 13, 14, 15], .arr 1 1 E, .cells [.sl 1 (ints cc) false, .sl 1 (ints ci) false, I used, I cu, I width, .sl 1 (ints cuts) false, .la 3 2] [], .arr 2 1 (O ++ [[I zz]]), .arr 2 7 (List.take (Int.toNat ((R.length : Int) + 1 - 1)) (R ++ [[I 5, .ip (xE xk xn xv xtk xtv xtl l) 0, .ip (envC fenv) 0, I gn, I gf, .ip (lamC gl) 0, .ip (envC ge) 0]]))]) (q ((↑(List.length (R ++ [[I 5, .ip (xE xk xn xv xtk xtv xtl l) 0, .ip (envC fenv) 0, I gn, I gf, .ip (lamC gl) 0, .ip (envC ge) 0]])) : Int) = (R.length : Int) + 1) (q ((↑(List.length (R ++ [[I 5, .ip (xE xk xn xv xtk xtv xtl l) 0, .ip (envC fenv) 0, I gn, I gf, .ip (lamC gl) 0, .ip (envC ge) 0]])) : Int) = (R.length : Int) + 1) (qw ((R.length : Int) + 1 - 1) (q ((R.length : Int) + 1 - 1 = (R.length : Int)) (q (List.length R < List.length (R ++ [[I 5, .ip (xE xk xn xv xtk xtv xtl l) 0, .ip (envC fenv) 0, I gn, I gf, .ip (lamC gl) 0, .ip (envC ge) 0]])) (q ((R ++ [[I 5, .ip (xE xk xn xv xtk xtv xtl l) 0, .ip (envC fenv) 0, I gn, I gf, .ip (lamC gl) 0, .ip (envC ge) 0]])[List.length R]? = some (Fr.enc { kind := 5, expr := some (Expr.mk xk xn xv (Ty.mk xtk xtv xtl) l), env := fenv, fn := Vl.mk gn gf gl ge })) (qF (fuel ≤ steps) (q ((↑(List.length (R ++ [[I 5, .ip (xE xk xn xv xtk xtv xtl l) 0, .ip (envC fenv) 0, I gn, I gf, .ip (lamC gl) 0, .ip (envC ge) 0]])) : Int) = (R.length : Int) + 1) (qw ((R.length : Int) + 1 - 1) (q ((0 : Int) ≤ (0 : Int)) (q (0 ≤ (R.length : Int) + 1 - 1) (q ((R.length : Int) + 1 - 1 ≤ (↑(List.length (R ++ [[I 5, .ip (xE xk xn xv xtk xtv xtl l) 0, .ip (envC fenv) 0, I gn, I gf, .ip (lamC gl) 0, .ip (envC ge) 0]])) : Int)) (ob1 (hw) (ob1 (h (List.take (Int.toNat ((R.length : Int) + 1 - 1)) (R ++ [[I 5, .ip (xE xk xn xv xtk xtv xtl l) 0, .ip (envC fenv) 0, I gn, I gf, .ip (lamC gl) 0, .ip (envC ge) 0]])) (O ++ [[I zz]]) (zz)) ob0)))))))))))))) (by first | rfl | (simp [*]; done)) (by (refine congrArg (fun x => [_, _, _, _, (.arr 2 7 x : AObj)]) hT))
end
end Go.Ae.N.L
namespace Go.Ae.N.L
open Go.Proofs
section
variable (fuel steps : Int) (es : List ByteArray) (ds : List Def) (mk mn mv mtk mtv : Int) (mtl : List Ty) (ml : List Expr) (E R : List (List AV)) (cc ci : List Int) (cu : Int) (cuts : List Int) (O : List (List AV))
 (env : List Vl) (wn wf : Int) (wl : Option Expr) (we : List Vl)
theorem move_const (used : Int) (n v tk tv : Int) (tl : List Ty) (l : List Expr) :
  SC 37 [.lp 0 0]
   [Mc fuel ⟨es, ds, .mk mk mn mv (.mk mtk mtv mtl) ml⟩ steps 1 1 0 0 false (some (.mk 0 n v (.mk tk tv tl) l)) env (.mk wn wf wl we), .arr 1 1 E, fol cc ci cu used 0 cuts 3 1, .arr 1 1 O, .arr 1 7 R]
   (B true) [Mc fuel ⟨es, ds, .mk mk mn mv (.mk mtk mtv mtl) ml⟩ steps 1 1 0 0 false none [] (.mk n 0 none []), .arr 1 1 E, fol cc ci cu used 0 cuts 3 1, .arr 1 1 O, .arr 1 7 R] := by
 have h := yield_ fuel steps es ds mk mn mv mtk mtv mtl ml E R cc ci cu cuts O used 0 (some (.mk 0 n v (.mk tk tv tl) l)) env wn wf wl we 0 0 false n 0 none []
 exact gF Tryz.func37 (rGs 5 [rS [(6, oC h)]]) (ob1 (h) ob0)
theorem move_var (used : Int) (n : Nat) (v tk tv : Int) (tl : List Ty) (l : List Expr) (vn vf : Int) (vl : Option Expr) (ve : List Vl) (hv : env[n]? = some (.mk vn vf vl ve)) (hn : n ≤ 9223372036854775807) :
  SC 37 [.lp 0 0]
   [Mc fuel ⟨es, ds, .mk mk mn mv (.mk mtk mtv mtl) ml⟩ steps 1 1 0 0 false (some (.mk 1 (n : Int) v (.mk tk tv tl) l)) env (.mk wn wf wl we), .arr 1 1 E, fol cc ci cu used 0 cuts 3 1, .arr 1 1 O, .arr 1 7 R]
   (B true) [Mc fuel ⟨es, ds, .mk mk mn mv (.mk mtk mtv mtl) ml⟩ steps 1 1 0 0 false none [] (.mk vn vf vl ve), .arr 1 1 E, fol cc ci cu used 0 cuts 3 1, .arr 1 1 O, .arr 1 7 R] := by
 have h := yield_ fuel steps es ds mk mn mv mtk mtv mtl ml E R cc ci cu cuts O used 0 (some (.mk 1 (n : Int) v (.mk tk tv tl) l)) env wn wf wl we 0 0 false vn vf vl ve
 have ha : SC 65 [.ip (envC env) 0, I (n : Int)] [] (.agg [I vn, I vf, .ip (lamC vl) 0, .ip (envC ve) 0]) [] := at_ env n vn vf vl ve hv hn
 clear hv
 exact gF Tryz.func37 (rGs 7 [rS [(9, oC ha), (10, oC h)]]) (ob1 (ha) (ob1 (h) ob0))
theorem move_fun (used : Int) (n v tk tv : Int) (tl : List Ty) (l : List Expr) (h0 : 0 ≤ n) (h1 : n ≤ 100000) :
  SC 37 [.lp 0 0]
   [Mc fuel ⟨es, ds, .mk mk mn mv (.mk mtk mtv mtl) ml⟩ steps 1 1 0 0 false (some (.mk 2 n v (.mk tk tv tl) l)) env (.mk wn wf wl we), .arr 1 1 E, fol cc ci cu used 0 cuts 3 1, .arr 1 1 O, .arr 1 7 R]
   (B true) [Mc fuel ⟨es, ds, .mk mk mn mv (.mk mtk mtv mtl) ml⟩ steps 1 1 0 0 false none [] (.mk 0 (n + 1) none []), .arr 1 1 E, fol cc ci cu used 0 cuts 3 1, .arr 1 1 O, .arr 1 7 R] := by
 have h := yield_ fuel steps es ds mk mn mv mtk mtv mtl ml E R cc ci cu cuts O used 0 (some (.mk 2 n v (.mk tk tv tl) l)) env wn wf wl we 0 0 false 0 (n + 1) none []
 exact gF Tryz.func37 (rGs 8 [rS [(5, .int (n + 1)), (7, oC h)]]) (qw (n + 1) (ob1 (h) ob0))
theorem move_lam (used : Int) (n v tk tv : Int) (tl : List Ty) (l : List Expr) :
  SC 37 [.lp 0 0]
   [Mc fuel ⟨es, ds, .mk mk mn mv (.mk mtk mtv mtl) ml⟩ steps 1 1 0 0 false (some (.mk 4 n v (.mk tk tv tl) l)) env (.mk wn wf wl we), .arr 1 1 E, fol cc ci cu used 0 cuts 3 1, .arr 1 1 O, .arr 1 7 R]
   (B true) [Mc fuel ⟨es, ds, .mk mk mn mv (.mk mtk mtv mtl) ml⟩ steps 1 1 0 0 false none [] (.mk 0 0 (some (.mk 4 n v (.mk tk tv tl) l)) env), .arr 1 1 E, fol cc ci cu used 0 cuts 3 1, .arr 1 1 O, .arr 1 7 R] := by
 have h := yield_ fuel steps es ds mk mn mv mtk mtv mtl ml E R cc ci cu cuts O used 0 (some (.mk 4 n v (.mk tk tv tl) l)) env wn wf wl we 0 0 false 0 0 (some (.mk 4 n v (.mk tk tv tl) l)) env
 exact gF Tryz.func37 (rGs 9 [rS [(7, oC h)]]) (ob1 (h) ob0)
theorem move_push3 (used : Int) (n v tk tv : Int) (tl : List Ty) (ak an av atk atv : Int) (atl : List Ty) (al xl : List Expr) (hR : R.length ≤ 4294967296) (hl : xl.length ≤ 4294967296) :
  SC 37 [.lp 0 0]
   [Mc fuel ⟨es, ds, .mk mk mn mv (.mk mtk mtv mtl) ml⟩ steps 1 1 0 0 false (some (.mk 3 n v (.mk tk tv tl) (.mk ak an av (.mk atk atv atl) al :: xl))) env (.mk wn wf wl we), .arr 1 1 E, fol cc ci cu used 0 cuts 3 1, .arr 1 1 O, .arr 1 7 R]
   (B true) [Mc fuel ⟨es, ds, .mk mk mn mv (.mk mtk mtv mtl) ml⟩ steps 1 2 0 0 false (some (.mk ak an av (.mk atk atv atl) al)) env (.mk wn wf wl we), .arr 1 1 E, fol cc ci cu used 0 cuts 3 1, .arr 1 1 O,
    .arr 2 7 (R ++ [(Fr.mk 0 (some (.mk 3 n v (.mk tk tv tl) (.mk ak an av (.mk atk atv atl) al :: xl))) env vZ).enc])] := by
 have h := push_ fuel steps es ds mk mn mv mtk mtv mtl ml E R cc ci cu cuts O used 0 (some (.mk 3 n v (.mk tk tv tl) (.mk ak an av (.mk atk atv atl) al :: xl))) env wn wf wl we 0 0 false 0 3 n v tk tv tl ak an av atk atv atl al xl hR hl
 exact gF Tryz.func37 (rGs 10 [rS [(2, oC h)]]) (ob1 (h) ob0)
theorem move_push5 (used : Int) (n v tk tv : Int) (tl : List Ty) (ak an av atk atv : Int) (atl : List Ty) (al xl : List Expr) (hR : R.length ≤ 4294967296) (hl : xl.length ≤ 4294967296) :
  SC 37 [.lp 0 0]
   [Mc fuel ⟨es, ds, .mk mk mn mv (.mk mtk mtv mtl) ml⟩ steps 1 1 0 0 false (some (.mk 5 n v (.mk tk tv tl) (.mk ak an av (.mk atk atv atl) al :: xl))) env (.mk wn wf wl we), .arr 1 1 E, fol cc ci cu used 0 cuts 3 1, .arr 1 1 O, .arr 1 7 R]
   (B true) [Mc fuel ⟨es, ds, .mk mk mn mv (.mk mtk mtv mtl) ml⟩ steps 1 2 0 0 false (some (.mk ak an av (.mk atk atv atl) al)) env (.mk wn wf wl we), .arr 1 1 E, fol cc ci cu used 0 cuts 3 1, .arr 1 1 O,
    .arr 2 7 (R ++ [(Fr.mk 2 (some (.mk 5 n v (.mk tk tv tl) (.mk ak an av (.mk atk atv atl) al :: xl))) env vZ).enc])] := by
 have h := push_ fuel steps es ds mk mn mv mtk mtv mtl ml E R cc ci cu cuts O used 0 (some (.mk 5 n v (.mk tk tv tl) (.mk ak an av (.mk atk atv atl) al :: xl))) env wn wf wl we 0 0 false 2 5 n v tk tv tl ak an av atk atv atl al xl hR hl
 exact gF Tryz.func37 (rGs 11 [rS [(2, oC h)]]) (ob1 (h) ob0)
theorem move_push6 (used : Int) (n v tk tv : Int) (tl : List Ty) (ak an av atk atv : Int) (atl : List Ty) (al xl : List Expr) (hR : R.length ≤ 4294967296) (hl : xl.length ≤ 4294967296) :
  SC 37 [.lp 0 0]
   [Mc fuel ⟨es, ds, .mk mk mn mv (.mk mtk mtv mtl) ml⟩ steps 1 1 0 0 false (some (.mk 6 n v (.mk tk tv tl) (.mk ak an av (.mk atk atv atl) al :: xl))) env (.mk wn wf wl we), .arr 1 1 E, fol cc ci cu used 0 cuts 3 1, .arr 1 1 O, .arr 1 7 R]
   (B true) [Mc fuel ⟨es, ds, .mk mk mn mv (.mk mtk mtv mtl) ml⟩ steps 1 2 0 0 false (some (.mk ak an av (.mk atk atv atl) al)) env (.mk wn wf wl we), .arr 1 1 E, fol cc ci cu used 0 cuts 3 1, .arr 1 1 O,
    .arr 2 7 (R ++ [(Fr.mk 3 (some (.mk 6 n v (.mk tk tv tl) (.mk ak an av (.mk atk atv atl) al :: xl))) env vZ).enc])] := by
 have h := push_ fuel steps es ds mk mn mv mtk mtv mtl ml E R cc ci cu cuts O used 0 (some (.mk 6 n v (.mk tk tv tl) (.mk ak an av (.mk atk atv atl) al :: xl))) env wn wf wl we 0 0 false 3 6 n v tk tv tl ak an av atk atv atl al xl hR hl
 exact gF Tryz.func37 (rGs 12 [rS [(2, oC h)]]) (ob1 (h) ob0)
theorem move_push11 (used : Int) (n v tk tv : Int) (tl : List Ty) (ak an av atk atv : Int) (atl : List Ty) (al xl : List Expr) (hR : R.length ≤ 4294967296) (hl : xl.length ≤ 4294967296) :
  SC 37 [.lp 0 0]
   [Mc fuel ⟨es, ds, .mk mk mn mv (.mk mtk mtv mtl) ml⟩ steps 1 1 0 0 false (some (.mk 11 n v (.mk tk tv tl) (.mk ak an av (.mk atk atv atl) al :: xl))) env (.mk wn wf wl we), .arr 1 1 E, fol cc ci cu used 0 cuts 3 1, .arr 1 1 O, .arr 1 7 R]
   (B true) [Mc fuel ⟨es, ds, .mk mk mn mv (.mk mtk mtv mtl) ml⟩ steps 1 2 0 0 false (some (.mk ak an av (.mk atk atv atl) al)) env (.mk wn wf wl we), .arr 1 1 E, fol cc ci cu used 0 cuts 3 1, .arr 1 1 O,
    .arr 2 7 (R ++ [(Fr.mk 4 (some (.mk 11 n v (.mk tk tv tl) (.mk ak an av (.mk atk atv atl) al :: xl))) env vZ).enc])] := by
 have h := push_ fuel steps es ds mk mn mv mtk mtv mtl ml E R cc ci cu cuts O used 0 (some (.mk 11 n v (.mk tk tv tl) (.mk ak an av (.mk atk atv atl) al :: xl))) env wn wf wl we 0 0 false 4 11 n v tk tv tl ak an av atk atv atl al xl hR hl
 exact gF Tryz.func37 (rGs 13 [rS [(2, oC h)]]) (ob1 (h) ob0)
theorem move_push12 (used : Int) (n v tk tv : Int) (tl : List Ty) (ak an av atk atv : Int) (atl : List Ty) (al xl : List Expr) (hR : R.length ≤ 4294967296) (hl : xl.length ≤ 4294967296) :
  SC 37 [.lp 0 0]
   [Mc fuel ⟨es, ds, .mk mk mn mv (.mk mtk mtv mtl) ml⟩ steps 1 1 0 0 false (some (.mk 12 n v (.mk tk tv tl) (.mk ak an av (.mk atk atv atl) al :: xl))) env (.mk wn wf wl we), .arr 1 1 E, fol cc ci cu used 0 cuts 3 1, .arr 1 1 O, .arr 1 7 R]
   (B true) [Mc fuel ⟨es, ds, .mk mk mn mv (.mk mtk mtv mtl) ml⟩ steps 1 2 0 0 false (some (.mk ak an av (.mk atk atv atl) al)) env (.mk wn wf wl we), .arr 1 1 E, fol cc ci cu used 0 cuts 3 1, .arr 1 1 O,
    .arr 2 7 (R ++ [(Fr.mk 5 (some (.mk 12 n v (.mk tk tv tl) (.mk ak an av (.mk atk atv atl) al :: xl))) env vZ).enc])] := by
 have h := push_ fuel steps es ds mk mn mv mtk mtv mtl ml E R cc ci cu cuts O used 0 (some (.mk 12 n v (.mk tk tv tl) (.mk ak an av (.mk atk atv atl) al :: xl))) env wn wf wl we 0 0 false 5 12 n v tk tv tl ak an av atk atv atl al xl hR hl
 exact gF Tryz.func37 (rGs 14 [rS [(2, oC h)]]) (ob1 (h) ob0)
theorem move_more (used : Int) (k n v tk tv : Int) (tl : List Ty) (l : List Expr) (hk : k = 7 ∨ k = 8 ∨ k = 10) (hf : fuel ≤ steps) :
  SC 37 [.lp 0 0]
   [Mc fuel ⟨es, ds, .mk mk mn mv (.mk mtk mtv mtl) ml⟩ steps 1 1 0 0 false (some (.mk k n v (.mk tk tv tl) l)) env (.mk wn wf wl we), .arr 1 1 E, fol cc ci cu used 0 cuts 3 1, .arr 1 1 O, .arr 1 7 R]
   (B false) [Mc fuel ⟨es, ds, .mk mk mn mv (.mk mtk mtv mtl) ml⟩ steps 1 1 1 0 false (some (.mk k n v (.mk tk tv tl) l)) env (.mk wn wf wl we), .arr 1 1 E, fol cc ci cu used 0 cuts 3 1, .arr 1 1 O, .arr 1 7 R] := by
 have h := stop_ fuel steps es ds mk mn mv mtk mtv mtl ml E R cc ci cu cuts O used 0 (some (.mk k n v (.mk tk tv tl) l)) env wn wf wl we 0 0 false 1
 rcases hk with rfl | rfl | rfl
 ·exact gF Tryz.func37 (rGs 14 [rS [(8, .bit true)], rS [(1, oC h)]]) (qT (fuel ≤ steps) (ob1 (h) ob0))
 ·exact gF Tryz.func37 (rGs 14 [rS [(8, .bit true)], rS [(1, oC h)]]) (qT (fuel ≤ steps) (ob1 (h) ob0))
 ·exact gF Tryz.func37 (rGs 14 [rS [(8, .bit true)], rS [(1, oC h)]]) (qT (fuel ≤ steps) (ob1 (h) ob0))
theorem move_want (used : Nat) (n v tk tv : Int) (tl : List Ty) (l : List Expr) (hf : steps < fuel) (hu : used = cc.length) (hl : cc.length ≤ 4294967296) :
  SC 37 [.lp 0 0]
   [Mc fuel ⟨es, ds, .mk mk mn mv (.mk mtk mtv mtl) ml⟩ steps 1 1 0 0 false (some (.mk 8 n v (.mk tk tv tl) l)) env (.mk wn wf wl we), .arr 1 1 E, fol cc ci cu used 0 cuts 3 1, .arr 1 1 O, .arr 1 7 R]
   (B false) [Mc fuel ⟨es, ds, .mk mk mn mv (.mk mtk mtv mtl) ml⟩ steps 1 1 2 0 false (some (.mk 8 n v (.mk tk tv tl) l)) env (.mk wn wf wl we), .arr 1 1 E, fol cc ci cu used v cuts 3 1, .arr 1 1 O, .arr 1 7 R] := by
 have hp := pick_want cc ci cu cuts O used 0 v hu hl
 have h := answered1 fuel steps es ds mk mn mv mtk mtv mtl ml E R cc ci cu cuts O used v (some (.mk 8 n v (.mk tk tv tl) l)) env wn wf wl we 0 0 false 0
 exact gF Tryz.func37 (rGs 14 [rS [(8, .bit false)], rG, rG, rG, rS [(11, oC hp), (14, oC h)]]) (qF (fuel ≤ steps) (ob1 (hp) (ob1 (h) ob0)))
theorem move_wrong (used : Nat) (n v c tk tv : Int) (tl : List Ty) (l : List Expr) (hf : steps < fuel) (hc : cc[used]? = some c) (hl : cc.length ≤ 4294967296) (hw : c < 0 ∨ v ≤ c) :
  SC 37 [.lp 0 0]
   [Mc fuel ⟨es, ds, .mk mk mn mv (.mk mtk mtv mtl) ml⟩ steps 1 1 0 0 false (some (.mk 8 n v (.mk tk tv tl) l)) env (.mk wn wf wl we), .arr 1 1 E, fol cc ci cu used 0 cuts 3 1, .arr 1 1 O, .arr 1 7 R]
   (B false) [Mc fuel ⟨es, ds, .mk mk mn mv (.mk mtk mtv mtl) ml⟩ steps 1 1 0 0 true (some (.mk 8 n v (.mk tk tv tl) l)) env (.mk wn wf wl we), .arr 1 1 E, fol cc ci cu used 0 cuts 3 1, .arr 1 1 O, .arr 1 7 R] := by
 have hp := pick_wrong cc ci cu cuts O used 0 v c hc hl hw
 have h := answered2 fuel steps es ds mk mn mv mtk mtv mtl ml E R cc ci cu cuts O used 0 (some (.mk 8 n v (.mk tk tv tl) l)) env wn wf wl we 0 0 false 0
 clear hc
 exact gF Tryz.func37 (rGs 14 [rS [(8, .bit false)], rG, rG, rG, rS [(11, oC hp), (14, oC h)]]) (qF (fuel ≤ steps) (ob1 (hp) (ob1 (h) ob0)))
theorem move_fine (used : Nat) (n v c tk tv : Int) (tl : List Ty) (l : List Expr) (hf : steps < fuel) (hs : 0 ≤ steps ∧ steps ≤ 10000000) (hc : cc[used]? = some c) (hl : cc.length ≤ 4294967296) (h0 : 0 ≤ c) (h1 : c < v) (hO : O.length ≤ 4294967296) :
  SC 37 [.lp 0 0]
   [Mc fuel ⟨es, ds, .mk mk mn mv (.mk mtk mtv mtl) ml⟩ steps 1 1 0 0 false (some (.mk 8 n v (.mk tk tv tl) l)) env (.mk wn wf wl we), .arr 1 1 E, fol cc ci cu used 0 cuts 3 1, .arr 1 1 O, .arr 1 7 R]
   (B true) [Mc fuel ⟨es, ds, .mk mk mn mv (.mk mtk mtv mtl) ml⟩ (steps + 1) 1 1 0 0 false none [] (.mk c 0 none []), .arr 1 1 E, fol cc ci cu ((used : Int) + 1) 0 cuts 3 2, .arr 2 1 (O ++ [[I c]]), .arr 1 7 R] := by
 have hp := pick_fine cc ci cu cuts O used 0 v c hc hl h0 h1 hO
 have h := answered0 fuel steps es ds mk mn mv mtk mtv mtl ml E R cc ci cu cuts (O ++ [[I c]]) ((used : Int) + 1) 0 (some (.mk 8 n v (.mk tk tv tl) l)) env wn wf wl we 0 0 false c hs
 clear hc
 exact gF Tryz.func37 (rGs 14 [rS [(8, .bit false)], rG, rG, rG, rS [(11, oC hp), (14, oC h)]]) (qF (fuel ≤ steps) (ob1 (hp) (ob1 (h) ob0)))
theorem move_int (used : Int) (n v tk tv : Int) (tl : List Ty) (l : List Expr) :
  SC 37 [.lp 0 0]
   [Mc fuel ⟨es, ds, .mk mk mn mv (.mk mtk mtv mtl) ml⟩ steps 1 1 0 0 false (some (.mk 9 n v (.mk tk tv tl) l)) env (.mk wn wf wl we), .arr 1 1 E, fol cc ci cu used 0 cuts 3 1, .arr 1 1 O, .arr 1 7 R]
   (B true) [Mc fuel ⟨es, ds, .mk mk mn mv (.mk mtk mtv mtl) ml⟩ steps 1 1 0 0 false none [] (.mk n 0 none []), .arr 1 1 E, fol cc ci cu used 0 cuts 3 1, .arr 1 1 O, .arr 1 7 R] := by
 have hp := lint_ cc ci cu cuts O used 0 n
 have h := yield_ fuel steps es ds mk mn mv mtk mtv mtl ml E R cc ci cu cuts O used 0 (some (.mk 9 n v (.mk tk tv tl) l)) env wn wf wl we 0 0 false n 0 none []
 exact gF Tryz.func37 (rGs 6 [rS [(11, oC hp), (13, oC h)]]) (ob1 (hp) (ob1 (h) ob0))
theorem move_awant (c is : List Int) (ui : Nat) (used : Int) (n v tk tv : Int) (tl : List Ty) (l : List Expr) (hf : steps < fuel) (hu : ui = is.length) (hl : is.length ≤ 4294967296) :
  SC 37 [.lp 0 0]
   [Mc fuel ⟨es, ds, .mk mk mn mv (.mk mtk mtv mtl) ml⟩ steps 1 1 0 0 false (some (.mk 10 n v (.mk tk tv tl) l)) env (.mk wn wf wl we), .arr 1 1 E, fol c is (ui) used 0 cuts 3 1, .arr 1 1 O, .arr 1 7 R]
   (B false) [Mc fuel ⟨es, ds, .mk mk mn mv (.mk mtk mtv mtl) ml⟩ steps 1 1 2 0 false (some (.mk 10 n v (.mk tk tv tl) l)) env (.mk wn wf wl we), .arr 1 1 E, fol c is (ui) used 0 cuts 3 1, .arr 1 1 O, .arr 1 7 R] := by
 have hp := any_want c is ui cuts O used 0 hu hl
 have h := answered1 fuel steps es ds mk mn mv mtk mtv mtl ml E R c is (ui) cuts O used 0 (some (.mk 10 n v (.mk tk tv tl) l)) env wn wf wl we 0 0 false 0
 exact gF Tryz.func37 (rGs 14 [rS [(8, .bit false)], rG, rG, rS [(5, oC hp), (8, oC h)]]) (qF (fuel ≤ steps) (ob1 (hp) (ob1 (h) ob0)))
theorem move_awrong (c is : List Int) (ui : Nat) (used : Int) (n v x tk tv : Int) (tl : List Ty) (l : List Expr) (hf : steps < fuel) (hc : is[ui]? = some x) (hl : is.length ≤ 4294967296) (hw : x < -1099511627776 ∨ 1099511627776 < x) :
  SC 37 [.lp 0 0]
   [Mc fuel ⟨es, ds, .mk mk mn mv (.mk mtk mtv mtl) ml⟩ steps 1 1 0 0 false (some (.mk 10 n v (.mk tk tv tl) l)) env (.mk wn wf wl we), .arr 1 1 E, fol c is (ui) used 0 cuts 3 1, .arr 1 1 O, .arr 1 7 R]
   (B false) [Mc fuel ⟨es, ds, .mk mk mn mv (.mk mtk mtv mtl) ml⟩ steps 1 1 0 0 true (some (.mk 10 n v (.mk tk tv tl) l)) env (.mk wn wf wl we), .arr 1 1 E, fol c is (ui) used 0 cuts 3 1, .arr 1 1 O, .arr 1 7 R] := by
 have hp := any_wrong c is ui cuts O used 0 x hc hl hw
 have h := answered2 fuel steps es ds mk mn mv mtk mtv mtl ml E R c is (ui) cuts O used 0 (some (.mk 10 n v (.mk tk tv tl) l)) env wn wf wl we 0 0 false 0
 clear hc
 exact gF Tryz.func37 (rGs 14 [rS [(8, .bit false)], rG, rG, rS [(5, oC hp), (8, oC h)]]) (qF (fuel ≤ steps) (ob1 (hp) (ob1 (h) ob0)))
theorem move_afine (c is : List Int) (ui : Nat) (used : Int) (n v x tk tv : Int) (tl : List Ty) (l : List Expr) (hf : steps < fuel) (hs : 0 ≤ steps ∧ steps ≤ 10000000) (hc : is[ui]? = some x) (hl : is.length ≤ 4294967296) (h0 : -1099511627776 ≤ x) (h1 : x ≤ 1099511627776) (hO : O.length ≤ 4294967296) (hk : cuts.length ≤ 1000) :
  SC 37 [.lp 0 0]
   [Mc fuel ⟨es, ds, .mk mk mn mv (.mk mtk mtv mtl) ml⟩ steps 1 1 0 0 false (some (.mk 10 n v (.mk tk tv tl) l)) env (.mk wn wf wl we), .arr 1 1 E, fol c is (ui) used 0 cuts 3 1, .arr 1 1 O, .arr 1 7 R]
   (B true) [Mc fuel ⟨es, ds, .mk mk mn mv (.mk mtk mtv mtl) ml⟩ (steps + 1) 1 1 0 0 false none [] (.mk x 0 none []), .arr 1 1 E, fol c is ((ui : Int) + 1) used 0 cuts 3 2, .arr 2 1 (O ++ [[I (clC x cuts 0)]]), .arr 1 7 R] := by
 have hp := any_fine c is ui cuts O used 0 x hc hl h0 h1 hO hk
 have h := answered0 fuel steps es ds mk mn mv mtk mtv mtl ml E R c is ((ui : Int) + 1) cuts (O ++ [[I (clC x cuts 0)]]) used 0 (some (.mk 10 n v (.mk tk tv tl) l)) env wn wf wl we 0 0 false x hs
 clear hc
 generalize clC x cuts 0 = K at hp h ⊢
 exact gF Tryz.func37 (rGs 14 [rS [(8, .bit false)], rG, rG, rS [(5, oC hp), (8, oC h)]]) (qF (fuel ≤ steps) (ob1 (hp) (ob1 (h) ob0)))
theorem move_full (used : Int) (n v tk tv : Int) (tl : List Ty) (l : List Expr) (hf : steps < fuel) (hE : 4096 ≤ E.length) (hE2 : E.length ≤ 100000) :
  SC 37 [.lp 0 0]
   [Mc fuel ⟨es, ds, .mk mk mn mv (.mk mtk mtv mtl) ml⟩ steps 1 1 0 0 false (some (.mk 7 n v (.mk tk tv tl) l)) env (.mk wn wf wl we), .arr 1 1 E, fol cc ci cu used 0 cuts 3 1, .arr 1 1 O, .arr 1 7 R]
   (B false) [Mc fuel ⟨es, ds, .mk mk mn mv (.mk mtk mtv mtl) ml⟩ steps 1 1 1 0 false (some (.mk 7 n v (.mk tk tv tl) l)) env (.mk wn wf wl we), .arr 1 1 E, fol cc ci cu used 0 cuts 3 1, .arr 1 1 O, .arr 1 7 R] := by
 have h := stop_ fuel steps es ds mk mn mv mtk mtv mtl ml E R cc ci cu cuts O used 0 (some (.mk 7 n v (.mk tk tv tl) l)) env wn wf wl we 0 0 false 1
 exact gF Tryz.func37 (rGs 14 [rS [(8, .bit false)], rG, rG, rG, rS [(5, .bit true)], rS [(1, oC h)]]) (qF (fuel ≤ steps) (qT (4096 ≤ (E.length : Int)) (ob1 (h) ob0)))
theorem move_event (used : Int) (n v tk tv : Int) (tl : List Ty) (ak an av atk atv : Int) (atl : List Ty) (al xl : List Expr) (hf : steps < fuel) (hs : 0 ≤ steps ∧ steps ≤ 10000000) (hE : E.length < 4096) (hl : xl.length ≤ 4294967296) :
  SC 37 [.lp 0 0]
   [Mc fuel ⟨es, ds, .mk mk mn mv (.mk mtk mtv mtl) ml⟩ steps 1 1 0 0 false (some (.mk 7 n v (.mk tk tv tl) (.mk ak an av (.mk atk atv atl) al :: xl))) env (.mk wn wf wl we), .arr 1 1 E, fol cc ci cu used 0 cuts 3 1, .arr 1 1 O, .arr 1 7 R]
   (B true) [Mc fuel ⟨es, ds, .mk mk mn mv (.mk mtk mtv mtl) ml⟩ (steps + 1) 2 1 0 0 false (some (.mk ak an av (.mk atk atv atl) al)) env (.mk wn wf wl we), .arr 2 1 (E ++ [[I n]]), fol cc ci cu used 0 cuts 3 1, .arr 1 1 O, .arr 1 7 R] := by
 have hF : Fits (E.length + 1) E.length 8 := by apply Fits.of; omega
 have hp := event_ cc ci cu cuts O used 0 n
 have h := fun E => goes_ fuel (steps + 1) es ds mk mn mv mtk mtv mtl ml E R cc ci cu cuts O used 0 (some (.mk 7 n v (.mk tk tv tl) (.mk ak an av (.mk atk atv atl) al :: xl))) env wn wf wl we 0 0 false (some (.mk ak an av (.mk atk atv atl) al)) env
 exact gF Tryz.func37 (rGs 14 [rS [(8, .bit false)], rG, rG, rG, rS [(5, .bit false)], rS [(4, .int (steps + 1))], rG, rS [(10, oC hp)], rS [(5, .row 0 (xE ak an av atk atv atl al)), (10, oC (h (E ++ [[I n]])))]]) (qF (fuel ≤ steps) (qF (4096 ≤ (E.length : Int)) (qw (steps + 1) (q (Fits (List.length E + 1) (List.length E) 8) (ob1 (hp) (qI 0 (qC0 ((xE ak an av atk atv atl al)) (Expr.encs xl) (ob1 (h (E ++ [[I n]])) ob0))))))))
end
theorem move_back1 (fuel steps : Int) (es : List ByteArray) (ds : List Def) (mk mn mv mtk mtv : Int) (mtl : List Ty) (ml : List Expr) (E R : List (List AV)) (cc ci : List Int) (cu : Int) (cuts : List Int) (O : List (List AV))
 (env : List Vl) (wn wf : Int) (wl : Option Expr) (we : List Vl) (used : Int) (b : Bool) (steps' en value : Int) (e2 : Option Expr) (env2 : List Vl) (xn xf : Int) (xl : Option Expr) (xe : List Vl) (R' : List (List AV))
  (h : SC 63 [.lp 0 0]
   [Mc fuel ⟨es, ds, .mk mk mn mv (.mk mtk mtv mtl) ml⟩ steps 1 1 0 0 false none env (.mk wn wf wl we), .arr 1 1 E, fol cc ci cu used 0 cuts 3 1, .arr 1 1 O, .arr 1 7 R]
   (B b) [Mc fuel ⟨es, ds, .mk mk mn mv (.mk mtk mtv mtl) ml⟩ steps' 1 1 en value false e2 env2 (.mk xn xf xl xe), .arr 1 1 E, fol cc ci cu used 0 cuts 3 1, .arr 1 1 O, .arr 1 7 R']) :
  SC 37 [.lp 0 0]
   [Mc fuel ⟨es, ds, .mk mk mn mv (.mk mtk mtv mtl) ml⟩ steps 1 1 0 0 false none env (.mk wn wf wl we), .arr 1 1 E, fol cc ci cu used 0 cuts 3 1, .arr 1 1 O, .arr 1 7 R]
   (B b) [Mc fuel ⟨es, ds, .mk mk mn mv (.mk mtk mtv mtl) ml⟩ steps' 1 1 en value false e2 env2 (.mk xn xf xl xe), .arr 1 1 E, fol cc ci cu used 0 cuts 3 1, .arr 1 1 O, .arr 1 7 R'] := by
 cases b with
 | true => exact gF Tryz.func37 [rG, rG, rS [(1, oC h)]] (ob1 (h) ob0)
 | false => exact gF Tryz.func37 [rG, rG, rS [(1, oC h)]] (ob1 (h) ob0)
theorem move_back2 (fuel steps : Int) (es : List ByteArray) (ds : List Def) (mk mn mv mtk mtv : Int) (mtl : List Ty) (ml : List Expr) (E R : List (List AV)) (cc ci : List Int) (cu : Int) (cuts : List Int) (O : List (List AV))
 (env : List Vl) (wn wf : Int) (wl : Option Expr) (we : List Vl) (used : Int) (b : Bool) (steps' en value : Int) (e2 : Option Expr) (env2 : List Vl) (xn xf : Int) (xl : Option Expr) (xe : List Vl) (R' : List (List AV))
  (h : SC 63 [.lp 0 0]
   [Mc fuel ⟨es, ds, .mk mk mn mv (.mk mtk mtv mtl) ml⟩ steps 1 1 0 0 false none env (.mk wn wf wl we), .arr 1 1 E, fol cc ci cu used 0 cuts 3 1, .arr 1 1 O, .arr 1 7 R]
   (B b) [Mc fuel ⟨es, ds, .mk mk mn mv (.mk mtk mtv mtl) ml⟩ steps' 1 2 en value false e2 env2 (.mk xn xf xl xe), .arr 1 1 E, fol cc ci cu used 0 cuts 3 1, .arr 1 1 O, .arr 2 7 R']) :
  SC 37 [.lp 0 0]
   [Mc fuel ⟨es, ds, .mk mk mn mv (.mk mtk mtv mtl) ml⟩ steps 1 1 0 0 false none env (.mk wn wf wl we), .arr 1 1 E, fol cc ci cu used 0 cuts 3 1, .arr 1 1 O, .arr 1 7 R]
   (B b) [Mc fuel ⟨es, ds, .mk mk mn mv (.mk mtk mtv mtl) ml⟩ steps' 1 2 en value false e2 env2 (.mk xn xf xl xe), .arr 1 1 E, fol cc ci cu used 0 cuts 3 1, .arr 1 1 O, .arr 2 7 R'] := by
 cases b with
 | true => exact gF Tryz.func37 [rG, rG, rS [(1, oC h)]] (ob1 (h) ob0)
 | false => exact gF Tryz.func37 [rG, rG, rS [(1, oC h)]] (ob1 (h) ob0)
theorem move_back3 (fuel steps : Int) (es : List ByteArray) (ds : List Def) (mk mn mv mtk mtv : Int) (mtl : List Ty) (ml : List Expr) (E R : List (List AV)) (cc ci : List Int) (cu : Int) (cuts : List Int) (O : List (List AV))
 (env : List Vl) (wn wf : Int) (wl : Option Expr) (we : List Vl) (used : Int) (b : Bool) (steps' en value : Int) (e2 : Option Expr) (env2 : List Vl) (xn xf : Int) (xl : Option Expr) (xe : List Vl) (R' : List (List AV)) (O' : List (List AV))
  (h : SC 63 [.lp 0 0]
   [Mc fuel ⟨es, ds, .mk mk mn mv (.mk mtk mtv mtl) ml⟩ steps 1 1 0 0 false none env (.mk wn wf wl we), .arr 1 1 E, fol cc ci cu used 0 cuts 3 1, .arr 1 1 O, .arr 1 7 R]
   (B b) [Mc fuel ⟨es, ds, .mk mk mn mv (.mk mtk mtv mtl) ml⟩ steps' 1 2 en value false e2 env2 (.mk xn xf xl xe), .arr 1 1 E, fol cc ci cu used 0 cuts 3 2, .arr 2 1 O', .arr 2 7 R']) :
  SC 37 [.lp 0 0]
   [Mc fuel ⟨es, ds, .mk mk mn mv (.mk mtk mtv mtl) ml⟩ steps 1 1 0 0 false none env (.mk wn wf wl we), .arr 1 1 E, fol cc ci cu used 0 cuts 3 1, .arr 1 1 O, .arr 1 7 R]
   (B b) [Mc fuel ⟨es, ds, .mk mk mn mv (.mk mtk mtv mtl) ml⟩ steps' 1 2 en value false e2 env2 (.mk xn xf xl xe), .arr 1 1 E, fol cc ci cu used 0 cuts 3 2, .arr 2 1 O', .arr 2 7 R'] := by
 cases b with
 | true => exact gF Tryz.func37 [rG, rG, rS [(1, oC h)]] (ob1 (h) ob0)
 | false => exact gF Tryz.func37 [rG, rG, rS [(1, oC h)]] (ob1 (h) ob0)
end Go.Ae.N.L

/- Part 16 of the proof: AeRRNM10, AeRRNM11, AeRRF0, AeRRF1, AeRRNM12, AeRRF2, AeRRC4, AeRRC5, AeRLM2. -/
import Derived.Test.YtcmlbbgbfgikaaaGreatT15
set_option linter.unusedSimpArgs false
set_option linter.unusedVariables false
namespace Go.Ae.N
open Go.Proofs
def SetM (m : List (ByteArray × AV)) : Prop := ∀ s, findM s m = none ∨ findM s m = some (B true)
theorem SetM.nil : SetM [] := fun s => .inl rfl
theorem findM_append (s : ByteArray) : ∀ (m r : List (ByteArray × AV)), findM s (m ++ r) = (findM s m).or (findM s r)
 | [], r => by simp [findM]
 | (k, a) :: m, r => by
  simp only [List.cons_append, findM]
  split
  ·rfl
  ·exact findM_append s m r
theorem SetM.add {m : List (ByteArray × AV)} (h : SetM m) (s : ByteArray) : SetM (m ++ [(s, B true)]) := fun t => by
 rw [findM_append]
 rcases h t with h | h
 ·rw [h]
  simp only [Option.none_or, findM]
  split
  ·exact .inr rfl
  ·exact .inl rfl
 ·rw [h]; exact .inr rfl
section
variable (es : List ByteArray) (ds : List Def) (mk mn mv mtk mtv : Int) (mtl : List Ty) (ml : List Expr)
theorem check_loop0 (hn : es.length ≤ 16) (left : Int) : ∀ (us : List ByteArray) (i : Nat) (m : List (ByteArray × AV)), es.drop i = us → (∀ s ∈ us, s.size ≤ 281474976710656) → SetM m →
  (∃ m', SetM m' ∧ Lp Tryz.prog 136 0 (loopN Tryz.f27 0)
   ⟨lookT [(2, .lp 0 0), (3, .lp 1 0), (5, .lp 2 0), (6, .mp 3), (35, .sl 1 (strs es) false), (36, I (es.length : Int)), (37, I (i : Int))], [.cells [B true] [], .cells (Prog.enc ⟨es, ds, .mk mk mn mv (.mk mtk mtv mtl) ml⟩) [], .cells [I left] [], .map m]⟩
   (.exit 0) ⟨lookT [(2, .lp 0 0), (3, .lp 1 0), (5, .lp 2 0), (6, .mp 3)], [.cells [B true] [], .cells (Prog.enc ⟨es, ds, .mk mk mn mv (.mk mtk mtv mtl) ml⟩) [], .cells [I left] [], .map m']⟩) ∨
  Lp Tryz.prog 136 0 (loopN Tryz.f27 0)
   ⟨lookT [(2, .lp 0 0), (3, .lp 1 0), (5, .lp 2 0), (6, .mp 3), (35, .sl 1 (strs es) false), (36, I (es.length : Int)), (37, I (i : Int))], [.cells [B true] [], .cells (Prog.enc ⟨es, ds, .mk mk mn mv (.mk mtk mtv mtl) ml⟩) [], .cells [I left] [], .map m]⟩
   .ret ⟨lookT [(4, B false)], []⟩
 | [], i, m, hd, hs, hm => by
  have hi := drop_end hd
  refine .inl ⟨m, hm, ?_⟩
  clear hs hm hd
  exact lL [rS [(0, .bit false)]] [.keep [(2, []), (3, []), (5, []), (6, [])]] (qF ((i : Int) < (es.length : Int)) ob0)
 | s :: us, i, m, hd, hs, hm => by
  have hi := drop_lt hd
  have hx : (strs es)[i]? = some [S s] := by rw [strs_get, drop_get hd]; rfl
  have hc := isName_ s (hs s (by simp))
  have ih := check_loop0 hn left us (i + 1) (m ++ [(s, B true)]) (drop_next hd) (fun x hx => hs x (by simp [hx])) (hm.add s)
  have hf := hm s
  clear hs hm hd
  simp only [Int.natCast_add] at ih
  generalize nameC s.data.toList = b at hc
  cases b with
  | false =>
   clear ih hf
   refine .inr ?_
   exact lL [rS [(0, .bit true)], rS [(0, oW hx)], rS [(1, oC hc)], rG] [.keep [(4, [])]] (qT ((i : Int) < (es.length : Int)) (qI i (ob1 hx (ob1 (hc) ob0))))
  | true =>
   rcases hf with hf | hf
   ·rcases ih with ⟨m', hm', ih⟩ | ih
    ·refine .inl ⟨m', hm', ?_⟩
     clear hm'
     exact lN [rS [(0, .bit true)], rS [(0, oW hx)], rS [(1, oC hc), (6, .look none)], rS [(2, .look none)], rS [(0, .int ((i : Int) + 1))]] [.keep [(2, []), (3, []), (5, []), (6, []), (35, []), (36, []), (37, [])]] (qT ((i : Int) < (es.length : Int)) (qI i (ob1 hx (ob1 (hc) (q (findM s m = none) (q (findM s m = none) (qw ((i : Int) + 1) ob0))))))) (ih)
    ·refine .inr ?_
     exact lN [rS [(0, .bit true)], rS [(0, oW hx)], rS [(1, oC hc), (6, .look none)], rS [(2, .look none)], rS [(0, .int ((i : Int) + 1))]] [.keep [(2, []), (3, []), (5, []), (6, []), (35, []), (36, []), (37, [])]] (qT ((i : Int) < (es.length : Int)) (qI i (ob1 hx (ob1 (hc) (q (findM s m = none) (q (findM s m = none) (qw ((i : Int) + 1) ob0))))))) (ih)
   ·clear ih
    refine .inr ?_
    exact lL [rS [(0, .bit true)], rS [(0, oW hx)], rS [(1, oC hc), (6, .look (some (B true)))], rG] [.keep [(4, [])]] (qT ((i : Int) < (es.length : Int)) (qI i (ob1 hx (ob1 (hc) (q (findM s m = some (B true)) ob0)))))
theorem check_loop1 (hn : ds.length ≤ 16) : ∀ (us : List Def) (i : Nat) (left : Int) (m : List (ByteArray × AV)), ds.drop i = us → (∀ d ∈ us, d.ok) → 0 ≤ left → left ≤ 400 → SetM m →
  ((∀ d ∈ us, d.param.VI ∧ d.result.VI ∧ ∃ n, 0 ≤ n ∧ n ≤ 400 ∧ (szC d.body 30 n).1 = true) ∧ Lp Tryz.prog 136 0 (loopN Tryz.f27 1)
   ⟨lookT [(2, .lp 0 0), (3, .lp 1 0), (5, .lp 2 0), (6, .mp 3), (54, .sl 14 (Def.encs ds) false), (55, I (ds.length : Int)), (56, I (i : Int))], [.cells [B true] [], .cells (Prog.enc ⟨es, ds, .mk mk mn mv (.mk mtk mtv mtl) ml⟩) [], .cells [I left] [], .map m]⟩
   (.exit 2) ⟨lookT [(2, .lp 0 0), (3, .lp 1 0)], [.cells [B true] [], .cells (Prog.enc ⟨es, ds, .mk mk mn mv (.mk mtk mtv mtl) ml⟩) []]⟩) ∨
  Lp Tryz.prog 136 0 (loopN Tryz.f27 1)
   ⟨lookT [(2, .lp 0 0), (3, .lp 1 0), (5, .lp 2 0), (6, .mp 3), (54, .sl 14 (Def.encs ds) false), (55, I (ds.length : Int)), (56, I (i : Int))], [.cells [B true] [], .cells (Prog.enc ⟨es, ds, .mk mk mn mv (.mk mtk mtv mtl) ml⟩) [], .cells [I left] [], .map m]⟩
   .ret ⟨lookT [(4, B false)], []⟩
 | [], i, left, m, hd, hs, h0, h1, hm => by
  have hi := drop_end hd
  refine .inl ⟨by simp, ?_⟩
  clear hs hm hd
  exact lL [rS [(0, .bit false)]] [.keep [(2, []), (3, [])]] (qF ((i : Int) < (ds.length : Int)) ob0)
 | d :: us, i, left, m, hd, hs, h0, h1, hm => by
  obtain ⟨nm, ⟨pk, pv, pl⟩, ⟨rk, rv, rl⟩, ⟨bk, bn, bv, ⟨btk, btv, btl⟩, bl⟩⟩ := d
  have hi := drop_lt hd
  have hx : (Def.encs ds)[i]? = some (Def.mk nm (.mk pk pv pl) (.mk rk rv rl) (.mk bk bn bv (.mk btk btv btl) bl)).enc := by rw [Def.encs_get, drop_get hd]; rfl
  have hok := hs _ (List.mem_cons_self ..)
  have hc := isName_ nm hok.1
  have ht1 := isTy_ (.mk pk pv pl) hok.2.1
  have ht2 := isTy_ (.mk rk rv rl) hok.2.2.1
  have hz := size_ (.mk bk bn bv (.mk btk btv btl) bl) 30 left hok.2.2.2 (by omega) (by omega) h0 (by omega)
  have hzb := szC_bound (.mk bk bn bv (.mk btk btv btl) bl) 30 left h0
  have hV : ∀ t : Ty, t.VI ↔ (tyC t 20).1 = true := fun t => Iff.rfl
  have hf := hm nm
  have ih := fun h2 => check_loop1 hn us (i + 1) (szC (.mk bk bn bv (.mk btk btv btl) bl) 30 left).2 (m ++ [(nm, B true)]) (drop_next hd) (fun x hx => hs x (by simp [hx])) (hzb.2.2 h2) (by omega) (hm.add nm)
  clear hs hm hd hok
  simp only [Int.natCast_add] at ih
  generalize nameC nm.data.toList = b at hc
  have hv1 := hV (.mk pk pv pl)
  have hv2 := hV (.mk rk rv rl)
  clear hV
  generalize (tyC (.mk pk pv pl) 20).1 = b1 at ht1 hv1
  generalize (tyC (.mk rk rv rl) 20).1 = b2 at ht2 hv2
  cases b with
  | false =>
   clear ih hf hv1 hv2 hzb
   refine .inr ?_
   exact lL [rS [(0, .bit true)], rS [(0, oW hx)], rS [(2, oC hc)], rG] [.keep [(4, [])]] (qT ((i : Int) < (ds.length : Int)) (qI i (ob1 hx (ob1 (hc) ob0))))
  | true =>
   rcases hf with hf | hf
   ·cases b1 with
    | false =>
     clear ih hv1 hv2 hzb
     refine .inr ?_
     exact lL [rS [(0, .bit true)], rS [(0, oW hx)], rS [(2, oC hc), (8, .look none), (14, oC ht1)], rG] [.keep [(4, [])]] (qT ((i : Int) < (ds.length : Int)) (qI i (ob1 hx (ob1 (hc) (q (findM (Def.name { name := nm, param := Ty.mk pk pv pl, result := Ty.mk rk rv rl, body := Expr.mk bk bn bv (Ty.mk btk btv btl) bl }) m = none) (ob1 (ht1) ob0))))))
    | true =>
     cases b2 with
     | false =>
      clear ih hv1 hv2 hzb
      refine .inr ?_
      exact lL [rS [(0, .bit true)], rS [(0, oW hx)], rS [(2, oC hc), (8, .look none), (14, oC ht1), (21, oC ht2)], rG] [.keep [(4, [])]] (qT ((i : Int) < (ds.length : Int)) (qI i (ob1 hx (ob1 (hc) (q (findM (Def.name { name := nm, param := Ty.mk pk pv pl, result := Ty.mk rk rv rl, body := Expr.mk bk bn bv (Ty.mk btk btv btl) bl }) m = none) (ob1 (ht1) (ob1 (ht2) ob0)))))))
     | true =>
      generalize hzz : szC (.mk bk bn bv (.mk btk btv btl) bl) 30 left = Z at hz ih hzb
      obtain ⟨zb, zn⟩ := Z
      cases zb with
      | false =>
       clear ih hv1 hv2 hzb hzz
       refine .inr ?_
       exact lL [rS [(0, .bit true)], rS [(0, oW hx)], rS [(2, oC hc), (8, .look none), (14, oC ht1), (21, oC ht2), (27, oC hz)], rG] [.keep [(4, [])]] (qT ((i : Int) < (ds.length : Int)) (qI i (ob1 hx (ob1 (hc) (q (findM (Def.name { name := nm, param := Ty.mk pk pv pl, result := Ty.mk rk rv rl, body := Expr.mk bk bn bv (Ty.mk btk btv btl) bl }) m = none) (ob1 (ht1) (ob1 (ht2) (ob1 (hz) ob0))))))))
      | true =>
       rcases ih rfl with ⟨hq, ih⟩ | ih
       ·refine .inl ⟨fun d hd => ?_, ?_⟩
        ·rcases List.mem_cons.1 hd with rfl | hd
         ·exact ⟨hv1.2 rfl, hv2.2 rfl, left, h0, h1, by rw [hzz]⟩
         ·exact hq d hd
        ·clear hq hv1 hv2 hzb hzz
         exact lN [rS [(0, .bit true)], rS [(0, oW hx)], rS [(2, oC hc), (8, .look none), (14, oC ht1), (21, oC ht2), (27, oC hz)], rS [(3, .look none)], rS [(0, .int ((i : Int) + 1))]] [.keep [(2, []), (3, []), (5, []), (6, []), (54, []), (55, []), (56, [])]] (qT ((i : Int) < (ds.length : Int)) (qI i (ob1 hx (ob1 (hc) (q (findM (Def.name { name := nm, param := Ty.mk pk pv pl, result := Ty.mk rk rv rl, body := Expr.mk bk bn bv (Ty.mk btk btv btl) bl }) m = none) (ob1 (ht1) (ob1 (ht2) (ob1 (hz) (q (findM (Def.name { name := nm, param := Ty.mk pk pv pl, result := Ty.mk rk rv rl, body := Expr.mk bk bn bv (Ty.mk btk btv btl) bl }) m = none) (qw ((i : Int) + 1) ob0)))))))))) (ih)
       ·refine .inr ?_
        clear hv1 hv2 hzb hzz
        exact lN [rS [(0, .bit true)], rS [(0, oW hx)], rS [(2, oC hc), (8, .look none), (14, oC ht1), (21, oC ht2), (27, oC hz)], rS [(3, .look none)], rS [(0, .int ((i : Int) + 1))]] [.keep [(2, []), (3, []), (5, []), (6, []), (54, []), (55, []), (56, [])]] (qT ((i : Int) < (ds.length : Int)) (qI i (ob1 hx (ob1 (hc) (q (findM (Def.name { name := nm, param := Ty.mk pk pv pl, result := Ty.mk rk rv rl, body := Expr.mk bk bn bv (Ty.mk btk btv btl) bl }) m = none) (ob1 (ht1) (ob1 (ht2) (ob1 (hz) (q (findM (Def.name { name := nm, param := Ty.mk pk pv pl, result := Ty.mk rk rv rl, body := Expr.mk bk bn bv (Ty.mk btk btv btl) bl }) m = none) (qw ((i : Int) + 1) ob0)))))))))) (ih)
   ·clear ih hv1 hv2 hzb
    refine .inr ?_
    exact lL [rS [(0, .bit true)], rS [(0, oW hx)], rS [(2, oC hc), (8, .look (some (B true)))], rG] [.keep [(4, [])]] (qT ((i : Int) < (ds.length : Int)) (qI i (ob1 hx (ob1 (hc) (q (findM (Def.name { name := nm, param := Ty.mk pk pv pl, result := Ty.mk rk rv rl, body := Expr.mk bk bn bv (Ty.mk btk btv btl) bl }) m = some (B true)) ob0)))))
theorem check_loop2 (hn : ds.length ≤ 16) (hd0 : ∀ d ∈ ds, d.ok) : ∀ (us : List Def) (i : Nat), ds.drop i = us → (∀ d ∈ us, TypeOk ⟨es, ds, .mk mk mn mv (.mk mtk mtv mtl) ml⟩ d.body [d.param] ∧ (tImp ⟨es, ds, .mk mk mn mv (.mk mtk mtv mtl) ml⟩ d.body [d.param]).1.ok) →
  ((∀ d ∈ us, tImp ⟨es, ds, .mk mk mn mv (.mk mtk mtv mtl) ml⟩ d.body [d.param] = (d.result, true)) ∧ Lp Tryz.prog 136 0 (loopN Tryz.f27 2)
   ⟨lookT [(2, .lp 0 0), (3, .lp 1 0), (95, .sl 14 (Def.encs ds) false), (96, I (ds.length : Int)), (97, I (i : Int))], [.cells [B true] [], .cells (Prog.enc ⟨es, ds, .mk mk mn mv (.mk mtk mtv mtl) ml⟩) []]⟩
   (.exit 4) ⟨lookT [(2, .lp 0 0), (3, .lp 1 0)], [.cells [B true] [], .cells (Prog.enc ⟨es, ds, .mk mk mn mv (.mk mtk mtv mtl) ml⟩) []]⟩) ∨
  Lp Tryz.prog 136 0 (loopN Tryz.f27 2)
   ⟨lookT [(2, .lp 0 0), (3, .lp 1 0), (95, .sl 14 (Def.encs ds) false), (96, I (ds.length : Int)), (97, I (i : Int))], [.cells [B true] [], .cells (Prog.enc ⟨es, ds, .mk mk mn mv (.mk mtk mtv mtl) ml⟩) []]⟩
   .ret ⟨lookT [(4, B false)], []⟩
 | [], i, hd, hs => by
  have hi := drop_end hd
  refine .inl ⟨by simp, ?_⟩
  clear hs hd0 hd
  exact lL [rS [(0, .bit false)]] [.keep [(2, []), (3, [])]] (qF ((i : Int) < (ds.length : Int)) ob0)
 | d :: us, i, hd, hs => by
  obtain ⟨nm, ⟨pk, pv, pl⟩, ⟨rk, rv, rl⟩, ⟨bk, bn, bv, ⟨btk, btv, btl⟩, bl⟩⟩ := d
  have hi := drop_lt hd
  have hx : (Def.encs ds)[i]? = some (Def.mk nm (.mk pk pv pl) (.mk rk rv rl) (.mk bk bn bv (.mk btk btv btl) bl)).enc := by rw [Def.encs_get, drop_get hd]; rfl
  obtain ⟨ht, ho⟩ := hs _ (List.mem_cons_self ..)
  have ih := check_loop2 hn hd0 us (i + 1) (drop_next hd) (fun x hx => hs x (by simp [hx]))
  clear hs hd hd0
  simp only [Int.natCast_add] at ih
  unfold TypeOk at ht
  simp only at ht ho
  generalize hT : tImp ⟨es, ds, .mk mk mn mv (.mk mtk mtv mtl) ml⟩ (.mk bk bn bv (.mk btk btv btl) bl) [.mk pk pv pl] = T at ht ho
  obtain ⟨⟨tk, tv, tl⟩, tb⟩ := T
  have he := eqTy_0 (.mk tk tv tl) (.mk rk rv rl) ho
  clear ho
  cases tb with
  | false =>
   clear ih hT
   refine .inr ?_
   exact lL [rS [(0, .bit true)], rS [(0, oW hx)], rS [(7, oC ht)], rG, rG] [.keep [(4, [])]] (qT ((i : Int) < (ds.length : Int)) (qI i (ob1 hx (ob1 (ht) ob0))))
  | true =>
   by_cases hq : Ty.mk tk tv tl = Ty.mk rk rv rl
   ·rw [decide_eq_true hq] at he
    rcases ih with ⟨h1, ih⟩ | ih
    ·refine .inl ⟨fun d hd => ?_, ?_⟩
     ·rcases List.mem_cons.1 hd with rfl | hd
      ·simp only [hT, hq]
      ·exact h1 d hd
     ·clear h1 hT hq
      exact lN [rS [(0, .bit true)], rS [(0, oW hx)], rS [(7, oC ht)], rS [(6, oC he)], rS [(0, .int ((i : Int) + 1))]] [.keep [(2, []), (3, []), (95, []), (96, []), (97, [])]] (qT ((i : Int) < (ds.length : Int)) (qI i (ob1 hx (ob1 (ht) (ob1 (he) (qw ((i : Int) + 1) ob0)))))) (ih)
    ·clear hT hq
     refine .inr ?_
     exact lN [rS [(0, .bit true)], rS [(0, oW hx)], rS [(7, oC ht)], rS [(6, oC he)], rS [(0, .int ((i : Int) + 1))]] [.keep [(2, []), (3, []), (95, []), (96, []), (97, [])]] (qT ((i : Int) < (ds.length : Int)) (qI i (ob1 hx (ob1 (ht) (ob1 (he) (qw ((i : Int) + 1) ob0)))))) (ih)
   ·rw [decide_eq_false hq] at he
    clear ih hT hq
    refine .inr ?_
    exact lL [rS [(0, .bit true)], rS [(0, oW hx)], rS [(7, oC ht)], rS [(6, oC he)], rG] [.keep [(4, [])]] (qT ((i : Int) < (ds.length : Int)) (qI i (ob1 hx (ob1 (ht) (ob1 (he) ob0)))))
end
end Go.Ae.N
namespace Go.Ae.N
open Go.Proofs
mutual
theorem szC_nodes : ∀ (e : Expr) (d n : Int), (szC e d n).1 = true → (szC e d n).2 = n - e.nodes
 | .mk _ _ _ _ l, d, n, h => by
  simp only [szC] at h ⊢
  split at h
  ·simp at h
  ·rename_i h1
   rw [if_neg h1]
   split at h
   ·simp at h
   ·rename_i h2
    rw [if_neg h2]
    have := szCs_nodes l (d - 1) (n - 1) h
    simp only [Expr.nodes]
    omega
theorem szCs_nodes : ∀ (l : List Expr) (d n : Int), (szCs l d n).1 = true → (szCs l d n).2 = n - Expr.nodesL l
 | [], d, n, h => by simp [szCs, Expr.nodesL]
 | t :: l, d, n, h => by
  rw [szCs_cons] at h ⊢
  split at h
  ·rename_i h1
   rw [if_pos h1]
   have e1 := szC_nodes t d n h1
   have e2 := szCs_nodes l d _ h
   simp only [Expr.nodesL]
   omega
  ·simp at h
end
theorem szC_le {e : Expr} {d n : Int} (h0 : 0 ≤ n) (h : (szC e d n).1 = true) : (e.nodes : Int) ≤ n := by
 have := szC_nodes e d n h
 have := (szC_bound e d n h0).2.2 h
 omega
structure Valid (p : Prog) : Prop where
 ev : p.events.length ≤ 16
 ds : p.defs.length ≤ 16
 pt : PT p
 dok : ∀ d ∈ p.defs, d.ok
 mok : p.main.ok
 msz : (szC p.main 30 400).1 = true
 mty : ∃ k : Int, 1 ≤ k ∧ k ≤ 4 ∧ tImp p p.main [] = (tyF k, true)
theorem check_ (p : Prog) (hok : p.ok) : ∃ b, SC 27 [.agg [B true], .agg p.enc] [] (B b) [] ∧ (b = true → Valid p) := by
 obtain ⟨es, ds, mk, mn, mv, ⟨mtk, mtv, mtl⟩, ml⟩ := p
 obtain ⟨o1, o2, o3, o4, o5⟩ := hok
 simp only at o1 o2 o3 o4 o5
 by_cases h1 : es.length ≤ 16
 ·by_cases h2 : ds.length ≤ 16
  ·have hz := size_ (.mk mk mn mv (.mk mtk mtv mtl) ml) 30 400 o5 (by omega) (by omega) (by omega) (by omega)
   have hzb := szC_bound (.mk mk mn mv (.mk mtk mtv mtl) ml) 30 400 (by omega)
   generalize hzz : szC (.mk mk mn mv (.mk mtk mtv mtl) ml) 30 400 = Z at hz hzb
   obtain ⟨zb, zn⟩ := Z
   cases zb with
   | false =>
    refine ⟨false, ?_, fun h => by cases h⟩
    clear hzb hzz o2 o4 o5 o1 o3
    exact gF Tryz.func27 [rG, rG, rS [(2, .int (es.length : Int)), (3, .bit false), (7, .int (ds.length : Int)), (8, .bit false), (13, oC hz)], rG] (qN strs es (qF (16 < (es.length : Int)) (qN Def.encs ds (qF (16 < (ds.length : Int)) (ob1 (hz) ob0)))))
   | true =>
    have l0 := check_loop0 es ds mk mn mv mtk mtv mtl ml h1 zn es 0 [] rfl o2 .nil
    have l1 := check_loop1 es ds mk mn mv mtk mtv mtl ml h2 ds 0 zn [] rfl o4 (hzb.2.2 rfl) hzb.2.1 .nil
    rcases l0 with ⟨m', hm', l0⟩ | l0
    ·clear hm'
     rcases l1 with ⟨hV, l1⟩ | l1
     ·have hd : ∀ d ∈ ds, d.ok ∧ d.param.VI ∧ d.result.VI := fun d hd => ⟨o4 d hd, (hV d hd).1, (hV d hd).2.1⟩
      have hall := type_all es ds mk mn mv mtk mtv mtl ml (by omega) (by omega) hd
      have hT := fun d (hd' : d ∈ ds) => (show TypeOk ⟨es, ds, .mk mk mn mv (.mk mtk mtv mtl) ml⟩ d.body [d.param] from by
       obtain ⟨n, n0, n1, n2⟩ := (hV d hd').2.2
       exact hall d.body [d.param] 30 n (o4 d hd').2.2.2 n2 (by omega) (by omega) (by simp) (fun t ht => by
        simp only [List.mem_singleton] at ht; subst ht; exact ⟨(o4 d hd').2.1, (hV d hd').1⟩))
      have l2 := check_loop2 es ds mk mn mv mtk mtv mtl ml h2 o4 ds 0 rfl (fun d hd' => ⟨hT d hd', tImp_ok _ (fun d h => (hd d h).1) d.body _ (o4 d hd').2.2.2 (fun t ht => by
       simp only [List.mem_singleton] at ht; subst ht; exact (o4 d hd').2.1)⟩)
      have hM : TypeOk ⟨es, ds, .mk mk mn mv (.mk mtk mtv mtl) ml⟩ (.mk mk mn mv (.mk mtk mtv mtl) ml) [] :=
       hall _ [] 30 400 o5 (by rw [hzz]) (by omega) (by omega) (by simp) (by simp)
      have hMV := tImp_V ⟨es, ds, .mk mk mn mv (.mk mtk mtv mtl) ml⟩ (fun d h => (hd d h).2) (.mk mk mn mv (.mk mtk mtv mtl) ml) [] (by simp)
      unfold TypeOk at hM
      rcases l2 with ⟨hB, l2⟩ | l2
      ·have hval : ∀ k w l, tImp ⟨es, ds, .mk mk mn mv (.mk mtk mtv mtl) ml⟩ (.mk mk mn mv (.mk mtk mtv mtl) ml) [] = (.mk k w l, true) → k = 0 → Valid ⟨es, ds, .mk mk mn mv (.mk mtk mtv mtl) ml⟩ := fun k w l e hk => by
        rw [e] at hMV
        have hv := V_kd0 (hMV rfl) hk
        refine ⟨h1, h2, ⟨fun d hd' => ⟨hB d hd', ?_, (o4 d hd').2.2.2⟩, fun d hd' => (hd d hd').2, by simp only; omega⟩, o4, o5, by rw [hzz], w, hv.1, hv.2.1, ?_⟩
        ·obtain ⟨n, n0, n1, n2⟩ := (hV d hd').2.2
         have := szC_le n0 n2
         omega
        ·rw [e, hk, hv.2.2]; rfl
       clear hB hMV hT hall hd hV o2 o4 o5 o1 o3 hzz hzb
       generalize tImp ⟨es, ds, .mk mk mn mv (.mk mtk mtv mtl) ml⟩ (.mk mk mn mv (.mk mtk mtv mtl) ml) [] = T at hM hval
       obtain ⟨⟨tk, tv, tl⟩, tb⟩ := T
       cases tb with
       | false =>
        refine ⟨false, ?_, fun h => by cases h⟩
        clear hval
        exact gF Tryz.func27 [rG, rG, rS [(2, .int (es.length : Int)), (3, .bit false), (7, .int (ds.length : Int)), (8, .bit false), (13, oC hz)], rG, rS [(2, .int (es.length : Int))], oL [.keep [(2, []), (3, []), (5, []), (6, []), (35, []), (36, []), (37, [])]] l0, rG, rS [(2, .int (ds.length : Int))], oL [.keep [(2, []), (3, []), (5, []), (6, []), (54, []), (55, []), (56, [])]] l1, rS [(2, .int (ds.length : Int))], oL [.keep [(2, []), (3, []), (95, []), (96, []), (97, [])]] l2, rS [(4, oC hM)], rG] (qN strs es (qF (16 < (es.length : Int)) (qN Def.encs ds (qF (16 < (ds.length : Int)) (ob1 (hz) (qN strs es (ob1 (l0) (qN Def.encs ds (ob1 (l1) (qN Def.encs ds (ob1 (l2) (ob1 (hM) ob0))))))))))))
       | true =>
        by_cases hk : tk = 0
        ·refine ⟨true, ?_, fun _ => hval _ _ _ rfl hk⟩
         clear hval
         exact gF Tryz.func27 [rG, rG, rS [(2, .int (es.length : Int)), (3, .bit false), (7, .int (ds.length : Int)), (8, .bit false), (13, oC hz)], rG, rS [(2, .int (es.length : Int))], oL [.keep [(2, []), (3, []), (5, []), (6, []), (35, []), (36, []), (37, [])]] l0, rG, rS [(2, .int (ds.length : Int))], oL [.keep [(2, []), (3, []), (5, []), (6, []), (54, []), (55, []), (56, [])]] l1, rS [(2, .int (ds.length : Int))], oL [.keep [(2, []), (3, []), (95, []), (96, []), (97, [])]] l2, rS [(4, oC hM)], rS [(4, .bit true)]] (qN strs es (qF (16 < (es.length : Int)) (qN Def.encs ds (qF (16 < (ds.length : Int)) (ob1 (hz) (qN strs es (ob1 (l0) (qN Def.encs ds (ob1 (l1) (qN Def.encs ds (ob1 (l2) (ob1 (hM) (qV (tk == 0) ob0)))))))))))))
        ·refine ⟨false, ?_, fun h => by cases h⟩
         clear hval
         exact gF Tryz.func27 [rG, rG, rS [(2, .int (es.length : Int)), (3, .bit false), (7, .int (ds.length : Int)), (8, .bit false), (13, oC hz)], rG, rS [(2, .int (es.length : Int))], oL [.keep [(2, []), (3, []), (5, []), (6, []), (35, []), (36, []), (37, [])]] l0, rG, rS [(2, .int (ds.length : Int))], oL [.keep [(2, []), (3, []), (5, []), (6, []), (54, []), (55, []), (56, [])]] l1, rS [(2, .int (ds.length : Int))], oL [.keep [(2, []), (3, []), (95, []), (96, []), (97, [])]] l2, rS [(4, oC hM)], rS [(4, .bit false)]] (qN strs es (qF (16 < (es.length : Int)) (qN Def.encs ds (qF (16 < (ds.length : Int)) (ob1 (hz) (qN strs es (ob1 (l0) (qN Def.encs ds (ob1 (l1) (qN Def.encs ds (ob1 (l2) (ob1 (hM) (qU (tk == 0) ob0)))))))))))))
      ·refine ⟨false, ?_, fun h => by cases h⟩
       clear hMV hT hall hd hV o2 o4 o5 o1 o3 hzz hzb hM
       exact gF Tryz.func27 [rG, rG, rS [(2, .int (es.length : Int)), (3, .bit false), (7, .int (ds.length : Int)), (8, .bit false), (13, oC hz)], rG, rS [(2, .int (es.length : Int))], oL [.keep [(2, []), (3, []), (5, []), (6, []), (35, []), (36, []), (37, [])]] l0, rG, rS [(2, .int (ds.length : Int))], oL [.keep [(2, []), (3, []), (5, []), (6, []), (54, []), (55, []), (56, [])]] l1, rS [(2, .int (ds.length : Int))], oL [.keep [(2, []), (3, []), (95, []), (96, []), (97, [])]] l2] (qN strs es (qF (16 < (es.length : Int)) (qN Def.encs ds (qF (16 < (ds.length : Int)) (ob1 (hz) (qN strs es (ob1 (l0) (qN Def.encs ds (ob1 (l1) (qN Def.encs ds (ob1 (l2) ob0)))))))))))
     ·refine ⟨false, ?_, fun h => by cases h⟩
      clear o2 o4 o5 o1 o3 hzz hzb
      exact gF Tryz.func27 [rG, rG, rS [(2, .int (es.length : Int)), (3, .bit false), (7, .int (ds.length : Int)), (8, .bit false), (13, oC hz)], rG, rS [(2, .int (es.length : Int))], oL [.keep [(2, []), (3, []), (5, []), (6, []), (35, []), (36, []), (37, [])]] l0, rG, rS [(2, .int (ds.length : Int))], oL [.keep [(2, []), (3, []), (5, []), (6, []), (54, []), (55, []), (56, [])]] l1] (qN strs es (qF (16 < (es.length : Int)) (qN Def.encs ds (qF (16 < (ds.length : Int)) (ob1 (hz) (qN strs es (ob1 (l0) (qN Def.encs ds (ob1 (l1) ob0)))))))))
    ·refine ⟨false, ?_, fun h => by cases h⟩
     clear l1 o2 o4 o5 o1 o3 hzz hzb
     exact gF Tryz.func27 [rG, rG, rS [(2, .int (es.length : Int)), (3, .bit false), (7, .int (ds.length : Int)), (8, .bit false), (13, oC hz)], rG, rS [(2, .int (es.length : Int))], oL [.keep [(2, []), (3, []), (5, []), (6, []), (35, []), (36, []), (37, [])]] l0] (qN strs es (qF (16 < (es.length : Int)) (qN Def.encs ds (qF (16 < (ds.length : Int)) (ob1 (hz) (qN strs es (ob1 (l0) ob0)))))))
  ·refine ⟨false, ?_, fun h => by cases h⟩
   clear o2 o4 o5
   exact gF Tryz.func27 [rG, rG, rS [(2, .int (es.length : Int)), (3, .bit false), (7, .int (ds.length : Int)), (8, .bit true)], rG] (qN strs es (qF (16 < (es.length : Int)) (qN Def.encs ds (qT (16 < (ds.length : Int)) ob0))))
 ·refine ⟨false, ?_, fun h => by cases h⟩
  clear o2 o4 o5
  exact gF Tryz.func27 [rG, rG, rS [(2, .int (es.length : Int)), (3, .bit true)], rG] (qN strs es (qT (16 < (es.length : Int)) ob0))
theorem lplain_ : SC 26 [] [] (.agg [B true]) [] := by
 exact gF Tryz.func26 [rG, rG] ob0
theorem lcheck_ (p : Prog) (hok : p.ok) : ∃ e : Int, SC 12 [.agg p.enc] [] (I e) [] ∧ (e = 0 ∨ e = 15) ∧ (e = 0 → Valid p) := by
 obtain ⟨b, h, hv⟩ := check_ p hok
 obtain ⟨es, ds, mk, mn, mv, ⟨mtk, mtv, mtl⟩, ml⟩ := p
 have hp := lplain_
 cases b with
 | false =>
  refine ⟨15, ?_, .inr rfl, fun h => by omega⟩
  clear hv hok
  exact gF Tryz.func12 [rG, rS [(0, oC hp), (2, oC h)], rG] (ob1 (hp) (ob1 (h) ob0))
 | true =>
  refine ⟨0, ?_, .inl rfl, fun _ => hv rfl⟩
  clear hv hok
  exact gF Tryz.func12 [rG, rS [(0, oC hp), (2, oC h)], rG] (ob1 (hp) (ob1 (h) ob0))
end Go.Ae.N
namespace Go.Ae
theorem ir_small {n : Int} (h0 : -100000 ≤ n) (h1 : n ≤ 100000) : ir n := by unfold ir; omega
theorem ir_wrap (n : Int) : ir (IntKind.wrap .i64 n) := by rw [IntKind.wrap_i64]; unfold ir; omega
mutual
theorem TF_ok {m : Int} (hm : ir m) : ∀ t : Ty, t.ok → (TF m t).ok
 | .mk k v us, h => by
  simp only [TF]
  split
  ·exact ⟨ir_small (by omega) (by omega), hm, by simp, trivial⟩
  ·exact ⟨h.1, h.2.1, by simpa using h.2.2.1, TFs_ok hm us h.2.2.2⟩
theorem TFs_ok {m : Int} (hm : ir m) : ∀ l : List Ty, Ty.oks l → Ty.oks (TFs m l)
 | [], _ => trivial
 | t :: l, h => ⟨TF_ok hm t h.1, TFs_ok hm l h.2⟩
end
theorem constE_ok {a m : Int} (ha : ir a) (hm : ir m) : (constE a m).ok := ⟨ir_small (by omega) (by omega), ha, hm, tyZ_ok, by simp, trivial⟩
theorem pickE_ok {m : Int} (hm : ir m) : (pickE m).ok := ⟨ir_small (by omega) (by omega), ir_small (by omega) (by omega), hm, tyZ_ok, by simp, trivial⟩
theorem afterC_ir {l : List Int} {k : Nat} {b : Int} (hk : k ≤ 1000) : ∀ a ∈ afterC l k b, ir a := by
 unfold afterC
 split
 ·intro a ha; simp only [List.mem_singleton] at ha; subst ha; exact ir_small (by omega) (by omega)
 ·split
  ·intro a ha; simp only [List.mem_singleton] at ha; subst ha; exact ir_wrap _
  ·split
   ·intro a ha; simp only [List.mem_cons, List.not_mem_nil, or_false] at ha; exact ir_small (by omega) (by omega)
   ·intro a ha; simp only [List.mem_cons, List.not_mem_nil, or_false] at ha; exact ir_small (by omega) (by omega)
theorem addE_ok {l : List Int} {k : Nat} {b : Int} (hk : k ≤ 1000) (hl : l.length ≤ 3) : (addE l k b).ok := by
 have hm : ir ((l.length : Int) + 1) := ir_small (by omega) (by omega)
 have hi := afterC_ir (l := l) (b := b) hk
 unfold addE
 rcases afterC_cases l k b with ⟨a, h⟩ | ⟨a, c, h⟩
 ·rw [h] at hi ⊢
  exact constE_ok (hi a (by simp)) hm
 ·rw [h] at hi ⊢
  exact ⟨ir_small (by omega) (by omega), ir_small (by omega) (by omega), ir_small (by omega) (by omega), tyZ_ok, by simp, pickE_ok (ir_small (by omega) (by omega)), constE_ok (hi a (by simp)) hm, constE_ok (hi c (by simp)) hm, trivial⟩
theorem lessC_bound (l : List Int) (k : Nat) (n : Int) : -1 ≤ lessC l k n ∧ lessC l k n ≤ 1 := by
 unfold lessC
 split
 ·omega
 ·split <;> omega
theorem cmpE_ok {c : Int} (h0 : -1 ≤ c) (h1 : c ≤ 1) : (cmpE c).ok := by
 unfold cmpE
 split
 ·exact pickE_ok (ir_small (by omega) (by omega))
 ·exact constE_ok (ir_small (by omega) (by omega)) (ir_small (by omega) (by omega))
theorem caseE_ok {l : List Int} {kd n : Int} {i : Nat} (hi : i ≤ 1000) (hl : l.length ≤ 3) : (caseE l kd n i).ok := by
 unfold caseE
 split
 ·exact addE_ok hi hl
 ·exact cmpE_ok (lessC_bound ..).1 (lessC_bound ..).2
theorem caseEs_ok {l : List Int} {kd n : Int} (hl : l.length ≤ 3) : ∀ r i, r + i ≤ 1000 → Expr.oks (caseEs l kd n r i)
 | 0, _, _ => trivial
 | r + 1, i, h => ⟨caseE_ok (by omega) hl, caseEs_ok hl r (i + 1) (by omega)⟩
theorem Expr.oks_append : ∀ {l r : List Expr}, Expr.oks l → Expr.oks r → Expr.oks (l ++ r)
 | [], _, _, h => h
 | _ :: _, _, h1, h2 => ⟨h1.1, Expr.oks_append h1.2 h2⟩
mutual
theorem EF_ok {l : List Int} (hl : l.length ≤ 3) : ∀ e : Expr, e.sm → e.ok → (EF l e).ok
 | .mk k n v ty us, hs, h => by
  have hm : ir ((l.length : Int) + 1) := ir_small (by omega) (by omega)
  have h0 : ir 0 := ir_small (by omega) (by omega)
  have hcl := clC_bound n l 0
  have hlen := hs.2.1
  have hus := EFs_ok hl us hs.2.2 h.2.2.2.2.2
  simp only [EF]
  split
  ·exact constE_ok (ir_small (by omega) (by omega)) hm
  ·split
   ·exact pickE_ok hm
   ·split
    ·exact ⟨ir_small (by omega) (by omega), h0, h0, tyZ_ok, by simp; omega, Expr.oks_append hus (caseEs_ok hl _ _ (by omega))⟩
    ·refine ⟨h.1, h.2.1, h.2.2.1, ?_, by simp; omega, hus⟩
     split
     ·exact TF_ok hm ty h.2.2.2.1
     ·exact h.2.2.2.1
theorem EFs_ok {l : List Int} (hl : l.length ≤ 3) : ∀ r : List Expr, Expr.sms r → Expr.oks r → Expr.oks (EFs l r)
 | [], _, _ => trivial
 | e :: r, hs, h => ⟨EF_ok hl e hs.1 h.1, EFs_ok hl r hs.2 h.2⟩
end
theorem Expr.sms_of : ∀ {l : List Expr}, (∀ x ∈ l, x.sm) → Expr.sms l
 | [], _ => trivial
 | x :: l, h => ⟨h x (by simp), Expr.sms_of fun y hy => h y (by simp [hy])⟩
end Go.Ae
namespace Go.Ae.N
mutual
theorem tyC_sm : ∀ (t : Ty) (n : Int), (tyC t n).1 = true → t.sm
 | .mk k v l, n, h => by
  simp only [tyC] at h
  split at h
  ·simp at h
  ·split at h
   ·simp only [Bool.and_eq_true, decide_eq_true_eq] at h
    obtain rfl : l = [] := List.length_eq_zero_iff.1 h.2
    exact ⟨by simp, trivial⟩
   ·split at h
    ·split at h
     ·rename_i h2
      exact ⟨by omega, tyCs_sm l _ h⟩
     ·simp at h
    ·split at h
     ·simp only [Bool.and_eq_true, decide_eq_true_eq] at h
      obtain rfl : l = [] := List.length_eq_zero_iff.1 h.2
      exact ⟨by simp, trivial⟩
     ·simp at h
theorem tyCs_sm : ∀ (l : List Ty) (n : Int), (tyCs l n).1 = true → Ty.sms l
 | [], _, _ => trivial
 | t :: l, n, h => by
  simp only [tyCs] at h
  split at h
  ·rename_i h1
   exact ⟨tyC_sm t n h1, tyCs_sm l _ h⟩
  ·simp at h
end
theorem only_nil {k n v : Int} {t : Ty} {l : List Expr} {a b c : Bool} (h : onlyC (.mk k n v t l) a b c 0 = true) : l = [] := by
 obtain ⟨tk, tv, tl⟩ := t
 simp only [onlyC, Bool.and_eq_true, Bool.or_eq_true, decide_eq_true_eq] at h
 have := h.2
 exact List.length_eq_zero_iff.1 (by omega)
theorem typed_sm {p : Prog} (hd : ∀ d ∈ p.defs, d.param.VI ∧ d.result.VI) : ∀ (e : Expr) (sc : List Ty) (t : Ty), ScV sc → tImp p e sc = (t, true) → e.nodes ≤ 1000 → e.sm := by
 intro e
 induction e using Expr.sind with
 | _ k n v ty l ih =>
  intro sc t hs h hn
  simp only [Expr.nodes] at hn
  have hlen := nodesL_len l
  have hmem : ∀ x ∈ l, x.nodes ≤ 1000 := fun x hx => by have := nodes_mem hx; omega
  suffices hq : (k = 4 → ty.sm) ∧ ∀ x ∈ l, x.sm from ⟨hq.1, by omega, Expr.sms_of hq.2⟩
  rcases kind9 k with rfl | rfl | rfl | rfl | rfl | rfl | rfl | rfl | rfl | hk
  ·rw [tImp_const] at h
   simp only [Prod.mk.injEq, Bool.and_eq_true, decide_eq_true_eq] at h
   obtain rfl := only_nil h.2.1.1.1.1
   exact ⟨fun e => by omega, by simp⟩
  ·rw [tImp_var] at h
   split at h
   ·rename_i h1
    simp only [Bool.and_eq_true, decide_eq_true_eq] at h1
    obtain rfl := only_nil h1.1.1
    exact ⟨fun e => by omega, by simp⟩
   ·simp at h
  ·rw [tImp_fun] at h
   split at h
   ·rename_i h1
    simp only [Bool.and_eq_true, decide_eq_true_eq] at h1
    obtain rfl := only_nil h1.1.1
    exact ⟨fun e => by omega, by simp⟩
   ·simp at h
  ·obtain ⟨a, b, x, rfl, ha, hb⟩ := inv_app hd hs h
   refine ⟨fun e => by omega, fun y hy => ?_⟩
   have hy' := hy
   simp only [List.mem_cons, List.not_mem_nil, or_false] at hy
   rcases hy with rfl | rfl
   ·exact ih _ hy' sc _ hs ha (hmem _ hy')
   ·exact ih _ hy' sc _ hs hb (hmem _ hy')
  ·obtain ⟨a, b, rfl, hv, ha, rfl⟩ := inv_lam h
   refine ⟨fun _ => tyC_sm _ _ hv, fun y hy => ?_⟩
   have hy' := hy
   simp only [List.mem_cons, List.not_mem_nil, or_false] at hy
   subst hy
   exact ih _ hy' _ _ (fun u hu => by
    rcases List.mem_append.1 hu with hu | hu
    ·exact hs u hu
    ·simp only [List.mem_singleton] at hu; subst hu; exact hv) ha (hmem _ hy')
  ·obtain ⟨a, b, x, rfl, ha, hb⟩ := inv_let h
   have hV := tImp_V p hd a sc hs (by rw [ha])
   rw [ha] at hV
   refine ⟨fun e => by omega, fun y hy => ?_⟩
   have hy' := hy
   simp only [List.mem_cons, List.not_mem_nil, or_false] at hy
   rcases hy with rfl | rfl
   ·exact ih _ hy' sc _ hs ha (hmem _ hy')
   ·exact ih _ hy' _ _ (fun u hu => by
     rcases List.mem_append.1 hu with hu | hu
     ·exact hs u hu
     ·simp only [List.mem_singleton] at hu; subst hu; exact hV) hb (hmem _ hy')
  ·obtain ⟨a, r, rfl, ha, hr⟩ := inv_case hd hs h
   refine ⟨fun e => by omega, fun y hy => ?_⟩
   have hy' := hy
   rcases List.mem_cons.1 hy with rfl | hy
   ·exact ih _ hy' sc _ hs ha (hmem _ hy')
   ·exact ih _ hy' sc _ hs (hr y hy) (hmem _ hy')
  ·obtain ⟨a, rfl, _, _, ha⟩ := inv_event h
   refine ⟨fun e => by omega, fun y hy => ?_⟩
   have hy' := hy
   simp only [List.mem_cons, List.not_mem_nil, or_false] at hy
   subst hy
   exact ih _ hy' sc _ hs ha (hmem _ hy')
  ·rw [tImp_pick] at h
   simp only [Prod.mk.injEq, Bool.and_eq_true, decide_eq_true_eq] at h
   obtain rfl := only_nil h.2.1.1
   exact ⟨fun e => by omega, by simp⟩
  ·rcases kindI hk with rfl | rfl | rfl | rfl | hk
   ·rw [tImp_int] at h
    simp only [Prod.mk.injEq, Bool.and_eq_true, decide_eq_true_eq] at h
    obtain rfl := only_nil h.2.1.1
    exact ⟨fun e => by omega, by simp⟩
   ·rw [tImp_any] at h
    simp only [Prod.mk.injEq] at h
    obtain rfl := only_nil h.2
    exact ⟨fun e => by omega, by simp⟩
   ·obtain ⟨a, rfl, ha, rfl⟩ := inv_add hd hs h
    refine ⟨fun e => by omega, fun y hy => ?_⟩
    have hy' := hy
    simp only [List.mem_cons, List.not_mem_nil, or_false] at hy
    subst hy
    exact ih _ hy' sc _ hs ha (hmem _ hy')
   ·obtain ⟨a, rfl, ha, rfl⟩ := inv_less hd hs h
    refine ⟨fun e => by omega, fun y hy => ?_⟩
    have hy' := hy
    simp only [List.mem_cons, List.not_mem_nil, or_false] at hy
    subst hy
    exact ih _ hy' sc _ hs ha (hmem _ hy')
   ·rw [tImp_other _ _ _ _ _ _ _ hk] at h
    simp at h
theorem FD_ok {l : List Int} (hl : l.length ≤ 3) {d : Def} (hs : d.body.sm) (h : d.ok) : (FD l d).ok := by
 have hm : ir ((l.length : Int) + 1) := ir_small (by omega) (by omega)
 exact ⟨h.1, TF_ok hm _ h.2.1, TF_ok hm _ h.2.2.1, EF_ok hl _ hs h.2.2.2⟩
theorem Valid.sm {p : Prog} (h : Valid p) : p.main.sm ∧ ∀ d ∈ p.defs, d.body.sm ∧ d.param.sm ∧ d.result.sm := by
 obtain ⟨k, _, _, hk⟩ := h.mty
 have hn : (p.main.nodes : Int) ≤ 400 := szC_le (by omega) h.msz
 refine ⟨typed_sm h.pt.defsV _ _ _ (by simp [ScV]) hk (by omega), fun d hd => ?_⟩
 obtain ⟨h1, h2, h3⟩ := h.pt.defs d hd
 obtain ⟨v1, v2⟩ := h.pt.defsV d hd
 exact ⟨typed_sm h.pt.defsV _ _ _ (fun u hu => by simp only [List.mem_singleton] at hu; subst hu; exact v1) h1 (by omega), tyC_sm _ _ v1, tyC_sm _ _ v2⟩
theorem foldP_ok {l : List Int} (hl : l.length ≤ 3) {p : Prog} (hok : p.ok) (h : Valid p) : (foldP l p).ok := by
 obtain ⟨s1, s2⟩ := h.sm
 obtain ⟨o1, o2, o3, o4, o5⟩ := hok
 refine ⟨o1, o2, by simpa [foldP] using o3, fun d hd => ?_, EF_ok hl _ s1 o5⟩
 simp only [foldP, List.mem_map] at hd
 obtain ⟨d', hd', rfl⟩ := hd
 exact FD_ok hl (s2 d' hd').1 (o4 d' hd')
end Go.Ae.N
namespace Go.Ae.N
open Go.Proofs
abbrev progZ : List AV := [.nil, .nil, I 0, I 0, I 0, I 0, I 0, .nil, .nil]
theorem fold_loop (l : List Int) (es : List ByteArray) (mk mn mv mtk mtv : Int) (mtl : List Ty) (ml : List Expr) (ds : List Def) (hn : ds.length ≤ 1000) : ∀ (us : List Def) (i : Nat) (acc : List (List AV)), ds.drop i = us → acc.length ≤ i →
  (∀ d ∈ us, SC 15 [.agg d.param.enc, .sl 1 (ints l) false] [] (.agg (TF ((l.length : Int) + 1) d.param).enc) [] ∧ SC 15 [.agg d.result.enc, .sl 1 (ints l) false] [] (.agg (TF ((l.length : Int) + 1) d.result).enc) [] ∧
   SC 14 [.agg d.body.enc, .sl 1 (ints l) false] [] (.agg (EF l d.body).enc) []) →
  Lp Tryz.prog 62 0 (loopN Tryz.f6 0) ⟨lookT [(1, .sl 1 (ints l) false), (4, .lp 0 0), (7, .lp 1 0), (30, .sl 14 (Def.encs ds) false), (31, I (ds.length : Int)), (32, I (i : Int))],
    [.cells progZ [], .cells (.sl 1 (strs es) false :: .la 2 1 :: (Expr.mk mk mn mv (.mk mtk mtv mtl) ml).enc) [], .arr 1 14 acc]⟩
   (.exit 0) ⟨lookT [(4, .lp 0 0), (7, .lp 1 0)], [.cells progZ [], .cells (.sl 1 (strs es) false :: .la 2 1 :: (Expr.mk mk mn mv (.mk mtk mtv mtl) ml).enc) [], .arr 1 14 (acc ++ Def.encs (us.map (FD l)))]⟩
 | [], i, acc, hd, ha, hs => by
  have hi := drop_end hd
  simp only [List.map_nil, Def.encs, List.append_nil]
  clear hs hd
  exact lL [rS [(0, .bit false)]] [.keep [(4, []), (7, [])]] (qF ((i : Int) < (ds.length : Int)) ob0)
 | d :: us, i, acc, hd, ha, hs => by
  obtain ⟨c1, c2, c3⟩ := hs d (by simp)
  have hi := drop_lt hd
  have ih := fold_loop l es mk mn mv mtk mtv mtl ml ds hn us (i + 1) (acc ++ [(FD l d).enc]) (drop_next hd) (by simp; omega) (fun x hx => hs x (by simp [hx]))
  rw [List.append_assoc] at ih
  simp only [List.map_cons, Def.encs]
  simp only [List.cons_append, List.nil_append] at ih
  obtain ⟨nm, ⟨pk, pv, pl⟩, ⟨rk, rv, rl⟩, ⟨bk, bn, bv, ⟨btk, btv, btl⟩, bl⟩⟩ := d
  have hx : (Def.encs ds)[i]? = some (Def.mk nm (.mk pk pv pl) (.mk rk rv rl) (.mk bk bn bv (.mk btk btv btl) bl)).enc := by rw [Def.encs_get, drop_get hd]; rfl
  clear hs hd
  simp only [Int.natCast_add] at ih
  have hF : Fits (acc.length + 1) acc.length 184 := by apply Fits.of; omega
  simp only [FD] at ih ⊢
  generalize TF ((l.length : Int) + 1) (.mk pk pv pl) = X1 at c1 ih ⊢
  generalize TF ((l.length : Int) + 1) (.mk rk rv rl) = X2 at c2 ih ⊢
  generalize EF l (.mk bk bn bv (.mk btk btv btl) bl) = X3 at c3 ih ⊢
  obtain ⟨x1k, x1v, x1l⟩ := X1
  obtain ⟨x2k, x2v, x2l⟩ := X2
  obtain ⟨x3k, x3n, x3v, ⟨x3tk, x3tv, x3tl⟩, x3l⟩ := X3
  generalize hR : acc ++ (Def.mk nm (.mk x1k x1v x1l) (.mk x2k x2v x2l) (.mk x3k x3n x3v (.mk x3tk x3tv x3tl) x3l)).enc :: Def.encs (us.map (FD l)) = R at ih ⊢
  clear hR
  exact lN [rS [(0, .bit true)], rS [(0, oW hx)], rS [(7, oC c1), (11, oC c2), (15, oC c3)], rS [(0, .int ((i : Int) + 1))]] [.keep [(1, []), (4, []), (7, []), (30, []), (31, []), (32, [])]] (qT ((i : Int) < (ds.length : Int)) (qI i (ob1 hx (ob1 (c1) (ob1 (c2) (ob1 (c3) (q (Fits (List.length acc + 1) (List.length acc) 184) (qw ((i : Int) + 1) ob0)))))))) (ih)
section
variable (l : List Int) (es : List ByteArray) (ds : List Def) (mk mn mv mtk mtv : Int) (mtl : List Ty) (ml : List Expr)
theorem fold_bad (hc : SC 12 [.agg (Prog.enc ⟨es, ds, .mk mk mn mv (.mk mtk mtv mtl) ml⟩)] [] (I 15) []) :
  SC 6 [.agg (Prog.enc ⟨es, ds, .mk mk mn mv (.mk mtk mtv mtl) ml⟩), .sl 1 (ints l) false] [] (.tup [.agg (Prog.enc ⟨[], [], .mk 0 0 0 (.mk 0 0 []) []⟩), I 15]) [] := by
 exact gK Tryz.func6 [rG, rS [(1, oC hc)], rG, rG] [.tidO 1 [some 1, some 14, none, none, none, none, none, some 3, some 7]] [] (ob1 (hc) ob0)
theorem fold_arg (hc : SC 12 [.agg (Prog.enc ⟨es, ds, .mk mk mn mv (.mk mtk mtv mtl) ml⟩)] [] (I 0) []) (hg : SC 13 [.sl 1 (ints l) false] [] (B false) []) :
  SC 6 [.agg (Prog.enc ⟨es, ds, .mk mk mn mv (.mk mtk mtv mtl) ml⟩), .sl 1 (ints l) false] [] (.tup [.agg (Prog.enc ⟨[], [], .mk 0 0 0 (.mk 0 0 []) []⟩), I 2]) [] := by
 exact gK Tryz.func6 [rG, rS [(1, oC hc)], rG, rS [(1, oC hg)], rG] [.tidO 1 [some 1, some 14, none, none, none, none, none, some 3, some 7]] [] (ob1 (hc) (ob1 (hg) ob0))
theorem fold_lim (hc : SC 12 [.agg (Prog.enc ⟨es, ds, .mk mk mn mv (.mk mtk mtv mtl) ml⟩)] [] (I 0) []) (hg : SC 13 [.sl 1 (ints l) false] [] (B true) [])
 (ds2 : List Def) (qk qn qv qtk qtv : Int) (qtl : List Ty) (ql : List Expr) (hes : es.length ≤ 1000)
 (hm : SC 14 [.agg (Expr.mk mk mn mv (.mk mtk mtv mtl) ml).enc, .sl 1 (ints l) false] [] (.agg (Expr.mk qk qn qv (.mk qtk qtv qtl) ql).enc) [])
 (lp : Lp Tryz.prog 62 0 (loopN Tryz.f6 0) ⟨lookT [(1, .sl 1 (ints l) false), (4, .lp 0 0), (7, .lp 1 0), (30, .sl 14 (Def.encs ds) false), (31, I (ds.length : Int)), (32, I 0)],
    [.cells progZ [], .cells (.sl 1 (strs es) false :: .la 2 1 :: (Expr.mk qk qn qv (.mk qtk qtv qtl) ql).enc) [], .arr 1 14 []]⟩
   (.exit 0) ⟨lookT [(4, .lp 0 0), (7, .lp 1 0)], [.cells progZ [], .cells (.sl 1 (strs es) false :: .la 2 1 :: (Expr.mk qk qn qv (.mk qtk qtv qtl) ql).enc) [], .arr 1 14 (Def.encs ds2)]⟩)
  (hC : SC 16 [.agg (Prog.enc ⟨es, ds2, .mk qk qn qv (.mk qtk qtv qtl) ql⟩)] [] (I 15) []) :
  SC 6 [.agg (Prog.enc ⟨es, ds, .mk mk mn mv (.mk mtk mtv mtl) ml⟩), .sl 1 (ints l) false] [] (.tup [.agg (Prog.enc ⟨[], [], .mk 0 0 0 (.mk 0 0 []) []⟩), I 3]) [] := by
 have hF : Fits (0 + (strs es).length) 0 16 := by apply Fits.of; simp; omega
 exact gK Tryz.func6 [rG, rS [(1, oC hc)], rG, rS [(1, oC hg)], rS [(7, oC hm)], .reg [.accO 4 1 14] [(2, .int (ds.length : Int))], oL [.keep [(1, []), (4, []), (7, []), (30, []), (31, []), (32, [])]] lp, .reg [.frz 2] [(1, oC hC)], rG] [.tidO 0 [some 1, some 14, none, none, none, none, none, some 3, some 7]] [] (ob1 (hc) (ob1 (hg) (q (Fits (0 + List.length (strs es)) 0 16) (ob1 (hm) (qN Def.encs ds (ob1 (lp) (ob1 (hC) ob0)))))))
theorem fold_ok (hc : SC 12 [.agg (Prog.enc ⟨es, ds, .mk mk mn mv (.mk mtk mtv mtl) ml⟩)] [] (I 0) []) (hg : SC 13 [.sl 1 (ints l) false] [] (B true) [])
 (ds2 : List Def) (qk qn qv qtk qtv : Int) (qtl : List Ty) (ql : List Expr) (hes : es.length ≤ 1000)
 (hm : SC 14 [.agg (Expr.mk mk mn mv (.mk mtk mtv mtl) ml).enc, .sl 1 (ints l) false] [] (.agg (Expr.mk qk qn qv (.mk qtk qtv qtl) ql).enc) [])
 (lp : Lp Tryz.prog 62 0 (loopN Tryz.f6 0) ⟨lookT [(1, .sl 1 (ints l) false), (4, .lp 0 0), (7, .lp 1 0), (30, .sl 14 (Def.encs ds) false), (31, I (ds.length : Int)), (32, I 0)],
    [.cells progZ [], .cells (.sl 1 (strs es) false :: .la 2 1 :: (Expr.mk qk qn qv (.mk qtk qtv qtl) ql).enc) [], .arr 1 14 []]⟩
   (.exit 0) ⟨lookT [(4, .lp 0 0), (7, .lp 1 0)], [.cells progZ [], .cells (.sl 1 (strs es) false :: .la 2 1 :: (Expr.mk qk qn qv (.mk qtk qtv qtl) ql).enc) [], .arr 1 14 (Def.encs ds2)]⟩)
  (hC : SC 16 [.agg (Prog.enc ⟨es, ds2, .mk qk qn qv (.mk qtk qtv qtl) ql⟩)] [] (I 0) []) :
  SC 6 [.agg (Prog.enc ⟨es, ds, .mk mk mn mv (.mk mtk mtv mtl) ml⟩), .sl 1 (ints l) false] [] (.tup [.agg (Prog.enc ⟨es, ds2, .mk qk qn qv (.mk qtk qtv qtl) ql⟩), I 0]) [] := by
 have hF : Fits (0 + (strs es).length) 0 16 := by apply Fits.of; simp; omega
 exact gK Tryz.func6 [rG, rS [(1, oC hc)], rG, rS [(1, oC hg)], rS [(7, oC hm)], .reg [.accO 4 1 14] [(2, .int (ds.length : Int))], oL [.keep [(1, []), (4, []), (7, []), (30, []), (31, []), (32, [])]] lp, .reg [.frz 2] [(1, oC hC)], rG] [.tidO 0 [some 1, some 14, none, none, none, none, none, some 3, some 7]] [] (ob1 (hc) (ob1 (hg) (q (Fits (0 + List.length (strs es)) 0 16) (ob1 (hm) (qN Def.encs ds (ob1 (lp) (ob1 (hC) ob0)))))))
end
end Go.Ae.N
namespace Go.Ae.N
open Go.Proofs
def start (p : Prog) : MS := ⟨0, [], [], some p.main, [], vZ, 0, 0⟩
theorem Valid.inv {p : Prog} (hv : Valid p) {fuel : Int} (hf : 0 ≤ fuel) (ch is : List Int) : ∃ k : Int, 1 ≤ k ∧ k ≤ 4 ∧ tImp p p.main [] = (tyF k, true) ∧ Inv p (tyF k) fuel ch is (start p) := by
 obtain ⟨k, h1, h2, h3⟩ := hv.mty
 have hn : p.main.nodes ≤ 400 := by have := szC_le (by omega) hv.msz; omega
 refine ⟨k, h1, h2, h3, ⟨⟨_, ⟨[], .nil, h3, hn, hv.mok⟩, .nil⟩, by simp [start], hf, ?_, by simp [start], by simp [start], by simp [start], by simp [start]⟩⟩
 simp only [MS.psi, start, pends, nodesO]
 simp
 omega
theorem Valid.run {p : Prog} (hv : Valid p) {fuel : Int} (hf : 0 ≤ fuel) (ch is : List Int) : ∃ s' en value width wrong, MRun p fuel ch is (start p) s' en value width wrong := by
 obtain ⟨k, _, _, _, hi⟩ := hv.inv hf ch is
 exact run_ex hv.pt _ hi
theorem mrun_ {p : Prog} (hv : Valid p) {fuel : Int} (hf : 0 ≤ fuel) (hf2 : fuel ≤ 1048576) {ch is : List Int} (hc : ch.length ≤ 4294967296) (hci : is.length ≤ 4294967296) {s' : MS} {en value width : Int} {wrong : Bool} (h : MRun p fuel ch is (start p) s' en value width wrong) :
  SC 19 [.lp 0 0] [Mc0 fuel p 1, lists ch is (0) 0 0] (.lp 0 0) (objsR p fuel ch is s' en value width wrong) := by
 obtain ⟨k, _, _, _, hi⟩ := hv.inv hf ch is
 have lp := run_lp hv.pt hf2 hc hci h hi
 obtain ⟨es, ds, mk, mn, mv, ⟨mtk, mtv, mtl⟩, ml⟩ := p
 obtain ⟨st2, ev2, fr2, e2, env2, ⟨vn, vf, vl, ve⟩, us2, ui2⟩ := s'
 exact run0 fuel es ds mk mn mv mtk mtv mtl ml ch is (0) st2 _ _ e2 env2 vn vf vl ve us2 ch is (ui2) en value width wrong lp
theorem srun_true {p : Prog} (hv : Valid p) {fuel : Int} (hf : 0 ≤ fuel) (hf2 : fuel ≤ 1048576) {ch is : List Int} (hc : ch.length ≤ 4294967296) (hci : is.length ≤ 4294967296) {s' : MS} {en value width : Int} (h : MRun p fuel ch is (start p) s' en value width false) :
  SC 36 [.agg p.enc, .lp 0 0, I fuel] [lists ch is (0) 0 0] (.tup [.agg [.sl 1 (ints s'.ev) false, I s'.used, I en, I value], B true]) [lists ch is (s'.ui) s'.used width] := by
 have hm := mrun_ hv hf hf2 hc hci h
 obtain ⟨es, ds, mk, mn, mv, ⟨mtk, mtv, mtl⟩, ml⟩ := p
 obtain ⟨st2, ev2, fr2, e2, env2, ⟨vn, vf, vl, ve⟩, us2, ui2⟩ := s'
 exact srun_ok fuel es ds mk mn mv mtk mtv mtl ml ch is (0) st2 ev2 _ e2 env2 vn vf vl ve us2 ch is (ui2) en value width hm
theorem srun_false {p : Prog} (hv : Valid p) {fuel : Int} (hf : 0 ≤ fuel) (hf2 : fuel ≤ 1048576) {ch is : List Int} (hc : ch.length ≤ 4294967296) (hci : is.length ≤ 4294967296) {s' : MS} {en value width : Int} (h : MRun p fuel ch is (start p) s' en value width true) :
  SC 36 [.agg p.enc, .lp 0 0, I fuel] [lists ch is (0) 0 0] (.tup [.agg [.sl 1 [] false, I 0, I 0, I 0], B false]) [lists ch is (s'.ui) s'.used width] := by
 have hm := mrun_ hv hf hf2 hc hci h
 obtain ⟨es, ds, mk, mn, mv, ⟨mtk, mtv, mtl⟩, ml⟩ := p
 obtain ⟨st2, ev2, fr2, e2, env2, ⟨vn, vf, vl, ve⟩, us2, ui2⟩ := s'
 exact srun_bad fuel es ds mk mn mv mtk mtv mtl ml ch is (0) st2 _ _ e2 env2 vn vf vl ve us2 ch is (ui2) en value width hm
noncomputable def chkE (p : Prog) (hok : p.ok) : Int := Classical.choose (lcheck_ p hok)
theorem chkE_spec (p : Prog) (hok : p.ok) : SC 12 [.agg p.enc] [] (I (chkE p hok)) [] ∧ (chkE p hok = 0 ∨ chkE p hok = 15) ∧ (chkE p hok = 0 → Valid p) := Classical.choose_spec (lcheck_ p hok)
section
variable (es : List ByteArray) (ds : List Def) (mk mn mv mtk mtv : Int) (mtl : List Ty) (ml : List Expr) (ch is : List Int) (fuel : Int)
theorem do_bad (hc : SC 12 [.agg (Prog.enc ⟨es, ds, .mk mk mn mv (.mk mtk mtv mtl) ml⟩)] [] (I 15) []) :
  SC 17 [.agg (Prog.enc ⟨es, ds, .mk mk mn mv (.mk mtk mtv mtl) ml⟩), .sl 1 (ints ch) false, .sl 1 (ints is) false, I fuel] [] (.tup [.agg [.sl 1 [] false, I 0, I 0, I 0], I 0, I 15]) [] := by
 exact gK Tryz.func17 [rG, rS [(1, oC hc)], rG, rG] [.tidO 1 [some 1, none, none, none]] [] (ob1 (hc) ob0)
theorem do_arg (hc : SC 12 [.agg (Prog.enc ⟨es, ds, .mk mk mn mv (.mk mtk mtv mtl) ml⟩)] [] (I 0) []) (h : fuel < 0 ∨ 1048576 < fuel ∨ 4096 < ch.length ∨ 4096 < is.length) :
  SC 17 [.agg (Prog.enc ⟨es, ds, .mk mk mn mv (.mk mtk mtv mtl) ml⟩), .sl 1 (ints ch) false, .sl 1 (ints is) false, I fuel] [] (.tup [.agg [.sl 1 [] false, I 0, I 0, I 0], I 0, I 2]) [] := by
 rcases dsp (fuel < 0) with ⟨hb1, hb1'⟩ | ⟨hb1, hb1'⟩
 ·skip
  exact gK Tryz.func17 [rG, rS [(1, oC hc)], rG, rS [(1, .bit true)], rG] [.tidO 1 [some 1, none, none, none]] [] (ob1 (hc) (qT (fuel < 0) ob0))
 ·skip
  rcases dsp (1048576 < fuel) with ⟨hb2, hb2'⟩ | ⟨hb2, hb2'⟩
  ·skip
   exact gK Tryz.func17 [rG, rS [(1, oC hc)], rG, rS [(1, .bit false), (4, .bit true)], rG] [.tidO 1 [some 1, none, none, none]] [] (ob1 (hc) (qF (fuel < 0) (qT (1048576 < fuel) ob0)))
  ·skip
   rcases dsp (4096 < (↑(List.length ch) : Int)) with ⟨hb3, hb3'⟩ | ⟨hb3, hb3'⟩
   ·skip
    exact gK Tryz.func17 [rG, rS [(1, oC hc)], rG, rS [(1, .bit false), (4, .bit false), (8, .int (ch.length : Int)), (9, .bit true)], rG] [.tidO 1 [some 1, none, none, none]] [] (ob1 (hc) (qF (fuel < 0) (qF (1048576 < fuel) (qN ints ch (qT (4096 < (ch.length : Int)) ob0)))))
   ·skip
    exact gK Tryz.func17 [rG, rS [(1, oC hc)], rG, rS [(1, .bit false), (4, .bit false), (8, .int (ch.length : Int)), (9, .bit false), (13, .int (is.length : Int)), (14, .bit true)], rG] [.tidO 1 [some 1, none, none, none]] [] (ob1 (hc) (qF (fuel < 0) (qF (1048576 < fuel) (qN ints ch (qF (4096 < (ch.length : Int)) (qN ints is (qT (4096 < (is.length : Int)) ob0)))))))
theorem do_wrong (hc : SC 12 [.agg (Prog.enc ⟨es, ds, .mk mk mn mv (.mk mtk mtv mtl) ml⟩)] [] (I 0) []) (h0 : 0 ≤ fuel) (h1 : fuel ≤ 1048576) (h2 : ch.length ≤ 4096) (h3 : is.length ≤ 4096) (us ui width : Int)
  (hr : SC 36 [.agg (Prog.enc ⟨es, ds, .mk mk mn mv (.mk mtk mtv mtl) ml⟩), .lp 0 0, I fuel] [lists ch is (0) 0 0] (.tup [.agg [.sl 1 [] false, I 0, I 0, I 0], B false]) [lists ch is (ui) us width]) :
  SC 17 [.agg (Prog.enc ⟨es, ds, .mk mk mn mv (.mk mtk mtv mtl) ml⟩), .sl 1 (ints ch) false, .sl 1 (ints is) false, I fuel] [] (.tup [.agg [.sl 1 [] false, I 0, I 0, I 0], I 0, I 2]) [] := by
 exact gK Tryz.func17 [rG, rS [(1, oC hc)], rG, rS [(1, .bit false), (4, .bit false), (8, .int (ch.length : Int)), (9, .bit false), (13, .int (is.length : Int)), (14, .bit false)], rG, rS [(3, oC hr)], rG, rG] [.tidO 1 [some 1, none, none, none]] [] (ob1 (hc) (qF (fuel < 0) (qF (1048576 < fuel) (qN ints ch (qF (4096 < (ch.length : Int)) (qN ints is (qF (4096 < (is.length : Int)) (ob1 (hr) ob0))))))))
theorem do_fine (hc : SC 12 [.agg (Prog.enc ⟨es, ds, .mk mk mn mv (.mk mtk mtv mtl) ml⟩)] [] (I 0) []) (h0 : 0 ≤ fuel) (h1 : fuel ≤ 1048576) (h2 : ch.length ≤ 4096) (h3 : is.length ≤ 4096) (us ui width en value : Int) (ev : List Int)
  (hr : SC 36 [.agg (Prog.enc ⟨es, ds, .mk mk mn mv (.mk mtk mtv mtl) ml⟩), .lp 0 0, I fuel] [lists ch is (0) 0 0] (.tup [.agg [.sl 1 (ints ev) false, I us, I en, I value], B true]) [lists ch is (ui) us width]) :
  SC 17 [.agg (Prog.enc ⟨es, ds, .mk mk mn mv (.mk mtk mtv mtl) ml⟩), .sl 1 (ints ch) false, .sl 1 (ints is) false, I fuel] [] (.tup [.agg [.sl 1 (ints ev) false, I us, I en, I value], I ui, I 0]) [] := by
 exact gK Tryz.func17 [rG, rS [(1, oC hc)], rG, rS [(1, .bit false), (4, .bit false), (8, .int (ch.length : Int)), (9, .bit false), (13, .int (is.length : Int)), (14, .bit false)], rG, rS [(3, oC hr)], rG, rG] [.tidO 1 [some 1, none, none, none]] [] (ob1 (hc) (qF (fuel < 0) (qF (1048576 < fuel) (qN ints ch (qF (4096 < (ch.length : Int)) (qN ints is (qF (4096 < (is.length : Int)) (ob1 (hr) ob0))))))))
end
inductive DoR (p : Prog) (hok : p.ok) (ch is : List Int) (fuel : Int) : List Int → Int → Int → Int → Int → Int → Prop
 | bad (h : chkE p hok = 15) : DoR p hok ch is fuel [] 0 0 0 0 15
 | arg (h : chkE p hok = 0) (h2 : fuel < 0 ∨ 1048576 < fuel ∨ 4096 < ch.length ∨ 4096 < is.length) : DoR p hok ch is fuel [] 0 0 0 0 2
 | wrong {s' en value width} (h : chkE p hok = 0) (h0 : 0 ≤ fuel) (h1 : fuel ≤ 1048576) (h2 : ch.length ≤ 4096) (h3 : is.length ≤ 4096) (hr : MRun p fuel ch is (start p) s' en value width true) : DoR p hok ch is fuel [] 0 0 0 0 2
 | fine {s' en value width} (h : chkE p hok = 0) (h0 : 0 ≤ fuel) (h1 : fuel ≤ 1048576) (h2 : ch.length ≤ 4096) (h3 : is.length ≤ 4096) (hr : MRun p fuel ch is (start p) s' en value width false) : DoR p hok ch is fuel s'.ev s'.used en value s'.ui 0
theorem do_ex (p : Prog) (hok : p.ok) (ch is : List Int) (fuel : Int) : ∃ ev us en value k e, DoR p hok ch is fuel ev us en value k e := by
 obtain ⟨_, h2, h3⟩ := chkE_spec p hok
 rcases h2 with h2 | h2
 ·by_cases h : fuel < 0 ∨ 1048576 < fuel ∨ 4096 < ch.length ∨ 4096 < is.length
  ·exact ⟨_, _, _, _, _, _, .arg h2 h⟩
  ·obtain ⟨s', en, value, width, wrong, hr⟩ := (h3 h2).run (show 0 ≤ fuel by omega) ch is
   cases wrong with
   | true => exact ⟨_, _, _, _, _, _, .wrong h2 (by omega) (by omega) (by omega) (by omega) hr⟩
   | false => exact ⟨_, _, _, _, _, _, .fine h2 (by omega) (by omega) (by omega) (by omega) hr⟩
 ·exact ⟨_, _, _, _, _, _, .bad h2⟩
theorem do_ {p : Prog} {hok : p.ok} {ch is : List Int} {fuel : Int} {ev : List Int} {us en value k e : Int} (h : DoR p hok ch is fuel ev us en value k e) :
  SC 17 [.agg p.enc, .sl 1 (ints ch) false, .sl 1 (ints is) false, I fuel] [] (.tup [.agg [.sl 1 (ints ev) false, I us, I en, I value], I k, I e]) [] := by
 obtain ⟨hc, _, hv⟩ := chkE_spec p hok
 cases h with
 | bad h =>
  rw [h] at hc
  obtain ⟨es, ds, mk, mn, mv, ⟨mtk, mtv, mtl⟩, ml⟩ := p
  exact do_bad es ds mk mn mv mtk mtv mtl ml ch is fuel hc
 | arg h h2 =>
  rw [h] at hc
  obtain ⟨es, ds, mk, mn, mv, ⟨mtk, mtv, mtl⟩, ml⟩ := p
  exact do_arg es ds mk mn mv mtk mtv mtl ml ch is fuel hc h2
 | @wrong s' en value width h h0 h1 h2 h3 hr =>
  have hs := srun_false (hv h) h0 h1 (by omega) (by omega) hr
  rw [h] at hc
  obtain ⟨es, ds, mk, mn, mv, ⟨mtk, mtv, mtl⟩, ml⟩ := p
  exact do_wrong es ds mk mn mv mtk mtv mtl ml ch is fuel hc h0 h1 h2 h3 _ _ _ hs
 | @fine s' en value width h h0 h1 h2 h3 hr =>
  have hs := srun_true (hv h) h0 h1 (by omega) (by omega) hr
  rw [h] at hc
  obtain ⟨es, ds, mk, mn, mv, ⟨mtk, mtv, mtl⟩, ml⟩ := p
  exact do_fine es ds mk mn mv mtk mtv mtl ml ch is fuel hc h0 h1 h2 h3 _ _ _ _ _ _ hs
end Go.Ae.N
namespace Go.Ae.N
open Go.Proofs
theorem fold_ (p : Prog) (hok : p.ok) (l : List Int) (hl : l.length ≤ 140737488351232) :
  (∃ e : Int, e ≠ 0 ∧ SC 6 [.agg p.enc, .sl 1 (ints l) false] [] (.tup [.agg (Prog.enc ⟨[], [], .mk 0 0 0 (.mk 0 0 []) []⟩), I e]) []) ∨
  (SC 6 [.agg p.enc, .sl 1 (ints l) false] [] (.tup [.agg (foldP l p).enc, I 0]) [] ∧ chkE p hok = 0 ∧ Valid p ∧ Go.Ae.Valid (foldP l p) ∧ (foldP l p).ok ∧ goodC none l = true ∧ l.length ≤ 3) := by
 obtain ⟨hc, hc2, hcv⟩ := chkE_spec p hok
 rcases hc2 with hc2 | hc2
 ·have hv := hcv hc2
  rw [hc2] at hc
  have hg := good_ l hl
  cases hgd : (goodC none l && decide (l.length ≤ 3)) with
  | true =>
   rw [hgd] at hg
   simp only [Bool.and_eq_true, decide_eq_true_eq] at hgd
   obtain ⟨g1, g2⟩ := hgd
   have hr := goodC_mem l none g1
   obtain ⟨s1, s2⟩ := hv.sm
   have qok := foldP_ok g2 hok hv
   obtain ⟨e, hC, he, hV⟩ := Go.Ae.lcheck_ (foldP l p) qok
   have hes := hv.ev
   have hds := hv.ds
   have hm := expr_ l g2 hr p.main s1
   have hcs : ∀ d ∈ p.defs, SC 15 [.agg d.param.enc, .sl 1 (ints l) false] [] (.agg (TF ((l.length : Int) + 1) d.param).enc) [] ∧ SC 15 [.agg d.result.enc, .sl 1 (ints l) false] [] (.agg (TF ((l.length : Int) + 1) d.result).enc) [] ∧
     SC 14 [.agg d.body.enc, .sl 1 (ints l) false] [] (.agg (EF l d.body).enc) [] :=
    fun d hd => ⟨foldTy_ l (by omega) d.param (s2 d hd).2.1, foldTy_ l (by omega) d.result (s2 d hd).2.2, expr_ l g2 hr d.body (s2 d hd).1⟩
   rcases hQ : EF l p.main with ⟨qk, qn, qv, ⟨qtk, qtv, qtl⟩, ql⟩
   have hF : foldP l p = ⟨p.events, p.defs.map (FD l), .mk qk qn qv (.mk qtk qtv qtl) ql⟩ := by simp only [foldP, hQ]
   rw [hQ] at hm
   have lp := fold_loop l p.events qk qn qv qtk qtv qtl ql p.defs (by omega) p.defs 0 [] rfl (by simp) hcs
   simp only [List.nil_append] at lp
   rcases he with rfl | rfl
   ·refine .inr ⟨?_, hc2, hv, hV rfl, qok, g1, g2⟩
    rw [hF] at hC ⊢
    obtain ⟨es, ds, mk, mn, mv, ⟨mtk, mtv, mtl⟩, ml⟩ := p
    exact fold_ok l es ds mk mn mv mtk mtv mtl ml hc hg _ qk qn qv qtk qtv qtl ql (by simp only at hes; omega) hm lp hC
   ·refine .inl ⟨3, by omega, ?_⟩
    rw [hF] at hC
    obtain ⟨es, ds, mk, mn, mv, ⟨mtk, mtv, mtl⟩, ml⟩ := p
    exact fold_lim l es ds mk mn mv mtk mtv mtl ml hc hg _ qk qn qv qtk qtv qtl ql (by simp only at hes; omega) hm lp hC
  | false =>
   rw [hgd] at hg
   refine .inl ⟨2, by omega, ?_⟩
   obtain ⟨es, ds, mk, mn, mv, ⟨mtk, mtv, mtl⟩, ml⟩ := p
   exact fold_arg l es ds mk mn mv mtk mtv mtl ml hc hg
 ·rw [hc2] at hc
  refine .inl ⟨15, by omega, ?_⟩
  obtain ⟨es, ds, mk, mn, mv, ⟨mtk, mtv, mtl⟩, ml⟩ := p
  exact fold_bad l es ds mk mn mv mtk mtv mtl ml hc
end Go.Ae.N
namespace Go.Ae.N
theorem EF_o {l : List Int} {k n v : Int} {ty : Ty} {us : List Expr} (h : k ≠ 4 ∧ k ≠ 9 ∧ k ≠ 10 ∧ k ≠ 11 ∧ k ≠ 12) : EF l (.mk k n v ty us) = .mk k n v ty (EFs l us) := by
 simp only [EF]
 rw [if_neg h.2.1, if_neg h.2.2.1, if_neg (by omega), if_neg h.1]
theorem EF_4 {l : List Int} {n v : Int} {ty : Ty} {us : List Expr} : EF l (.mk 4 n v ty us) = .mk 4 n v (TF ((l.length : Int) + 1) ty) (EFs l us) := by simp [EF]
theorem EF_9 {l : List Int} {n v : Int} {ty : Ty} {us : List Expr} : EF l (.mk 9 n v ty us) = .mk 0 (clC n l 0) ((l.length : Int) + 1) tyZ [] := by simp [EF]
theorem EF_10 {l : List Int} {n v : Int} {ty : Ty} {us : List Expr} : EF l (.mk 10 n v ty us) = .mk 8 0 ((l.length : Int) + 1) tyZ [] := by simp [EF]
theorem EF_11 {l : List Int} {n v : Int} {ty : Ty} {a : Expr} : EF l (.mk 11 n v ty [a]) = .mk 6 0 0 tyZ (EF l a :: caseEs l 11 n (l.length + 1) 0) := by simp [EF, EFs]
theorem EF_12 {l : List Int} {n v : Int} {ty : Ty} {a : Expr} : EF l (.mk 12 n v ty [a]) = .mk 6 0 0 tyZ (EF l a :: caseEs l 12 n (l.length + 1) 0) := by simp [EF, EFs]
theorem Sim.step {p : Prog} (hp : PT p) {l : List Int} (hg : goodC none l = true) (hl : l.length ≤ 3) {T : Ty} {fuel : Int} {ch is : List Int} {s s1 : MS} (h : Mv p fuel ch is s (.go s1)) {s2 : Go.Ae.MS} (hs : Sim p l T s s2)
  (h0 : 0 ≤ s.steps) (hfu : fuel ≤ 10000000) {F : Int} {own : List Int} (hF : s2.steps + 3 ≤ F) (hev : s2.ev = s.ev) (hown : ∀ j c, (outs l ch is s)[j]? = some c → own[s2.used + j]? = some c) :
  ∃ s21, Mvs (foldP l p) F own s2 s21 ∧ Sim p l T s1 s21 ∧ s21.ev = s1.ev ∧ s21.used = s2.used + (outs l ch is s).length ∧ s21.steps ≤ s2.steps + 3 * (s1.steps - s.steps) := by
 obtain ⟨st2, ev2, fr2, expr2, env2, val2, us2⟩ := s2
 simp only at hev hF hown
 subst hev
 generalize ho : Out.go s1 = o at h
 cases h with
 | @const st ev fr n v ty xs env val us ui =>
  cases ho
  obtain ⟨t, ⟨sc, he, ht⟩, h2, hfr⟩ := hs
  simp only at h2 hfr he
  subst h2
  rw [EF_o (by omega)]
  obtain ⟨rfl, _, _⟩ := inv_const ht
  exact ⟨_, .one .const, ⟨_, .num, rfl, hfr⟩, rfl, by simp [outs], by simp⟩
 | @var st ev fr n v ty xs env val us ui w hw hn =>
  cases ho
  obtain ⟨t, ⟨sc, he, ht⟩, h2, hfr⟩ := hs
  simp only at h2 hfr he
  subst h2
  rw [EF_o (by omega)]
  obtain ⟨q1, q2, q3⟩ := inv_var ht
  obtain ⟨w0, w', e1, e2, e3⟩ := he.at q1 q2 q3
  rw [Int.toNat_natCast] at e1 e2
  rw [hw] at e1
  cases e1
  exact ⟨_, .one (.var e2 hn), ⟨_, e3, rfl, hfr⟩, rfl, by simp [outs], by simp⟩
 | @fn st ev fr n v ty xs env val us ui hn0 hn1 =>
  cases ho
  obtain ⟨t, ⟨sc, he, ht⟩, h2, hfr⟩ := hs
  simp only at h2 hfr he
  subst h2
  rw [EF_o (by omega)]
  obtain ⟨q1, q2, d, q3, rfl⟩ := inv_fun ht
  obtain ⟨i, rfl⟩ := Int.eq_ofNat_of_zero_le q1
  exact ⟨_, .one (.fn hn0 hn1), ⟨_, .fn (by simpa using q3), rfl, hfr⟩, rfl, by simp [outs], by simp⟩
 | @lam st ev fr n v ty xs env val us ui =>
  cases ho
  obtain ⟨t, ⟨sc, he, ht⟩, h2, hfr⟩ := hs
  simp only at h2 hfr he
  subst h2
  obtain ⟨a, b, rfl, hv1, ha, rfl⟩ := inv_lam ht
  have hc : VR p l (1099511627776 + st) (.mk 1 0 [ty, b]) (.mk 0 0 (some (.mk 4 n v ty [a])) env) (.mk 0 0 (some (EF l (.mk 4 n v ty [a]))) env2) :=
   .clo sc he.l1 he.l2 he.get (fun u hu => by
    rcases List.mem_cons.1 hu with rfl | hu
    ·exact hv1
    ·exact he.v u hu) (by rw [rev_snoc]; exact ha)
  rw [EF_4] at hc ⊢
  exact ⟨_, .one .lam, ⟨_, hc, rfl, hfr⟩, rfl, by simp [outs], by simp⟩
 | @app st ev fr n v ty a xs env val us ui hxl =>
  cases ho
  obtain ⟨t, ⟨sc, he, ht⟩, h2, hfr⟩ := hs
  simp only at h2 hfr he
  subst h2
  obtain ⟨a', b', x, hl', ha, hb⟩ := inv_app hp.defsV he.v.rev ht
  cases hl'
  have hV := tImp_V p hp.defsV b' sc.reverse he.v.rev (by rw [hb])
  rw [hb] at hV
  have hc : FR p l (1099511627776 + st) T (⟨0, some (.mk 3 n v ty [a, b']), env, vZ⟩ :: fr) (⟨0, some (EF l (.mk 3 n v ty [a, b'])), env2, vZ⟩ :: fr2) (.mk 1 0 [x, t]) := .arg ⟨sc, he, hb⟩ hV hfr
  rw [EF_o (by omega)] at hc ⊢
  exact ⟨_, .one (.app (by simp [EFs])), ⟨_, ⟨sc, he, ha⟩, rfl, hc⟩, rfl, by simp [outs], by simp⟩
 | @lt st ev fr n v ty a xs env val us ui hxl =>
  cases ho
  obtain ⟨t, ⟨sc, he, ht⟩, h2, hfr⟩ := hs
  simp only at h2 hfr he
  subst h2
  obtain ⟨a', b', x, hl', ha, hb⟩ := inv_let ht
  cases hl'
  have hV := tImp_V p hp.defsV a sc.reverse he.v.rev (by rw [ha])
  rw [ha] at hV
  have hc : FR p l (1099511627776 + st) T (⟨2, some (.mk 5 n v ty [a, b']), env, vZ⟩ :: fr) (⟨2, some (EF l (.mk 5 n v ty [a, b'])), env2, vZ⟩ :: fr2) x := .lt he hV (by rw [rev_snoc]; exact hb) hfr
  rw [EF_o (by omega)] at hc ⊢
  exact ⟨_, .one (.lt (by simp [EFs])), ⟨_, ⟨sc, he, ha⟩, rfl, hc⟩, rfl, by simp [outs], by simp⟩
 | @cs st ev fr n v ty a xs env val us ui hxl =>
  cases ho
  obtain ⟨t, ⟨sc, he, ht⟩, h2, hfr⟩ := hs
  simp only at h2 hfr he
  subst h2
  obtain ⟨a', r, hl', ha, hr⟩ := inv_case hp.defsV he.v.rev ht
  cases hl'
  have hc : FR p l (1099511627776 + st) T (⟨3, some (.mk 6 n v ty (a :: xs)), env, vZ⟩ :: fr) (⟨3, some (EF l (.mk 6 n v ty (a :: xs))), env2, vZ⟩ :: fr2) (tyF xs.length) := .cs he hr hfr
  rw [EF_o (by omega)] at hc ⊢
  exact ⟨_, .one (.cs (by simpa using hxl)), ⟨_, ⟨sc, he, ha⟩, rfl, hc⟩, rfl, by simp [outs], by simp⟩
 | @fine st ev fr n v ty xs env val us ui c hf hc hc0 hc1 =>
  cases ho
  obtain ⟨t, ⟨sc, he, ht⟩, h2, hfr⟩ := hs
  simp only at h2 hfr he
  subst h2
  rw [EF_o (by omega)]
  obtain rfl := inv_pick ht
  have hout : outs l ch is ⟨st, ev, fr, some (.mk 8 n v ty xs), env, val, us, ui⟩ = [c] := by simp [outs, hc]
  have := hown 0 c (by rw [hout]; rfl)
  exact ⟨_, .one (.fine (by omega) this hc0 hc1), ⟨_, .num, rfl, hfr.mono (by simp only; omega)⟩, rfl, by rw [hout]; rfl, by simp only; omega⟩
 | @event st ev fr n v ty a xs env val us ui hf hel hxl =>
  cases ho
  obtain ⟨t, ⟨sc, he, ht⟩, h2, hfr⟩ := hs
  simp only at h2 hfr he
  subst h2
  rw [EF_o (by omega)]
  obtain ⟨a', hl', q1, q2, ha⟩ := inv_event ht
  cases hl'
  exact ⟨_, .one (.event (by omega) hel (by simp [EFs])), ⟨_, ⟨sc, he.mono (by simp only; omega), ha⟩, rfl, hfr.mono (by simp only; omega)⟩, rfl, by simp [outs], by simp only; omega⟩
 | @int st ev fr n v ty xs env val us ui =>
  cases ho
  obtain ⟨t, ⟨sc, he, ht⟩, h2, hfr⟩ := hs
  simp only at h2 hfr he h0
  subst h2
  rw [EF_9]
  obtain rfl := inv_int ht
  have hb := inv_int2 ht
  exact ⟨_, .one .const, ⟨_, .int (by simp only; omega) (by simp only; omega), rfl, hfr⟩, rfl, by simp [outs], by simp⟩
 | @afine st ev fr n v ty xs env val us ui x hf hc hc0 hc1 =>
  cases ho
  obtain ⟨t, ⟨sc, he, ht⟩, h2, hfr⟩ := hs
  simp only at h2 hfr he h0
  subst h2
  rw [EF_10]
  obtain rfl := inv_any ht
  have hout : outs l ch is ⟨st, ev, fr, some (.mk 10 n v ty xs), env, val, us, ui⟩ = [clC x l 0] := by simp [outs, hc]
  have := hown 0 (clC x l 0) (by rw [hout]; rfl)
  have hcb := clC_bound x l 0
  exact ⟨_, .one (.fine (by omega) this (by omega) (by omega)), ⟨_, .int (by simp only; omega) (by simp only; omega), rfl, hfr.mono (by simp only; omega)⟩, rfl, by rw [hout]; rfl, by simp only; omega⟩
 | @add st ev fr n v ty a xs env val us ui hxl =>
  cases ho
  obtain ⟨t, ⟨sc, he, ht⟩, h2, hfr⟩ := hs
  simp only at h2 hfr he
  subst h2
  obtain ⟨a', hl', ha, rfl⟩ := inv_add hp.defsV he.v.rev ht
  have hb := inv_add2 ht
  cases hl'
  have hc : FR p l (1099511627776 + st) T (⟨4, some (.mk 11 n v ty [a]), env, vZ⟩ :: fr) (⟨3, some (EF l (.mk 11 n v ty [a])), env2, vZ⟩ :: fr2) tyI := .ad hb hfr
  rw [EF_11] at hc ⊢
  exact ⟨_, .one (.cs (by simp; omega)), ⟨_, ⟨sc, he, ha⟩, rfl, hc⟩, rfl, by simp [outs], by simp⟩
 | @less st ev fr n v ty a xs env val us ui hxl =>
  cases ho
  obtain ⟨t, ⟨sc, he, ht⟩, h2, hfr⟩ := hs
  simp only at h2 hfr he
  subst h2
  obtain ⟨a', hl', ha, rfl⟩ := inv_less hp.defsV he.v.rev ht
  cases hl'
  have hc : FR p l (1099511627776 + st) T (⟨5, some (.mk 12 n v ty [a]), env, vZ⟩ :: fr) (⟨3, some (EF l (.mk 12 n v ty [a])), env2, vZ⟩ :: fr2) tyI := .ls hfr
  rw [EF_12] at hc ⊢
  exact ⟨_, .one (.cs (by simp; omega)), ⟨_, ⟨sc, he, ha⟩, rfl, hc⟩, rfl, by simp [outs], by simp⟩
 | @arg st ev fr n v ty a b env fn env' val us ui =>
  cases ho
  obtain ⟨t, hv, h2, hfr⟩ := hs
  simp only at h2 hfr hv
  subst h2
  cases hfr with
  | @arg _ _ _ x y _ _ _ env3 _ fn' _ r' hx hxV hr =>
   rw [EF_o (by omega)]
   exact ⟨_, .one .arg, ⟨_, hx, rfl, .call hxV hv hr⟩, rfl, by cases val; simp [outs], by simp⟩
 | @blet st ev fr n v ty a b env fn env' val us ui hf =>
  cases ho
  obtain ⟨t, hv, h2, hfr⟩ := hs
  simp only at h2 hfr hv
  subst h2
  cases hfr with
  | @lt _ _ _ x y _ _ _ env3 _ fn' _ r' sc he hxV hx hr =>
   rw [EF_o (by omega)]
   exact ⟨_, .one (.blet (by omega)), ⟨_, ⟨_, (he.mono (by simp only; omega)).cons (hv.mono (by simp only; omega)) hxV, hx⟩, rfl, hr.mono (by simp only; omega)⟩, rfl, by cases val; simp [outs], by simp only; omega⟩
 | @bcase st ev fr n v ty xs env fn env' w wf wl we us ui b hf hxl hw =>
  cases ho
  obtain ⟨t, hv, h2, hfr⟩ := hs
  simp only at h2 hfr hv
  subst h2
  cases hfr with
  | @cs _ _ _ y f xs' _ env3 _ fn' _ r' sc he hx hr =>
   rw [EF_o (by omega)]
   generalize hk : tyF (xs'.length : Int) = u at hv
   cases hv with
   | num =>
    have hb : xs'[w]? = some b := by rw [Nat.add_comm] at hw; simpa using hw
    have hb2 : (EFs l (f :: xs'))[1 + w]? = some (EF l b) := by rw [EFs_get, hw]; rfl
    exact ⟨_, .one (.bcase (by omega) (by simp at hxl ⊢; omega) hb2), ⟨_, ⟨_, he.mono (by simp only; omega), hx b (List.mem_of_getElem? hb)⟩, rfl, hr.mono (by simp only; omega)⟩, rfl, by simp [outs], by simp only; omega⟩
   | int => simp [tyF, tyI] at hk
   | fn => simp [tyF] at hk
   | clo => simp [tyF] at hk
 | @bfun st ev fr i gl ge env' val us ui d hf hd =>
  cases ho
  obtain ⟨t, hv, h2, hfr⟩ := hs
  simp only at h2 hfr hv
  subst h2
  cases hfr with
  | @call x y _ fn' _ r' hxV hfn hr =>
   generalize hq : Vl.mk 0 ((i : Int) + 1) gl ge = q at hfn
   generalize hty : Ty.mk 1 0 [t, y] = u at hfn
   cases hfn with
   | num => simp [tyF] at hty
   | int => simp [tyI] at hty
   | @fn j d' hd' =>
    simp only [Vl.mk.injEq] at hq
    obtain ⟨_, hj, rfl, rfl⟩ := hq
    obtain rfl : i = j := by omega
    rw [hd] at hd'
    cases hd'
    cases hty
    have hd2 : (foldP l p).defs[i]? = some (FD l d) := by simp [foldP, hd]
    have hm := (hp.defs d (List.mem_of_getElem? hd)).1
    exact ⟨_, .one (.bfun (by omega) hd2), ⟨_, ⟨[d.param], EnvR.nil.cons (hv.mono (by simp only; omega)) hxV, hm⟩, rfl, hr.mono (by simp only; omega)⟩, rfl, by simp [outs], by simp only; omega⟩
   | clo => simp only [Vl.mk.injEq] at hq; omega
 | @bclo st ev fr n v ty b ge env' val us ui hf =>
  cases ho
  obtain ⟨t, hv, h2, hfr⟩ := hs
  simp only at h2 hfr hv
  subst h2
  cases hfr with
  | @call x y _ fn' _ r' hxV hfn hr =>
   generalize hq : Vl.mk 0 0 (some (Expr.mk 4 n v ty [b])) ge = q at hfn
   generalize hty : Ty.mk 1 0 [t, y] = u at hfn
   cases hfn with
   | num => simp [tyF] at hty
   | int => simp [tyI] at hty
   | @fn j d' hd' => simp only [Vl.mk.injEq] at hq; omega
   | @clo n' v' ty' b' a' ge' env3 sc e1 e2 e3 e4 e5 =>
    simp only [Vl.mk.injEq, Option.some.injEq, Expr.mk.injEq, List.cons.injEq, and_true, true_and] at hq
    obtain ⟨⟨rfl, rfl, rfl, rfl⟩, rfl⟩ := hq
    cases hty
    rw [EF_4]
    have he : EnvR p l (1099511627776 + st) ge env3 sc := ⟨e1, e2, e3, fun u hu => e4 u (by simp [hu])⟩
    exact ⟨_, .one (.bclo (by omega)), ⟨_, ⟨_, (he.mono (by simp only; omega)).cons (hv.mono (by simp only; omega)) hxV, e5⟩, rfl, hr.mono (by simp only; omega)⟩, rfl, by simp [outs], by simp only; omega⟩
 | @badd st ev fr n v ty xs env fn env' w wf wl we us ui hf =>
  cases ho
  obtain ⟨t, hv, h2, hfr⟩ := hs
  simp only at h2 hfr hv h0
  subst h2
  cases hfr with
  | @ad _ _ _ f _ env3 _ fn' _ r' hb hr =>
   rw [EF_11]
   generalize hk : tyI = u at hv
   cases hv with
   | num => simp [tyF, tyI] at hk
   | fn => simp [tyI] at hk
   | clo => simp [tyI] at hk
   | int b0 b1 =>
    have hr' : FR p l (1099511627776 + (st + 1)) T fr r' tyI := hr.mono (by omega)
    have hw : IntKind.wrap .i64 (w + n) = w + n := wrap64 (by omega) (by omega)
    obtain ⟨k, hkl, hk1, _, _⟩ := cls hg w
    have hao := after_ok hg hl hb hk1
    have hL : (EF l f :: caseEs l 11 n (l.length + 1) 0)[1 + k]? = some (addE l k n) := by
     rw [Nat.add_comm 1 k, List.getElem?_cons_succ, caseEs_get _ _ _ _ _ _ (by omega)]
     simp [caseE]
    have hlen : (EF l f :: caseEs l 11 n (l.length + 1) 0).length ≤ 1000 := by simp; omega
    rw [hk1]
    rcases afterC_cases l k n with ⟨a, ha⟩ | ⟨a, c, ha⟩
    ·have hout : outs l ch is ⟨st, ev, ⟨4, some (.mk 11 n v ty [f]), env, fn⟩ :: fr, none, env', .mk w 0 none [], us, ui⟩ = [] := by simp [outs, hk1, ha]
     have hA : addE l k n = constE a ((l.length : Int) + 1) := by unfold addE; rw [ha]
     rw [hA] at hL
     have hval : VR p l (1099511627776 + (st + 1)) tyI (.mk (w + n) 0 none []) (.mk (clC (w + n) l 0) 0 none []) := .int (by omega) (by omega)
     rw [hao.1 a ha] at hval
     rw [hw]
     exact ⟨_, .more (.bcase (by omega) hlen hL) (.one .const), ⟨_, hval, rfl, hr'⟩, rfl, by rw [hout]; rfl, by simp only; omega⟩
    ·have hout : outs l ch is ⟨st, ev, ⟨4, some (.mk 11 n v ty [f]), env, fn⟩ :: fr, none, env', .mk w 0 none [], us, ui⟩ = [idxC a c (clC (w + n) l 0)] := by simp [outs, hk1, ha, hw]
     have hA : addE l k n = .mk 6 0 0 tyZ [pickE 2, constE a ((l.length : Int) + 1), constE c ((l.length : Int) + 1)] := by unfold addE; rw [ha]
     rw [hA] at hL
     have ho := hown 0 _ (by rw [hout]; rfl)
     have hval : VR p l (1099511627776 + (st + 1)) tyI (.mk (w + n) 0 none []) (.mk (clC (w + n) l 0) 0 none []) := .int (by omega) (by omega)
     obtain ⟨hne, hz⟩ := hao.2 a c ha
     rw [hw]
     generalize clC (w + n) l 0 = z at hz hval ho hout
     rcases hz with rfl | rfl
     ·have hi : idxC z c z = 0 := by simp [idxC]
      rw [hi] at ho hout
      have hL2 : ([pickE 2, constE z ((l.length : Int) + 1), constE c ((l.length : Int) + 1)] : List Expr)[1 + 0]? = some (constE z ((l.length : Int) + 1)) := rfl
      exact ⟨_, .more (.bcase (by omega) hlen hL) (.more (.cs (by simp)) (.more (.fine (by omega) ho (by omega) (by omega)) (.more (.bcase (w := 0) (by omega) (by simp) hL2) (.one .const)))), ⟨_, hval, rfl, hr'⟩, rfl, by rw [hout]; rfl, by simp only; omega⟩
     ·have hi : idxC a z z = 1 := by unfold idxC; rw [if_neg (fun e => hne e.symm), if_pos rfl]
      rw [hi] at ho hout
      have hL2 : ([pickE 2, constE a ((l.length : Int) + 1), constE z ((l.length : Int) + 1)] : List Expr)[1 + 1]? = some (constE z ((l.length : Int) + 1)) := rfl
      exact ⟨_, .more (.bcase (by omega) hlen hL) (.more (.cs (by simp)) (.more (.fine (by omega) ho (by omega) (by omega)) (.more (.bcase (w := 1) (by omega) (by simp) hL2) (.one .const)))), ⟨_, hval, rfl, hr'⟩, rfl, by rw [hout]; rfl, by simp only; omega⟩
 | @bless st ev fr n v ty xs env fn env' w wf wl we us ui hf =>
  cases ho
  obtain ⟨t, hv, h2, hfr⟩ := hs
  simp only at h2 hfr hv h0
  subst h2
  cases hfr with
  | @ls _ _ _ f _ env3 _ fn' _ r' hr =>
   rw [EF_12]
   generalize hk : tyI = u at hv
   cases hv with
   | num => simp [tyF, tyI] at hk
   | fn => simp [tyI] at hk
   | clo => simp [tyI] at hk
   | int b0 b1 =>
    have hr' : FR p l (1099511627776 + (st + 1)) T fr r' (tyF 2) := hr.mono (by omega)
    obtain ⟨k, hkl, hk1, _, _⟩ := cls hg w
    have hL : (EF l f :: caseEs l 12 n (l.length + 1) 0)[1 + k]? = some (cmpE (lessC l k n)) := by
     rw [Nat.add_comm 1 k, List.getElem?_cons_succ, caseEs_get _ _ _ _ _ _ (by omega)]
     simp [caseE]
    have hlen : (EF l f :: caseEs l 12 n (l.length + 1) 0).length ≤ 1000 := by simp; omega
    have hval : VR p l (1099511627776 + (st + 1)) (tyF 2) (.mk (if w < n then 1 else 0) 0 none []) (.mk (if w < n then 1 else 0) 0 none []) := .num
    rw [hk1]
    by_cases hc : lessC l k n < 0
    ·have hout : outs l ch is ⟨st, ev, ⟨5, some (.mk 12 n v ty [f]), env, fn⟩ :: fr, none, env', .mk w 0 none [], us, ui⟩ = [if w < n then 1 else 0] := by simp [outs, hk1, hc]
     have ho := hown 0 _ (by rw [hout]; rfl)
     have hA : cmpE (lessC l k n) = .mk 8 0 2 tyZ [] := by unfold cmpE; rw [if_pos hc]
     rw [hA] at hL
     exact ⟨_, .more (.bcase (by omega) hlen hL) (.one (.fine (by omega) ho (by split <;> omega) (by split <;> omega))), ⟨_, hval, rfl, hr'⟩, rfl, by rw [hout]; rfl, by simp only; omega⟩
    ·have hout : outs l ch is ⟨st, ev, ⟨5, some (.mk 12 n v ty [f]), env, fn⟩ :: fr, none, env', .mk w 0 none [], us, ui⟩ = [] := by simp [outs, hk1, hc]
     have hA : cmpE (lessC l k n) = .mk 0 (if w < n then 1 else 0) 2 tyZ [] := by
      unfold cmpE; rw [if_neg hc, less_ok hg hk1 hc]
     rw [hA] at hL
     exact ⟨_, .more (.bcase (by omega) hlen hL) (.one .const), ⟨_, hval, rfl, hr'⟩, rfl, by rw [hout]; rfl, by simp only; omega⟩
 | _ => cases ho
end Go.Ae.N
namespace Go.Ae.N
theorem Mv.cnt {p : Prog} {fuel : Int} {ch is : List Int} {s s1 : MS} (h : Mv p fuel ch is s (.go s1)) : s1.steps = s.steps ∨ (s1.steps = s.steps + 1 ∧ s.steps < fuel) := by
 generalize ho : Out.go s1 = o at h
 cases h <;> first | (cases ho; done) | (cases ho; exact .inl rfl) | (cases ho; rename_i hf _ _; exact .inr ⟨rfl, by assumption⟩) | (cases ho; exact .inr ⟨rfl, by assumption⟩)
theorem sim_run {p : Prog} (hp : PT p) {l : List Int} (hg : goodC none l = true) (hl : l.length ≤ 3) {k : Int} {fuel : Int} {ch is : List Int} {s s' : MS} {o o' : List Int} {en v w : Int} {b : Bool} (h : FRun p fuel ch is l s o s' o' en v w b)
  (hb : b = false) (hfu : fuel ≤ 10000000) {F : Int} (hF : 3 * fuel + 3 ≤ F) : ∀ {s2 : Go.Ae.MS}, Sim p l (tyF k) s s2 → 0 ≤ s.steps → s.steps ≤ fuel → s2.ev = s.ev → s2.used = o.length → s2.steps ≤ 3 * s.steps →
  ∀ {s3 : Go.Ae.MS} {en2 v2 w2 : Int} {b2 : Bool}, Go.Ae.MRun (foldP l p) F o' s2 s3 en2 v2 w2 b2 →
  b2 = false ∧ s3.used = o'.length ∧ s'.ev <+: s3.ev ∧ (en = 0 → en2 = 0 ∧ v2 = v ∧ s3.ev = s'.ev) := by
 induction h with
 | @stop s s' o en v w b h =>
  intro s2 hs h0 h1 hev hus hst s3 en2 v2 w2 b2 hr
  have hss : s' = s := by cases h <;> rfl
  subst hss
  obtain ⟨n1, n2⟩ := Go.Ae.run_nopick hr (by omega)
  have hgr := hr.grow.1
  rw [hev] at hgr
  refine ⟨n1, by omega, hgr, fun he => ?_⟩
  subst he
  subst hb
  generalize ho : Out.stop s' 0 v w false = ou at h
  cases h with
  | @done st ev env val us ui =>
   cases ho
   obtain ⟨t, hv, h2, hfr⟩ := hs
   obtain ⟨st2, ev2, fr2, expr2, env2, val2, us2⟩ := s2
   simp only at hv h2 hfr hev
   subst h2
   generalize hT : tyF k = T at hfr
   cases hfr
   subst hT
   generalize hT : tyF k = T at hv
   cases hv with
   | num =>
    obtain ⟨r1, r2, r3, _, _⟩ := hr.det (.stop .done)
    subst r1
    exact ⟨r2, r3, hev⟩
   | int => simp [tyF, tyI] at hT
   | fn => simp [tyF] at hT
   | clo => simp [tyF] at hT
  | _ => cases ho
 | @more s s1 s' o o' en v w b h r ih =>
  intro s2 hs h0 h1 hev hus hst s3 en2 v2 w2 b2 hr
  have hpre := r.pre
  obtain ⟨s21, m1, m2, m3, m4, m5⟩ := hs.step (F := F) (own := o') hp hg hl h h0 hfu (by omega) hev (fun j c hj => by
   obtain ⟨t, rfl⟩ := hpre
   rw [hus, List.append_assoc, List.getElem?_append_right (by omega), Nat.add_sub_cancel_left, List.getElem?_append_left (List.getElem?_eq_some_iff.1 hj).1]
   exact hj)
  have hc := h.cnt
  exact ih hb m2 (by omega) (by omega) m3 (by rw [m4, hus]; simp) (by omega) (m1.run hr)
def start2 (q : Prog) : Go.Ae.MS := ⟨0, [], [], some q.main, [], vZ, 0⟩
theorem sim_start {p : Prog} {l : List Int} {k : Int} (hm : tImp p p.main [] = (tyF k, true)) : Sim p l (tyF k) (start p) (start2 (foldP l p)) :=
 ⟨_, ⟨[], .nil, hm⟩, rfl, .nil⟩
end Go.Ae.N
namespace Go.Ae.N.L
open Go.Proofs
abbrev fol (cc ci : List Int) (cu used width : Int) (cuts : List Int) (l g : Nat) : AObj := .cells [.sl 1 (ints cc) false, .sl 1 (ints ci) false, I used, I cu, I width, .sl 1 (ints cuts) false, .la l g] []
def Mc (fuel : Int) (p : Prog) (steps : Int) (g1 g3 : Nat) (en value : Int) (wrong : Bool) (e : Option Expr) (env : List Vl) (v : Vl) : AObj :=
 .cells ([I fuel, B false, I steps, .la 1 g1, I en, I value, B wrong] ++ (p.enc ++ ([.ifc 58 (.lp 2 0), .la 4 g3, .ip (lamC e) 0, .ip (envC env) 0] ++ v.enc))) [9, 10, 11, 12, 13, 14, 15]
section
variable (fuel steps : Int) (es : List ByteArray) (ds : List Def) (mk mn mv mtk mtv : Int) (mtl : List Ty) (ml : List Expr) (E R : List (List AV)) (cc ci : List Int) (cu : Int) (cuts : List Int) (O : List (List AV)) (used width : Int)
 (e : Option Expr) (env : List Vl) (wn wf : Int) (wl : Option Expr) (we : List Vl) (en value : Int) (wrong : Bool)
theorem yield_ (vn vf : Int) (vl : Option Expr) (ve : List Vl) :
  SC 64 [.lp 0 0, .agg (Vl.mk vn vf vl ve).enc]
   [Mc fuel ⟨es, ds, .mk mk mn mv (.mk mtk mtv mtl) ml⟩ steps 1 1 en value wrong e env (.mk wn wf wl we), .arr 1 1 E, fol cc ci cu used width cuts 3 1, .arr 1 1 O, .arr 1 7 R]
   (B true) [Mc fuel ⟨es, ds, .mk mk mn mv (.mk mtk mtv mtl) ml⟩ steps 1 1 en value wrong none [] (.mk vn vf vl ve), .arr 1 1 E, fol cc ci cu used width cuts 3 1, .arr 1 1 O, .arr 1 7 R] := by
 exact gF Tryz.func64 [rG, rG, rG] ob0
theorem goes_ (e2 : Option Expr) (env2 : List Vl) :
  SC 69 [.lp 0 0, .ip (lamC e2) 0, .ip (envC env2) 0]
   [Mc fuel ⟨es, ds, .mk mk mn mv (.mk mtk mtv mtl) ml⟩ steps 1 1 en value wrong e env (.mk wn wf wl we), .arr 1 1 E, fol cc ci cu used width cuts 3 1, .arr 1 1 O, .arr 1 7 R]
   (B true) [Mc fuel ⟨es, ds, .mk mk mn mv (.mk mtk mtv mtl) ml⟩ steps 1 1 en value wrong e2 env2 (.mk wn wf wl we), .arr 1 1 E, fol cc ci cu used width cuts 3 1, .arr 1 1 O, .arr 1 7 R] := by
 exact gF Tryz.func69 [rG, rG, rG] ob0
theorem stop_ (en2 : Int) :
  SC 67 [.lp 0 0, I en2]
   [Mc fuel ⟨es, ds, .mk mk mn mv (.mk mtk mtv mtl) ml⟩ steps 1 1 en value wrong e env (.mk wn wf wl we), .arr 1 1 E, fol cc ci cu used width cuts 3 1, .arr 1 1 O, .arr 1 7 R]
   (B false) [Mc fuel ⟨es, ds, .mk mk mn mv (.mk mtk mtv mtl) ml⟩ steps 1 1 en2 value wrong e env (.mk wn wf wl we), .arr 1 1 E, fol cc ci cu used width cuts 3 1, .arr 1 1 O, .arr 1 7 R] := by
 exact gF Tryz.func67 [rG, rG, rG] ob0
theorem answered0 (n : Int) (hs : 0 ≤ steps ∧ steps ≤ 10000000) :
  SC 68 [.lp 0 0, I n, I 0]
   [Mc fuel ⟨es, ds, .mk mk mn mv (.mk mtk mtv mtl) ml⟩ steps 1 1 en value wrong e env (.mk wn wf wl we), .arr 1 1 E, fol cc ci cu used width cuts 3 1, .arr 1 1 O, .arr 1 7 R]
   (B true) [Mc fuel ⟨es, ds, .mk mk mn mv (.mk mtk mtv mtl) ml⟩ (steps + 1) 1 1 en value wrong none [] (.mk n 0 none []), .arr 1 1 E, fol cc ci cu used width cuts 3 1, .arr 1 1 O, .arr 1 7 R] := by
 have h := fun s => yield_ fuel s es ds mk mn mv mtk mtv mtl ml E R cc ci cu cuts O used width e env wn wf wl we en value wrong n 0 none []
 exact gF Tryz.func68 (rGs 4 [rS [(4, .int (steps + 1))], rS [(3, oC (h (steps + 1)))]]) (qw (steps + 1) (ob1 (h (steps + 1)) ob0))
theorem answered1 (n : Int) :
  SC 68 [.lp 0 0, I n, I 1]
   [Mc fuel ⟨es, ds, .mk mk mn mv (.mk mtk mtv mtl) ml⟩ steps 1 1 en value wrong e env (.mk wn wf wl we), .arr 1 1 E, fol cc ci cu used width cuts 3 1, .arr 1 1 O, .arr 1 7 R]
   (B false) [Mc fuel ⟨es, ds, .mk mk mn mv (.mk mtk mtv mtl) ml⟩ steps 1 1 2 value wrong e env (.mk wn wf wl we), .arr 1 1 E, fol cc ci cu used width cuts 3 1, .arr 1 1 O, .arr 1 7 R] := by
 have h := stop_ fuel steps es ds mk mn mv mtk mtv mtl ml E R cc ci cu cuts O used width e env wn wf wl we en value wrong 2
 exact gF Tryz.func68 [rG, rG, rG, rS [(1, oC h)]] (ob1 (h) ob0)
theorem answered2 (n : Int) :
  SC 68 [.lp 0 0, I n, I 2]
   [Mc fuel ⟨es, ds, .mk mk mn mv (.mk mtk mtv mtl) ml⟩ steps 1 1 en value wrong e env (.mk wn wf wl we), .arr 1 1 E, fol cc ci cu used width cuts 3 1, .arr 1 1 O, .arr 1 7 R]
   (B false) [Mc fuel ⟨es, ds, .mk mk mn mv (.mk mtk mtv mtl) ml⟩ steps 1 1 en value true e env (.mk wn wf wl we), .arr 1 1 E, fol cc ci cu used width cuts 3 1, .arr 1 1 O, .arr 1 7 R] := by
 exact gF Tryz.func68 (rGs 6 []) ob0
theorem push_ (kd : Int) (xk xn xv xtk xtv : Int) (xtl : List Ty) (ak an av atk atv : Int) (atl : List Ty) (al : List Expr) (xl : List Expr) (hR : R.length ≤ 4294967296) (hl : xl.length ≤ 4294967296) :
  SC 66 [.lp 0 0, I kd, .ip (Expr.mk xk xn xv (.mk xtk xtv xtl) (.mk ak an av (.mk atk atv atl) al :: xl)).enc 0]
   [Mc fuel ⟨es, ds, .mk mk mn mv (.mk mtk mtv mtl) ml⟩ steps 1 1 en value wrong e env (.mk wn wf wl we), .arr 1 1 E, fol cc ci cu used width cuts 3 1, .arr 1 1 O, .arr 1 7 R]
   (B true) [Mc fuel ⟨es, ds, .mk mk mn mv (.mk mtk mtv mtl) ml⟩ steps 1 2 en value wrong (some (.mk ak an av (.mk atk atv atl) al)) env (.mk wn wf wl we), .arr 1 1 E, fol cc ci cu used width cuts 3 1, .arr 1 1 O,
    .arr 2 7 (R ++ [(Fr.mk kd (some (.mk xk xn xv (.mk xtk xtv xtl) (.mk ak an av (.mk atk atv atl) al :: xl))) env vZ).enc])] := by
 have hF : Fits (R.length + 1) R.length 56 := by apply Fits.of; omega
 have h := fun R => goes_ fuel steps es ds mk mn mv mtk mtv mtl ml E R cc ci cu cuts O used width e env wn wf wl we en value wrong (some (.mk ak an av (.mk atk atv atl) al)) env
 exact gF Tryz.func66 [rG, rG, rS [(5, .row 0 (xE ak an av atk atv atl al)), (10, oC (h (R ++ [[I kd, AV.ip [I xk, I xn, I xv, I xtk, I xtv, AV.sl 3 (Ty.encs xtl) false, AV.sl 7 ([I ak, I an, I av, I atk, I atv, AV.sl 3 (Ty.encs atl) false, AV.sl 7 (Expr.encs al) false] :: Expr.encs xl) false] 0, AV.ip (envC env) 0, I 0, I 0, AV.ip [] 0, AV.ip [] 0]])))]] (q (Fits (List.length R + 1) (List.length R) 56) (qI 0 (qC0 ((xE ak an av atk atv atl al)) (Expr.encs xl) (ob1 (h (R ++ [[I kd, .ip [I xk, I xn, I xv, I xtk, I xtv, .sl 3 (Ty.encs xtl) false, .sl 7 ((xE ak an av atk atv atl al) :: Expr.encs xl) false] 0, .ip (envC env) 0, I 0, I 0, .ip [] 0, .ip [] 0]])) ob0))))
end
end Go.Ae.N.L

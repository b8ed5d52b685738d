/- source.Lang.compound of an EApp. .. (AeEF15, AeEF16, AeEF17, AeEF18, AeEF19, AeEF20) -/
import Derived.Test.YtmnnmjbjcdjglaaT6
set_option linter.unusedSimpArgs false
set_option linter.unusedVariables false
/- source.Lang.compound of an EApp. -/
namespace Go.Ae
open Go.Proofs

def CompOk (p : Prog) (e : Expr) (sc : List Ty) : Prop :=
  SoundCall Try.prog 87 [.agg [B false], .agg p.enc, .sl 3 (Ty.encs sc) false, .agg e.enc] [] (.tup [.agg (tImp p e sc).1.enc, B (tImp p e sc).2]) []

theorem comp_app (es : List ByteArray) (ds : List Def) (mk mn mv mtk mtv : Int) (mtl : List Ty) (ml : List Expr) (sc : List Ty) (n v tk tv : Int) (tl : List Ty)
    (ak an av atk atv : Int) (atl : List Ty) (al : List Expr) (bk bn bv btk btv : Int) (btl : List Ty) (bl : List Expr)
    (ha : TypeOk ⟨es, ds, .mk mk mn mv (.mk mtk mtv mtl) ml⟩ (.mk ak an av (.mk atk atv atl) al) sc)
    (hb : TypeOk ⟨es, ds, .mk mk mn mv (.mk mtk mtv mtl) ml⟩ (.mk bk bn bv (.mk btk btv btl) bl) sc)
    (hg : (tImp ⟨es, ds, .mk mk mn mv (.mk mtk mtv mtl) ml⟩ (.mk ak an av (.mk atk atv atl) al) sc).2 = true → ∃ k v l, (tImp ⟨es, ds, .mk mk mn mv (.mk mtk mtv mtl) ml⟩ (.mk ak an av (.mk atk atv atl) al) sc).1 = .mk k v l ∧ (k = 1 → (∃ t u, l = [t, u] ∧ t.ok))) :
    CompOk ⟨es, ds, .mk mk mn mv (.mk mtk mtv mtl) ml⟩ (.mk 3 n v (.mk tk tv tl) [.mk ak an av (.mk atk atv atl) al, .mk bk bn bv (.mk btk btv btl) bl]) sc := by
  unfold TypeOk at ha hb
  unfold CompOk
  have ho := only_ 3 n v tk tv tl [.mk ak an av (.mk atk atv atl) al, .mk bk bn bv (.mk btk btv btl) bl] false false false 2
  rw [tImp.eq_def ⟨es, ds, .mk mk mn mv (.mk mtk mtv mtl) ml⟩ (.mk 3 n v (.mk tk tv tl) [.mk ak an av (.mk atk atv atl) al, .mk bk bn bv (.mk btk btv btl) bl])]
  dsimp only
  simp only [show ¬ (3 : Int) = 0 by omega, show ¬ (3 : Int) = 8 by omega, show ¬ (3 : Int) = 1 by omega, show ¬ (3 : Int) = 2 by omega, show ¬ (3 : Int) = 7 by omega, if_false, if_true]
  generalize onlyC (.mk 3 n v (.mk tk tv tl) [.mk ak an av (.mk atk atv atl) al, .mk bk bn bv (.mk btk btv btl) bl]) false false false 2 = E at ho ⊢
  generalize tImp ⟨es, ds, .mk mk mn mv (.mk mtk mtv mtl) ml⟩ (.mk ak an av (.mk atk atv atl) al) sc = T at ha hg ⊢
  generalize tImp ⟨es, ds, .mk mk mn mv (.mk mtk mtv mtl) ml⟩ (.mk bk bn bv (.mk btk btv btl) bl) sc = U at hb ⊢
  obtain ⟨⟨rk, rv, rl⟩, rb⟩ := T
  obtain ⟨⟨uk, uv, ul⟩, ub⟩ := U
  cases E with
  | false =>
    clear ha hb hg
    simp only [Bool.false_eq_true, if_false]
    exact Fn.go KT Try.func87 [.reg [] [], .reg [] [], .reg [] [], .reg [] [], .reg [] [(1, .call (B false) [])], .reg [] []] [.tidO 3 [none, none, some 3]] [] (AV.tup [AV.agg [I 0, I 0, AV.sl 3 [] false], B false]) ([]) (by kernel_rfl) (ob1 (ho) ob0)
  | true =>
    simp only [if_true]
    cases rb with
    | false =>
      clear hg
      simp only [Bool.false_and, Bool.false_eq_true, if_false]
      rcases Bool.eq_false_or_eq_true (Prod.snd (Ty.mk uk uv ul, ub)) with hb1 | hb1
      · have hb1' := hb1
        try simp only [decide_eq_true_eq, decide_eq_false_iff_not, beq_iff_eq, bne_iff_ne, ne_eq, beq_eq_false_iff_ne, bne_eq_false_iff_eq, Bool.not_eq_true'] at hb1'
        exact Fn.go KT Try.func87 [.reg [] [], .reg [] [], .reg [] [], .reg [] [], .reg [] [(1, .call (B true) [])], .reg [] [(5, .row 0 [I ak, I an, I av, I atk, I atv, AV.sl 3 (Ty.encs atl) false, AV.sl 7 (Expr.encs al) false]), (7, .call (AV.tup [AV.agg [I rk, I rv, AV.sl 3 (Ty.encs rl) false], B false]) [])], .reg [] [(5, .row 1 [I bk, I bn, I bv, I btk, I btv, AV.sl 3 (Ty.encs btl) false, AV.sl 7 (Expr.encs bl) false]), (7, .call (AV.tup [AV.agg [I uk, I uv, AV.sl 3 (Ty.encs ul) false], B true]) [])], .reg [] [], .reg [] []] [.tidO 3 [none, none, some 3]] [] (AV.tup [AV.agg [I 0, I 0, AV.sl 3 [] false], B false]) ([]) (by kernel_rfl) (ob1 (ho) (q (0 = (↑0 : Int)) (q ([[I ak, I an, I av, I atk, I atv, AV.sl 3 (Ty.encs atl) false, AV.sl 7 (Expr.encs al) false], [I bk, I bn, I bv, I btk, I btv, AV.sl 3 (Ty.encs btl) false, AV.sl 7 (Expr.encs bl) false]][0]? = some [I ak, I an, I av, I atk, I atv, AV.sl 3 (Ty.encs atl) false, AV.sl 7 (Expr.encs al) false]) (ob1 (ha) (q (1 = (↑1 : Int)) (q ([[I ak, I an, I av, I atk, I atv, AV.sl 3 (Ty.encs atl) false, AV.sl 7 (Expr.encs al) false], [I bk, I bn, I bv, I btk, I btv, AV.sl 3 (Ty.encs btl) false, AV.sl 7 (Expr.encs bl) false]][1]? = some [I bk, I bn, I bv, I btk, I btv, AV.sl 3 (Ty.encs btl) false, AV.sl 7 (Expr.encs bl) false]) (ob1 (SoundCall.to (hb) (pf (AV.tup [AV.agg [I uk, I uv, AV.sl 3 (Ty.encs ul) false], B (Prod.snd (Ty.mk uk uv ul, ub))] = AV.tup [AV.agg [I uk, I uv, AV.sl 3 (Ty.encs ul) false], B true])) rfl) ob0)))))))
      · have hb1' := hb1
        try simp only [decide_eq_true_eq, decide_eq_false_iff_not, beq_iff_eq, bne_iff_ne, ne_eq, beq_eq_false_iff_ne, bne_eq_false_iff_eq, Bool.not_eq_true'] at hb1'
        exact Fn.go KT Try.func87 [.reg [] [], .reg [] [], .reg [] [], .reg [] [], .reg [] [(1, .call (B true) [])], .reg [] [(5, .row 0 [I ak, I an, I av, I atk, I atv, AV.sl 3 (Ty.encs atl) false, AV.sl 7 (Expr.encs al) false]), (7, .call (AV.tup [AV.agg [I rk, I rv, AV.sl 3 (Ty.encs rl) false], B false]) [])], .reg [] [(5, .row 1 [I bk, I bn, I bv, I btk, I btv, AV.sl 3 (Ty.encs btl) false, AV.sl 7 (Expr.encs bl) false]), (7, .call (AV.tup [AV.agg [I uk, I uv, AV.sl 3 (Ty.encs ul) false], B false]) [])], .reg [] [], .reg [] []] [.tidO 3 [none, none, some 3]] [] (AV.tup [AV.agg [I 0, I 0, AV.sl 3 [] false], B false]) ([]) (by kernel_rfl) (ob1 (ho) (q (0 = (↑0 : Int)) (q ([[I ak, I an, I av, I atk, I atv, AV.sl 3 (Ty.encs atl) false, AV.sl 7 (Expr.encs al) false], [I bk, I bn, I bv, I btk, I btv, AV.sl 3 (Ty.encs btl) false, AV.sl 7 (Expr.encs bl) false]][0]? = some [I ak, I an, I av, I atk, I atv, AV.sl 3 (Ty.encs atl) false, AV.sl 7 (Expr.encs al) false]) (ob1 (ha) (q (1 = (↑1 : Int)) (q ([[I ak, I an, I av, I atk, I atv, AV.sl 3 (Ty.encs atl) false, AV.sl 7 (Expr.encs al) false], [I bk, I bn, I bv, I btk, I btv, AV.sl 3 (Ty.encs btl) false, AV.sl 7 (Expr.encs bl) false]][1]? = some [I bk, I bn, I bv, I btk, I btv, AV.sl 3 (Ty.encs btl) false, AV.sl 7 (Expr.encs bl) false]) (ob1 (SoundCall.to (hb) (pf (AV.tup [AV.agg [I uk, I uv, AV.sl 3 (Ty.encs ul) false], B (Prod.snd (Ty.mk uk uv ul, ub))] = AV.tup [AV.agg [I uk, I uv, AV.sl 3 (Ty.encs ul) false], B false])) rfl) ob0)))))))
    | true =>
      cases ub with
      | false =>
        clear hg
        simp only [Bool.and_false, Bool.false_eq_true, if_false]
        exact Fn.go KT Try.func87 [.reg [] [], .reg [] [], .reg [] [], .reg [] [], .reg [] [(1, .call (B true) [])], .reg [] [(5, .row 0 [I ak, I an, I av, I atk, I atv, AV.sl 3 (Ty.encs atl) false, AV.sl 7 (Expr.encs al) false]), (7, .call (AV.tup [AV.agg [I rk, I rv, AV.sl 3 (Ty.encs rl) false], B true]) [])], .reg [] [(5, .row 1 [I bk, I bn, I bv, I btk, I btv, AV.sl 3 (Ty.encs btl) false, AV.sl 7 (Expr.encs bl) false]), (7, .call (AV.tup [AV.agg [I uk, I uv, AV.sl 3 (Ty.encs ul) false], B false]) [])], .reg [] [], .reg [] []] [.tidO 3 [none, none, some 3]] [] (AV.tup [AV.agg [I 0, I 0, AV.sl 3 [] false], B false]) ([]) (by kernel_rfl) (ob1 (ho) (q (0 = (↑0 : Int)) (q ([[I ak, I an, I av, I atk, I atv, AV.sl 3 (Ty.encs atl) false, AV.sl 7 (Expr.encs al) false], [I bk, I bn, I bv, I btk, I btv, AV.sl 3 (Ty.encs btl) false, AV.sl 7 (Expr.encs bl) false]][0]? = some [I ak, I an, I av, I atk, I atv, AV.sl 3 (Ty.encs atl) false, AV.sl 7 (Expr.encs al) false]) (ob1 (ha) (q (1 = (↑1 : Int)) (q ([[I ak, I an, I av, I atk, I atv, AV.sl 3 (Ty.encs atl) false, AV.sl 7 (Expr.encs al) false], [I bk, I bn, I bv, I btk, I btv, AV.sl 3 (Ty.encs btl) false, AV.sl 7 (Expr.encs bl) false]][1]? = some [I bk, I bn, I bv, I btk, I btv, AV.sl 3 (Ty.encs btl) false, AV.sl 7 (Expr.encs bl) false]) (ob1 (hb) ob0)))))))
      | true =>
        obtain ⟨k, v', l, he, hg⟩ := hg rfl
        simp only [Ty.mk.injEq] at he
        obtain ⟨rfl, rfl, rfl⟩ := he
        simp only [Bool.and_true, if_true]
        by_cases hk : rk = 1
        · obtain ⟨⟨t1, t2, t3⟩, ⟨u1, u2, u3⟩, rfl, hok⟩ := hg hk
          subst hk
          have hq := eqTy_0 (.mk t1 t2 t3) (.mk uk uv ul) hok
          rw [appC_two]
          by_cases hx : Ty.mk t1 t2 t3 = Ty.mk uk uv ul
          · rw [decide_eq_true hx] at hq
            rw [if_pos hx]
            clear hg hok
            exact Fn.go KT Try.func87 [.reg [] [], .reg [] [], .reg [] [], .reg [] [], .reg [] [(1, .call (B true) [])], .reg [] [(5, .row 0 [I ak, I an, I av, I atk, I atv, AV.sl 3 (Ty.encs atl) false, AV.sl 7 (Expr.encs al) false]), (7, .call (AV.tup [AV.agg [I 1, I rv, AV.sl 3 [[I t1, I t2, AV.sl 3 (Ty.encs t3) false], [I u1, I u2, AV.sl 3 (Ty.encs u3) false]] false], B true]) [])], .reg [] [(5, .row 1 [I bk, I bn, I bv, I btk, I btv, AV.sl 3 (Ty.encs btl) false, AV.sl 7 (Expr.encs bl) false]), (7, .call (AV.tup [AV.agg [I uk, I uv, AV.sl 3 (Ty.encs ul) false], B true]) [])], .reg [] [(14, .row 0 [I t1, I t2, AV.sl 3 (Ty.encs t3) false]), (17, .call (B true) [])], .reg [] [(2, .row 1 [I u1, I u2, AV.sl 3 (Ty.encs u3) false])]] [.tidO 3 [none, none, some 3]] [] (AV.tup [AV.agg [I u1, I u2, AV.sl 3 (Ty.encs u3) false], B true]) ([]) (by kernel_rfl) (ob1 (ho) (q (0 = (↑0 : Int)) (q ([[I ak, I an, I av, I atk, I atv, AV.sl 3 (Ty.encs atl) false, AV.sl 7 (Expr.encs al) false], [I bk, I bn, I bv, I btk, I btv, AV.sl 3 (Ty.encs btl) false, AV.sl 7 (Expr.encs bl) false]][0]? = some [I ak, I an, I av, I atk, I atv, AV.sl 3 (Ty.encs atl) false, AV.sl 7 (Expr.encs al) false]) (ob1 (ha) (q (1 = (↑1 : Int)) (q ([[I ak, I an, I av, I atk, I atv, AV.sl 3 (Ty.encs atl) false, AV.sl 7 (Expr.encs al) false], [I bk, I bn, I bv, I btk, I btv, AV.sl 3 (Ty.encs btl) false, AV.sl 7 (Expr.encs bl) false]][1]? = some [I bk, I bn, I bv, I btk, I btv, AV.sl 3 (Ty.encs btl) false, AV.sl 7 (Expr.encs bl) false]) (ob1 (hb) (q (0 = (↑0 : Int)) (q ([[I t1, I t2, AV.sl 3 (Ty.encs t3) false], [I u1, I u2, AV.sl 3 (Ty.encs u3) false]][0]? = some [I t1, I t2, AV.sl 3 (Ty.encs t3) false]) (ob1 (hq) (q (1 = (↑1 : Int)) (q ([[I t1, I t2, AV.sl 3 (Ty.encs t3) false], [I u1, I u2, AV.sl 3 (Ty.encs u3) false]][1]? = some [I u1, I u2, AV.sl 3 (Ty.encs u3) false]) ob0))))))))))))
          · rw [decide_eq_false hx] at hq
            rw [if_neg hx]
            clear hg hok
            exact Fn.go KT Try.func87 [.reg [] [], .reg [] [], .reg [] [], .reg [] [], .reg [] [(1, .call (B true) [])], .reg [] [(5, .row 0 [I ak, I an, I av, I atk, I atv, AV.sl 3 (Ty.encs atl) false, AV.sl 7 (Expr.encs al) false]), (7, .call (AV.tup [AV.agg [I 1, I rv, AV.sl 3 [[I t1, I t2, AV.sl 3 (Ty.encs t3) false], [I u1, I u2, AV.sl 3 (Ty.encs u3) false]] false], B true]) [])], .reg [] [(5, .row 1 [I bk, I bn, I bv, I btk, I btv, AV.sl 3 (Ty.encs btl) false, AV.sl 7 (Expr.encs bl) false]), (7, .call (AV.tup [AV.agg [I uk, I uv, AV.sl 3 (Ty.encs ul) false], B true]) [])], .reg [] [(14, .row 0 [I t1, I t2, AV.sl 3 (Ty.encs t3) false]), (17, .call (B false) [])], .reg [] []] [.tidO 3 [none, none, some 3]] [] (AV.tup [AV.agg [I 0, I 0, AV.sl 3 [] false], B false]) ([]) (by kernel_rfl) (ob1 (ho) (q (0 = (↑0 : Int)) (q ([[I ak, I an, I av, I atk, I atv, AV.sl 3 (Ty.encs atl) false, AV.sl 7 (Expr.encs al) false], [I bk, I bn, I bv, I btk, I btv, AV.sl 3 (Ty.encs btl) false, AV.sl 7 (Expr.encs bl) false]][0]? = some [I ak, I an, I av, I atk, I atv, AV.sl 3 (Ty.encs atl) false, AV.sl 7 (Expr.encs al) false]) (ob1 (ha) (q (1 = (↑1 : Int)) (q ([[I ak, I an, I av, I atk, I atv, AV.sl 3 (Ty.encs atl) false, AV.sl 7 (Expr.encs al) false], [I bk, I bn, I bv, I btk, I btv, AV.sl 3 (Ty.encs btl) false, AV.sl 7 (Expr.encs bl) false]][1]? = some [I bk, I bn, I bv, I btk, I btv, AV.sl 3 (Ty.encs btl) false, AV.sl 7 (Expr.encs bl) false]) (ob1 (hb) (q (0 = (↑0 : Int)) (q ([[I t1, I t2, AV.sl 3 (Ty.encs t3) false], [I u1, I u2, AV.sl 3 (Ty.encs u3) false]][0]? = some [I t1, I t2, AV.sl 3 (Ty.encs t3) false]) (ob1 (hq) ob0))))))))))
        · clear hg
          rw [appC_ne hk]
          exact Fn.go KT Try.func87 [.reg [] [], .reg [] [], .reg [] [], .reg [] [], .reg [] [(1, .call (B true) [])], .reg [] [(5, .row 0 [I ak, I an, I av, I atk, I atv, AV.sl 3 (Ty.encs atl) false, AV.sl 7 (Expr.encs al) false]), (7, .call (AV.tup [AV.agg [I rk, I rv, AV.sl 3 (Ty.encs rl) false], B true]) [])], .reg [] [(5, .row 1 [I bk, I bn, I bv, I btk, I btv, AV.sl 3 (Ty.encs btl) false, AV.sl 7 (Expr.encs bl) false]), (7, .call (AV.tup [AV.agg [I uk, I uv, AV.sl 3 (Ty.encs ul) false], B true]) [])], .reg [] [(9, .bit true)], .reg [] []] [.tidO 3 [none, none, some 3]] [] (AV.tup [AV.agg [I 0, I 0, AV.sl 3 [] false], B false]) ([]) (by kernel_rfl) (ob1 (ho) (q (0 = (↑0 : Int)) (q ([[I ak, I an, I av, I atk, I atv, AV.sl 3 (Ty.encs atl) false, AV.sl 7 (Expr.encs al) false], [I bk, I bn, I bv, I btk, I btv, AV.sl 3 (Ty.encs btl) false, AV.sl 7 (Expr.encs bl) false]][0]? = some [I ak, I an, I av, I atk, I atv, AV.sl 3 (Ty.encs atl) false, AV.sl 7 (Expr.encs al) false]) (ob1 (ha) (q (1 = (↑1 : Int)) (q ([[I ak, I an, I av, I atk, I atv, AV.sl 3 (Ty.encs atl) false, AV.sl 7 (Expr.encs al) false], [I bk, I bn, I bv, I btk, I btv, AV.sl 3 (Ty.encs btl) false, AV.sl 7 (Expr.encs bl) false]][1]? = some [I bk, I bn, I bv, I btk, I btv, AV.sl 3 (Ty.encs btl) false, AV.sl 7 (Expr.encs bl) false]) (ob1 (hb) (q ((rk != 1) = true) ob0))))))))

end Go.Ae

/- source.Lang.compound of an ELet, of an ELam. -/
namespace Go.Ae
open Go.Proofs

theorem comp_let (es : List ByteArray) (ds : List Def) (mk mn mv mtk mtv : Int) (mtl : List Ty) (ml : List Expr) (sc : List Ty) (n v tk tv : Int) (tl : List Ty)
    (ak an av atk atv : Int) (atl : List Ty) (al : List Expr) (bk bn bv btk btv : Int) (btl : List Ty) (bl : List Expr) (hs : sc.length ≤ 1000)
    (ha : TypeOk ⟨es, ds, .mk mk mn mv (.mk mtk mtv mtl) ml⟩ (.mk ak an av (.mk atk atv atl) al) sc)
    (hb : ∀ t, (tImp ⟨es, ds, .mk mk mn mv (.mk mtk mtv mtl) ml⟩ (.mk ak an av (.mk atk atv atl) al) sc) = (t, true) → TypeOk ⟨es, ds, .mk mk mn mv (.mk mtk mtv mtl) ml⟩ (.mk bk bn bv (.mk btk btv btl) bl) (sc ++ [t])) :
    CompOk ⟨es, ds, .mk mk mn mv (.mk mtk mtv mtl) ml⟩ (.mk 5 n v (.mk tk tv tl) [.mk ak an av (.mk atk atv atl) al, .mk bk bn bv (.mk btk btv btl) bl]) sc := by
  unfold TypeOk at ha hb
  unfold CompOk
  have ho := only_ 5 n v tk tv tl [.mk ak an av (.mk atk atv atl) al, .mk bk bn bv (.mk btk btv btl) bl] false false false 2
  rw [tImp.eq_def ⟨es, ds, .mk mk mn mv (.mk mtk mtv mtl) ml⟩ (.mk 5 n v (.mk tk tv tl) [.mk ak an av (.mk atk atv atl) al, .mk bk bn bv (.mk btk btv btl) bl])]
  dsimp only
  simp only [show ¬ (5 : Int) = 0 by omega, show ¬ (5 : Int) = 8 by omega, show ¬ (5 : Int) = 1 by omega, show ¬ (5 : Int) = 2 by omega, show ¬ (5 : Int) = 7 by omega, show ¬ (5 : Int) = 3 by omega, show ¬ (5 : Int) = 4 by omega, if_false, if_true]
  generalize onlyC (.mk 5 n v (.mk tk tv tl) [.mk ak an av (.mk atk atv atl) al, .mk bk bn bv (.mk btk btv btl) bl]) false false false 2 = E at ho ⊢
  generalize tImp ⟨es, ds, .mk mk mn mv (.mk mtk mtv mtl) ml⟩ (.mk ak an av (.mk atk atv atl) al) sc = T at ha hb ⊢
  obtain ⟨⟨rk, rv, rl⟩, rb⟩ := T
  cases E with
  | false =>
    clear ha hb
    simp only [Bool.false_eq_true, if_false]
    exact Fn.go KT Try.func87 [.reg [] [], .reg [] [], .reg [] [], .reg [] [], .reg [] [], .reg [] [], .reg [] [(1, .call (B false) [])], .reg [] []] [.tidO 3 [none, none, some 3]] [] (AV.tup [AV.agg [I 0, I 0, AV.sl 3 [] false], B false]) ([]) (by kernel_rfl) (ob1 (ho) ob0)
  | true =>
    simp only [if_true]
    cases rb with
    | false =>
      clear hb
      simp only [Bool.false_eq_true, if_false]
      exact Fn.go KT Try.func87 [.reg [] [], .reg [] [], .reg [] [], .reg [] [], .reg [] [], .reg [] [], .reg [] [(1, .call (B true) [])], .reg [] [(5, .row 0 [I ak, I an, I av, I atk, I atv, AV.sl 3 (Ty.encs atl) false, AV.sl 7 (Expr.encs al) false]), (7, .call (AV.tup [AV.agg [I rk, I rv, AV.sl 3 (Ty.encs rl) false], B false]) [])], .reg [] [], .reg [] []] [.tidO 3 [none, none, some 3]] [] (AV.tup [AV.agg [I 0, I 0, AV.sl 3 [] false], B false]) ([]) (by kernel_rfl) (ob1 (ho) (q (0 = (↑0 : Int)) (q ([[I ak, I an, I av, I atk, I atv, AV.sl 3 (Ty.encs atl) false, AV.sl 7 (Expr.encs al) false], [I bk, I bn, I bv, I btk, I btv, AV.sl 3 (Ty.encs btl) false, AV.sl 7 (Expr.encs bl) false]][0]? = some [I ak, I an, I av, I atk, I atv, AV.sl 3 (Ty.encs atl) false, AV.sl 7 (Expr.encs al) false]) (ob1 (ha) ob0))))
    | true =>
      replace hb := hb _ rfl
      have hu := under_ (.mk rk rv rl) sc hs
      simp only [if_true]
      generalize tImp ⟨es, ds, .mk mk mn mv (.mk mtk mtv mtl) ml⟩ (.mk bk bn bv (.mk btk btv btl) bl) (sc ++ [.mk rk rv rl]) = U at hb ⊢
      obtain ⟨⟨uk, uv, ul⟩, ub⟩ := U
      cases ub with
      | true => 
        exact Fn.go KT Try.func87 [.reg [] [], .reg [] [], .reg [] [], .reg [] [], .reg [] [], .reg [] [], .reg [] [(1, .call (B true) [])], .reg [] [(5, .row 0 [I ak, I an, I av, I atk, I atv, AV.sl 3 (Ty.encs atl) false, AV.sl 7 (Expr.encs al) false]), (7, .call (AV.tup [AV.agg [I rk, I rv, AV.sl 3 (Ty.encs rl) false], B true]) [])], .reg [] [], .reg [] [(4, .call (AV.sl 3 (Ty.encs (sc ++ [Ty.mk rk rv rl])) false) []), (7, .row 1 [I bk, I bn, I bv, I btk, I btv, AV.sl 3 (Ty.encs btl) false, AV.sl 7 (Expr.encs bl) false]), (9, .call (AV.tup [AV.agg [I uk, I uv, AV.sl 3 (Ty.encs ul) false], B true]) [])]] [.tidO 3 [none, none, some 3]] [] (AV.tup [AV.agg [I uk, I uv, AV.sl 3 (Ty.encs ul) false], B true]) ([]) (by kernel_rfl) (ob1 (ho) (q (0 = (↑0 : Int)) (q ([[I ak, I an, I av, I atk, I atv, AV.sl 3 (Ty.encs atl) false, AV.sl 7 (Expr.encs al) false], [I bk, I bn, I bv, I btk, I btv, AV.sl 3 (Ty.encs btl) false, AV.sl 7 (Expr.encs bl) false]][0]? = some [I ak, I an, I av, I atk, I atv, AV.sl 3 (Ty.encs atl) false, AV.sl 7 (Expr.encs al) false]) (ob1 (ha) (ob1 (hu) (q (1 = (↑1 : Int)) (q ([[I ak, I an, I av, I atk, I atv, AV.sl 3 (Ty.encs atl) false, AV.sl 7 (Expr.encs al) false], [I bk, I bn, I bv, I btk, I btv, AV.sl 3 (Ty.encs btl) false, AV.sl 7 (Expr.encs bl) false]][1]? = some [I bk, I bn, I bv, I btk, I btv, AV.sl 3 (Ty.encs btl) false, AV.sl 7 (Expr.encs bl) false]) (ob1 (hb) ob0))))))))
      | false => 
        exact Fn.go KT Try.func87 [.reg [] [], .reg [] [], .reg [] [], .reg [] [], .reg [] [], .reg [] [], .reg [] [(1, .call (B true) [])], .reg [] [(5, .row 0 [I ak, I an, I av, I atk, I atv, AV.sl 3 (Ty.encs atl) false, AV.sl 7 (Expr.encs al) false]), (7, .call (AV.tup [AV.agg [I rk, I rv, AV.sl 3 (Ty.encs rl) false], B true]) [])], .reg [] [], .reg [] [(4, .call (AV.sl 3 (Ty.encs (sc ++ [Ty.mk rk rv rl])) false) []), (7, .row 1 [I bk, I bn, I bv, I btk, I btv, AV.sl 3 (Ty.encs btl) false, AV.sl 7 (Expr.encs bl) false]), (9, .call (AV.tup [AV.agg [I uk, I uv, AV.sl 3 (Ty.encs ul) false], B false]) [])]] [.tidO 3 [none, none, some 3]] [] (AV.tup [AV.agg [I uk, I uv, AV.sl 3 (Ty.encs ul) false], B false]) ([]) (by kernel_rfl) (ob1 (ho) (q (0 = (↑0 : Int)) (q ([[I ak, I an, I av, I atk, I atv, AV.sl 3 (Ty.encs atl) false, AV.sl 7 (Expr.encs al) false], [I bk, I bn, I bv, I btk, I btv, AV.sl 3 (Ty.encs btl) false, AV.sl 7 (Expr.encs bl) false]][0]? = some [I ak, I an, I av, I atk, I atv, AV.sl 3 (Ty.encs atl) false, AV.sl 7 (Expr.encs al) false]) (ob1 (ha) (ob1 (hu) (q (1 = (↑1 : Int)) (q ([[I ak, I an, I av, I atk, I atv, AV.sl 3 (Ty.encs atl) false, AV.sl 7 (Expr.encs al) false], [I bk, I bn, I bv, I btk, I btv, AV.sl 3 (Ty.encs btl) false, AV.sl 7 (Expr.encs bl) false]][1]? = some [I bk, I bn, I bv, I btk, I btv, AV.sl 3 (Ty.encs btl) false, AV.sl 7 (Expr.encs bl) false]) (ob1 (hb) ob0))))))))

end Go.Ae

/- source.Lang.compound of an ELam. -/
namespace Go.Ae
open Go.Proofs

theorem comp_lam (es : List ByteArray) (ds : List Def) (mk mn mv mtk mtv : Int) (mtl : List Ty) (ml : List Expr) (sc : List Ty) (n v tk tv : Int) (tl : List Ty)
    (ak an av atk atv : Int) (atl : List Ty) (al : List Expr) (hs : sc.length ≤ 1000) (htok : (Ty.mk tk tv tl).ok)
    (ha : TypeOk ⟨es, ds, .mk mk mn mv (.mk mtk mtv mtl) ml⟩ (.mk ak an av (.mk atk atv atl) al) (sc ++ [.mk tk tv tl]))
    (hok : (tImp ⟨es, ds, .mk mk mn mv (.mk mtk mtv mtl) ml⟩ (.mk ak an av (.mk atk atv atl) al) (sc ++ [.mk tk tv tl])).1.ok) :
    CompOk ⟨es, ds, .mk mk mn mv (.mk mtk mtv mtl) ml⟩ (.mk 4 n v (.mk tk tv tl) [.mk ak an av (.mk atk atv atl) al]) sc := by
  unfold TypeOk at ha
  unfold CompOk
  have ho := only_ 4 n v tk tv tl [.mk ak an av (.mk atk atv atl) al] false false true 1
  have hi := isTy_ (.mk tk tv tl) htok
  have hu := under_ (.mk tk tv tl) sc hs
  rw [tImp.eq_def ⟨es, ds, .mk mk mn mv (.mk mtk mtv mtl) ml⟩ (.mk 4 n v (.mk tk tv tl) [.mk ak an av (.mk atk atv atl) al])]
  dsimp only
  simp only [show ¬ (4 : Int) = 0 by omega, show ¬ (4 : Int) = 8 by omega, show ¬ (4 : Int) = 1 by omega, show ¬ (4 : Int) = 2 by omega, show ¬ (4 : Int) = 7 by omega, show ¬ (4 : Int) = 3 by omega, if_false, if_true]
  generalize onlyC (.mk 4 n v (.mk tk tv tl) [.mk ak an av (.mk atk atv atl) al]) false false true 1 = E at ho ⊢
  generalize (tyC (.mk tk tv tl) 20).1 = E1 at hi ⊢
  generalize tImp ⟨es, ds, .mk mk mn mv (.mk mtk mtv mtl) ml⟩ (.mk ak an av (.mk atk atv atl) al) (sc ++ [.mk tk tv tl]) = T at ha hok ⊢
  obtain ⟨⟨rk, rv, rl⟩, rb⟩ := T
  have hj := isTy_ (.mk 1 0 [.mk tk tv tl, .mk rk rv rl]) ⟨by unfold ir; omega, by unfold ir; omega, by simp, htok, hok, trivial⟩
  generalize (tyC (.mk 1 0 [.mk tk tv tl, .mk rk rv rl]) 20).1 = E2 at hj ⊢
  clear htok hok
  cases E with
  | false =>
    simp only [Bool.false_and, Bool.false_eq_true, if_false]
    exact Fn.go KT Try.func87 [.reg [] [], .reg [] [], .reg [] [], .reg [] [], .reg [] [], .reg [] [(1, .call (B false) [])], .reg [] []] [.tidO 3 [none, none, some 3]] [] (AV.tup [AV.agg [I 0, I 0, AV.sl 3 [] false], B false]) ([]) (by kernel_rfl) (ob1 (ho) ob0)
  | true =>
    cases E1 with
    | false =>
      simp only [Bool.and_false, Bool.false_eq_true, if_false]
      exact Fn.go KT Try.func87 [.reg [] [], .reg [] [], .reg [] [], .reg [] [], .reg [] [], .reg [] [(1, .call (B true) []), (7, .call (B false) [])], .reg [] []] [.tidO 3 [none, none, some 3]] [] (AV.tup [AV.agg [I 0, I 0, AV.sl 3 [] false], B false]) ([]) (by kernel_rfl) (ob1 (ho) (ob1 (hi) ob0))
    | true =>
      simp only [Bool.and_true, if_true]
      cases rb with
      | false =>
        simp only [Bool.false_and, Bool.false_eq_true, if_false]
        exact Fn.go KT Try.func87 [.reg [] [], .reg [] [], .reg [] [], .reg [] [], .reg [] [], .reg [] [(1, .call (B true) []), (7, .call (B true) [])], .reg [] [(5, .call (AV.sl 3 (Ty.encs (sc ++ [Ty.mk tk tv tl])) false) []), (8, .row 0 [I ak, I an, I av, I atk, I atv, AV.sl 3 (Ty.encs atl) false, AV.sl 7 (Expr.encs al) false]), (10, .call (AV.tup [AV.agg [I rk, I rv, AV.sl 3 (Ty.encs rl) false], B false]) [])], .reg [] [], .reg [] [], .reg [] []] [.tidO 3 [none, none, some 3]] [] (AV.tup [AV.agg [I 0, I 0, AV.sl 3 [] false], B false]) ([]) (by kernel_rfl) (ob1 (ho) (ob1 (hi) (ob1 (hu) (q (0 = (↑0 : Int)) (q ([[I ak, I an, I av, I atk, I atv, AV.sl 3 (Ty.encs atl) false, AV.sl 7 (Expr.encs al) false]][0]? = some [I ak, I an, I av, I atk, I atv, AV.sl 3 (Ty.encs atl) false, AV.sl 7 (Expr.encs al) false]) (ob1 (ha) ob0))))))
      | true =>
        cases E2 with
        | false =>
          simp only [Bool.and_false, Bool.false_eq_true, if_false]
          exact Fn.go KT Try.func87 [.reg [] [], .reg [] [], .reg [] [], .reg [] [], .reg [] [], .reg [] [(1, .call (B true) []), (7, .call (B true) [])], .reg [] [(5, .call (AV.sl 3 (Ty.encs (sc ++ [Ty.mk tk tv tl])) false) []), (8, .row 0 [I ak, I an, I av, I atk, I atv, AV.sl 3 (Ty.encs atl) false, AV.sl 7 (Expr.encs al) false]), (10, .call (AV.tup [AV.agg [I rk, I rv, AV.sl 3 (Ty.encs rl) false], B true]) [])], .reg [] [], .reg [] [(5, .call (B false) [])], .reg [] []] [.tidO 3 [none, none, some 3]] [] (AV.tup [AV.agg [I 0, I 0, AV.sl 3 [] false], B false]) ([]) (by kernel_rfl) (ob1 (ho) (ob1 (hi) (ob1 (hu) (q (0 = (↑0 : Int)) (q ([[I ak, I an, I av, I atk, I atv, AV.sl 3 (Ty.encs atl) false, AV.sl 7 (Expr.encs al) false]][0]? = some [I ak, I an, I av, I atk, I atv, AV.sl 3 (Ty.encs atl) false, AV.sl 7 (Expr.encs al) false]) (ob1 (ha) (ob1 (hj) ob0)))))))
        | true =>
          simp only [Bool.and_true, if_true]
          exact Fn.go KT Try.func87 [.reg [] [], .reg [] [], .reg [] [], .reg [] [], .reg [] [], .reg [] [(1, .call (B true) []), (7, .call (B true) [])], .reg [] [(5, .call (AV.sl 3 (Ty.encs (sc ++ [Ty.mk tk tv tl])) false) []), (8, .row 0 [I ak, I an, I av, I atk, I atv, AV.sl 3 (Ty.encs atl) false, AV.sl 7 (Expr.encs al) false]), (10, .call (AV.tup [AV.agg [I rk, I rv, AV.sl 3 (Ty.encs rl) false], B true]) [])], .reg [] [], .reg [] [(5, .call (B true) [])], .reg [] []] [.tidO 3 [none, none, some 3]] [] (AV.tup [AV.agg [I 1, I 0, AV.sl 3 [[I tk, I tv, AV.sl 3 (Ty.encs tl) false], [I rk, I rv, AV.sl 3 (Ty.encs rl) false]] false], B true]) ([]) (by kernel_rfl) (ob1 (ho) (ob1 (hi) (ob1 (hu) (q (0 = (↑0 : Int)) (q ([[I ak, I an, I av, I atk, I atv, AV.sl 3 (Ty.encs atl) false, AV.sl 7 (Expr.encs al) false]][0]? = some [I ak, I an, I av, I atk, I atv, AV.sl 3 (Ty.encs atl) false, AV.sl 7 (Expr.encs al) false]) (ob1 (ha) (ob1 (hj) ob0)))))))

end Go.Ae

/- source.Lang.compound of an ECase. -/
namespace Go.Ae
open Go.Proofs

/-- The branches of an ECase behind the first one. -/
noncomputable def casesC (p : Prog) (sc : List Ty) (f : Ty) (r : List Expr) (b : Bool) : Bool := r.foldl (fun ok c => ok && (tImp p c sc).2 && decide (f = (tImp p c sc).1)) b

theorem comp_case_loop (es : List ByteArray) (ds : List Def) (mk mn mv mtk mtv : Int) (mtl : List Ty) (ml : List Expr) (sc : List Ty) (uk uv : Int) (ul : List Ty) (hu : (Ty.mk uk uv ul).ok) (r : List Expr) (hr : r.length ≤ 1000) :
    ∀ (r' : List Expr) (i : Nat) (b : Bool), r.drop i = r' → (∀ x ∈ r', TypeOk ⟨es, ds, .mk mk mn mv (.mk mtk mtv mtl) ml⟩ x sc) →
    Lp Try.prog 234 0 (loopN Try.f87 0) ⟨lookT [(2, .sl 3 (Ty.encs sc) false), (4, .lp 0 0), (5, .lp 1 0), (8, .lp 2 0), (21, B b), (22, .lp 3 0), (208, .sl 7 (Expr.encs r) false), (209, I (r.length : Int)), (210, I (i : Int))],
      [.cells [B false] [], .cells (Prog.enc ⟨es, ds, .mk mk mn mv (.mk mtk mtv mtl) ml⟩) [], .cells [I 0, I 0, .nil] [], .cells [I uk, I uv, .sl 3 (Ty.encs ul) false] []]⟩
      (.exit 1) ⟨lookT [(8, .lp 0 0), (21, B (casesC ⟨es, ds, .mk mk mn mv (.mk mtk mtv mtl) ml⟩ sc (.mk uk uv ul) r' b)), (22, .lp 1 0)], [.cells [I 0, I 0, .nil] [], .cells [I uk, I uv, .sl 3 (Ty.encs ul) false] []]⟩
  | [], i, b, hd, _ => by
    have hi := drop_end hd
    simp only [casesC, List.foldl_nil]
    exact Lp.last KT [.reg [] [(0, .bit false)]] [.keep [(8, []), (21, []), (22, [])]] (by kernel_rfl) (q (decide ((↑i : Int) < (↑(List.length r) : Int)) = false) ob0) (by intro h; cases h)
  | .mk k1 m1 v1 (.mk tk tv tl) xs :: r', i, b, hd, hs => by
    have hi := drop_lt hd
    have hx : (Expr.encs r)[i]? = some (Expr.mk k1 m1 v1 (.mk tk tv tl) xs).enc := by rw [Expr.encs_get, drop_get hd]; rfl
    have hc := hs (.mk k1 m1 v1 (.mk tk tv tl) xs) (by simp)
    have ih := fun b => comp_case_loop es ds mk mn mv mtk mtv mtl ml sc uk uv ul hu r hr r' (i + 1) b (drop_next hd) (fun x hx => hs x (by simp [hx]))
    have he : ∀ b, casesC ⟨es, ds, .mk mk mn mv (.mk mtk mtv mtl) ml⟩ sc (.mk uk uv ul) (.mk k1 m1 v1 (.mk tk tv tl) xs :: r') b =
      casesC ⟨es, ds, .mk mk mn mv (.mk mtk mtv mtl) ml⟩ sc (.mk uk uv ul) r' (b && (tImp ⟨es, ds, .mk mk mn mv (.mk mtk mtv mtl) ml⟩ (.mk k1 m1 v1 (.mk tk tv tl) xs) sc).2 && decide (.mk uk uv ul = (tImp ⟨es, ds, .mk mk mn mv (.mk mtk mtv mtl) ml⟩ (.mk k1 m1 v1 (.mk tk tv tl) xs) sc).1)) := fun b => rfl
    rw [he]
    unfold TypeOk at hc
    clear hs he hd
    generalize casesC ⟨es, ds, .mk mk mn mv (.mk mtk mtv mtl) ml⟩ sc (.mk uk uv ul) r' = F at ih ⊢
    generalize tImp ⟨es, ds, .mk mk mn mv (.mk mtk mtv mtl) ml⟩ (.mk k1 m1 v1 (.mk tk tv tl) xs) sc = T at hc ⊢
    obtain ⟨⟨rk, rv, rl⟩, rb⟩ := T
    have hq := eqTy_0 (.mk uk uv ul) (.mk rk rv rl) hu
    simp only [Int.natCast_add] at ih
    cases b with
    | false =>
      replace ih := ih false
      simp only [Bool.false_and]
      cases rb with
      | false => exact Lp.next KT [.reg [] [(0, .bit true)], .reg [] [(0, .row i (Expr.enc (Expr.mk k1 m1 v1 (Ty.mk tk tv tl) xs)))], .reg [] [(4, .call (AV.tup [AV.agg [I rk, I rv, AV.sl 3 (Ty.encs rl) false], B false]) [])], .reg [] [], .reg [] [(0, .int ((↑i : Int) + 1))]] [.keep [(2, []), (4, []), (5, []), (8, []), (21, []), (22, []), (208, []), (209, []), (210, [])]] (by kernel_rfl) (q (decide ((↑i : Int) < (↑(List.length r) : Int)) = true) (q ((↑i : Int) = (↑i : Int)) (q ((Expr.encs r)[i]? = some (Expr.enc (Expr.mk k1 m1 v1 (Ty.mk tk tv tl) xs))) (ob1 (hc) (qw ((↑i : Int) + 1) ob0))))) (ih)
      | true => exact Lp.next KT [.reg [] [(0, .bit true)], .reg [] [(0, .row i (Expr.enc (Expr.mk k1 m1 v1 (Ty.mk tk tv tl) xs)))], .reg [] [(4, .call (AV.tup [AV.agg [I rk, I rv, AV.sl 3 (Ty.encs rl) false], B true]) [])], .reg [] [], .reg [] [(0, .int ((↑i : Int) + 1))]] [.keep [(2, []), (4, []), (5, []), (8, []), (21, []), (22, []), (208, []), (209, []), (210, [])]] (by kernel_rfl) (q (decide ((↑i : Int) < (↑(List.length r) : Int)) = true) (q ((↑i : Int) = (↑i : Int)) (q ((Expr.encs r)[i]? = some (Expr.enc (Expr.mk k1 m1 v1 (Ty.mk tk tv tl) xs))) (ob1 (hc) (qw ((↑i : Int) + 1) ob0))))) (ih)
    | true =>
      cases rb with
      | false =>
        replace ih := ih false
        simp only [Bool.and_false, Bool.false_and]
        exact Lp.next KT [.reg [] [(0, .bit true)], .reg [] [(0, .row i (Expr.enc (Expr.mk k1 m1 v1 (Ty.mk tk tv tl) xs)))], .reg [] [(4, .call (AV.tup [AV.agg [I rk, I rv, AV.sl 3 (Ty.encs rl) false], B false]) [])], .reg [] [], .reg [] [(0, .int ((↑i : Int) + 1))]] [.keep [(2, []), (4, []), (5, []), (8, []), (21, []), (22, []), (208, []), (209, []), (210, [])]] (by kernel_rfl) (q (decide ((↑i : Int) < (↑(List.length r) : Int)) = true) (q ((↑i : Int) = (↑i : Int)) (q ((Expr.encs r)[i]? = some (Expr.enc (Expr.mk k1 m1 v1 (Ty.mk tk tv tl) xs))) (ob1 (hc) (qw ((↑i : Int) + 1) ob0))))) (ih)
      | true =>
        by_cases hx : Ty.mk uk uv ul = Ty.mk rk rv rl
        · replace ih := ih true
          simp only [decide_eq_true hx] at hq ⊢
          exact Lp.next KT [.reg [] [(0, .bit true)], .reg [] [(0, .row i (Expr.enc (Expr.mk k1 m1 v1 (Ty.mk tk tv tl) xs)))], .reg [] [(4, .call (AV.tup [AV.agg [I rk, I rv, AV.sl 3 (Ty.encs rl) false], B true]) [])], .reg [] [(7, .call (B true) [])], .reg [] [(0, .int ((↑i : Int) + 1))]] [.keep [(2, []), (4, []), (5, []), (8, []), (21, []), (22, []), (208, []), (209, []), (210, [])]] (by kernel_rfl) (q (decide ((↑i : Int) < (↑(List.length r) : Int)) = true) (q ((↑i : Int) = (↑i : Int)) (q ((Expr.encs r)[i]? = some (Expr.enc (Expr.mk k1 m1 v1 (Ty.mk tk tv tl) xs))) (ob1 (hc) (ob1 (hq) (qw ((↑i : Int) + 1) ob0)))))) (ih)
        · replace ih := ih false
          simp only [decide_eq_false hx, Bool.and_false] at hq ⊢
          exact Lp.next KT [.reg [] [(0, .bit true)], .reg [] [(0, .row i (Expr.enc (Expr.mk k1 m1 v1 (Ty.mk tk tv tl) xs)))], .reg [] [(4, .call (AV.tup [AV.agg [I rk, I rv, AV.sl 3 (Ty.encs rl) false], B true]) [])], .reg [] [(7, .call (B false) [])], .reg [] [(0, .int ((↑i : Int) + 1))]] [.keep [(2, []), (4, []), (5, []), (8, []), (21, []), (22, []), (208, []), (209, []), (210, [])]] (by kernel_rfl) (q (decide ((↑i : Int) < (↑(List.length r) : Int)) = true) (q ((↑i : Int) = (↑i : Int)) (q ((Expr.encs r)[i]? = some (Expr.enc (Expr.mk k1 m1 v1 (Ty.mk tk tv tl) xs))) (ob1 (hc) (ob1 (hq) (qw ((↑i : Int) + 1) ob0)))))) (ih)

end Go.Ae

/- source.Lang.compound of an ECase; what it refuses; source.Lang.Type by way of it; kinds that are none. -/
namespace Go.Ae
open Go.Proofs

theorem comp_case (es : List ByteArray) (ds : List Def) (mk mn mv mtk mtv : Int) (mtl : List Ty) (ml : List Expr) (sc : List Ty) (n v tk tv : Int) (tl : List Ty)
    (ak an av atk atv : Int) (atl : List Ty) (al : List Expr) (bk bn bv btk btv : Int) (btl : List Ty) (bl : List Expr) (r : List Expr) (hr : r.length ≤ 1000)
    (ha : TypeOk ⟨es, ds, .mk mk mn mv (.mk mtk mtv mtl) ml⟩ (.mk ak an av (.mk atk atv atl) al) sc)
    (hb : TypeOk ⟨es, ds, .mk mk mn mv (.mk mtk mtv mtl) ml⟩ (.mk bk bn bv (.mk btk btv btl) bl) sc)
    (hc : ∀ x ∈ r, TypeOk ⟨es, ds, .mk mk mn mv (.mk mtk mtv mtl) ml⟩ x sc)
    (hok : (tImp ⟨es, ds, .mk mk mn mv (.mk mtk mtv mtl) ml⟩ (.mk bk bn bv (.mk btk btv btl) bl) sc).1.ok) :
    CompOk ⟨es, ds, .mk mk mn mv (.mk mtk mtv mtl) ml⟩ (.mk 6 n v (.mk tk tv tl) (.mk ak an av (.mk atk atv atl) al :: .mk bk bn bv (.mk btk btv btl) bl :: r)) sc := by
  unfold TypeOk at ha hb
  unfold CompOk
  have ho := only_ 6 n v tk tv tl (.mk ak an av (.mk atk atv atl) al :: .mk bk bn bv (.mk btk btv btl) bl :: r) false false false (-1)
  rw [tImp.eq_def ⟨es, ds, .mk mk mn mv (.mk mtk mtv mtl) ml⟩ (.mk 6 n v (.mk tk tv tl) (.mk ak an av (.mk atk atv atl) al :: .mk bk bn bv (.mk btk btv btl) bl :: r))]
  dsimp only
  simp only [show ¬ (6 : Int) = 0 by omega, show ¬ (6 : Int) = 8 by omega, show ¬ (6 : Int) = 1 by omega, show ¬ (6 : Int) = 2 by omega, show ¬ (6 : Int) = 7 by omega, show ¬ (6 : Int) = 3 by omega, show ¬ (6 : Int) = 4 by omega, show ¬ (6 : Int) = 5 by omega, if_false, if_true]
  generalize onlyC (.mk 6 n v (.mk tk tv tl) (.mk ak an av (.mk atk atv atl) al :: .mk bk bn bv (.mk btk btv btl) bl :: r)) false false false (-1) = E at ho ⊢
  have hl := fun (uk uv : Int) (ul : List Ty) (hu : (Ty.mk uk uv ul).ok) (b : Bool) => comp_case_loop es ds mk mn mv mtk mtv mtl ml sc uk uv ul hu r hr r 0 b rfl hc
  clear hc
  generalize tImp ⟨es, ds, .mk mk mn mv (.mk mtk mtv mtl) ml⟩ (.mk ak an av (.mk atk atv atl) al) sc = T at ha ⊢
  obtain ⟨⟨rk, rv, rl⟩, rb⟩ := T
  cases E with
  | false =>
    clear ha hb hl hok
    simp only [Bool.false_eq_true, if_false]
    exact Fn.go KT Try.func87 [.reg [] [], .reg [] [], .reg [] [], .reg [] [], .reg [] [], .reg [] [], .reg [] [(1, .call (B false) [])], .reg [] []] [.tidO 3 [none, none, some 3]] [] (AV.tup [AV.agg [I 0, I 0, AV.sl 3 [] false], B false]) ([]) (by kernel_rfl) (ob1 (ho) ob0)
  | true =>
    simp only [if_true]
    cases rb with
    | false =>
      clear hb hl hok
      simp only [Bool.false_eq_true, if_false]
      exact Fn.go KT Try.func87 [.reg [] [], .reg [] [], .reg [] [], .reg [] [], .reg [] [], .reg [] [], .reg [] [(1, .call (B true) []), (6, .int ((↑(List.length r) : Int) + 1 + 1))], .reg [] [(5, .row 0 [I ak, I an, I av, I atk, I atv, AV.sl 3 (Ty.encs atl) false, AV.sl 7 (Expr.encs al) false]), (7, .call (AV.tup [AV.agg [I rk, I rv, AV.sl 3 (Ty.encs rl) false], B false]) [])], .reg [] [], .reg [] []] [.tidO 3 [none, none, some 3]] [] (AV.tup [AV.agg [I 0, I 0, AV.sl 3 [] false], B false]) ([]) (by kernel_rfl) (ob1 (ho) (q ((↑(List.length ([I ak, I an, I av, I atk, I atv, AV.sl 3 (Ty.encs atl) false, AV.sl 7 (Expr.encs al) false] :: [I bk, I bn, I bv, I btk, I btv, AV.sl 3 (Ty.encs btl) false, AV.sl 7 (Expr.encs bl) false] :: Expr.encs r)) : Int) = (↑(List.length r) : Int) + 1 + 1) (q (0 = (↑0 : Int)) (q (([I ak, I an, I av, I atk, I atv, AV.sl 3 (Ty.encs atl) false, AV.sl 7 (Expr.encs al) false] :: [I bk, I bn, I bv, I btk, I btv, AV.sl 3 (Ty.encs btl) false, AV.sl 7 (Expr.encs bl) false] :: Expr.encs r)[0]? = some [I ak, I an, I av, I atk, I atv, AV.sl 3 (Ty.encs atl) false, AV.sl 7 (Expr.encs al) false]) (ob1 (ha) ob0)))))
    | true =>
      simp only [if_true]
      by_cases hk : rk = 0
      · by_cases hv : rv = (r.length : Int) + 1
        · rw [if_pos ⟨hk, by simp; omega⟩]
          have hf : ∀ f b, r.attach.foldl (fun ok c => ok && (tImp ⟨es, ds, .mk mk mn mv (.mk mtk mtv mtl) ml⟩ c.1 sc).2 && decide (f = (tImp ⟨es, ds, .mk mk mn mv (.mk mtk mtv mtl) ml⟩ c.1 sc).1)) b =
              casesC ⟨es, ds, .mk mk mn mv (.mk mtk mtv mtl) ml⟩ sc f r b := fun f b => List.foldl_attach (f := fun ok c => ok && (tImp ⟨es, ds, .mk mk mn mv (.mk mtk mtv mtl) ml⟩ c sc).2 && decide (f = (tImp ⟨es, ds, .mk mk mn mv (.mk mtk mtv mtl) ml⟩ c sc).1))
          simp only [hf]
          clear hf
          generalize tImp ⟨es, ds, .mk mk mn mv (.mk mtk mtv mtl) ml⟩ (.mk bk bn bv (.mk btk btv btl) bl) sc = U at hb hok ⊢
          obtain ⟨⟨uk, uv, ul⟩, ub⟩ := U
          have hl := hl uk uv ul hok ub
          generalize casesC ⟨es, ds, .mk mk mn mv (.mk mtk mtv mtl) ml⟩ sc (.mk uk uv ul) r ub = F at hl ⊢
          clear hok
          cases ub with
          | true =>
            cases F with
            | true => exact Fn.go KT Try.func87 [.reg [] [], .reg [] [], .reg [] [], .reg [] [], .reg [] [], .reg [] [], .reg [] [(1, .call (B true) []), (6, .int ((↑(List.length r) : Int) + 1 + 1))], .reg [] [(5, .row 0 [I ak, I an, I av, I atk, I atv, AV.sl 3 (Ty.encs atl) false, AV.sl 7 (Expr.encs al) false]), (7, .call (AV.tup [AV.agg [I rk, I rv, AV.sl 3 (Ty.encs rl) false], B true]) [])], .reg [] [(5, .bit false), (12, .int ((↑(List.length r) : Int) + 1 + 1)), (13, .int ((↑(List.length r) : Int) + 1 + 1 - 1)), (14, .bit false)], .reg [] [(5, .row 1 [I bk, I bn, I bv, I btk, I btv, AV.sl 3 (Ty.encs btl) false, AV.sl 7 (Expr.encs bl) false]), (7, .call (AV.tup [AV.agg [I uk, I uv, AV.sl 3 (Ty.encs ul) false], B true]) [])], .reg [] [(2, .rows (Expr.encs r)), (3, .int (↑(List.length r) : Int))], .loop [.keep [(2, []), (4, []), (5, []), (8, []), (21, []), (22, []), (208, []), (209, []), (210, [])]] (Exit.exit 1) { tm := lookT [(8, AV.lp 0 0), (21, B true), (22, AV.lp 1 0)], st := [.cells [I 0, I 0, AV.nil] [], .cells [I uk, I uv, AV.sl 3 (Ty.encs ul) false] []] }, .reg [] []] [] [] (AV.tup [AV.agg [I uk, I uv, AV.sl 3 (Ty.encs ul) false], B true]) ([]) (by kernel_rfl) (ob1 (ho) (q ((↑(List.length ([I ak, I an, I av, I atk, I atv, AV.sl 3 (Ty.encs atl) false, AV.sl 7 (Expr.encs al) false] :: [I bk, I bn, I bv, I btk, I btv, AV.sl 3 (Ty.encs btl) false, AV.sl 7 (Expr.encs bl) false] :: Expr.encs r)) : Int) = (↑(List.length r) : Int) + 1 + 1) (q (0 = (↑0 : Int)) (q (([I ak, I an, I av, I atk, I atv, AV.sl 3 (Ty.encs atl) false, AV.sl 7 (Expr.encs al) false] :: [I bk, I bn, I bv, I btk, I btv, AV.sl 3 (Ty.encs btl) false, AV.sl 7 (Expr.encs bl) false] :: Expr.encs r)[0]? = some [I ak, I an, I av, I atk, I atv, AV.sl 3 (Ty.encs atl) false, AV.sl 7 (Expr.encs al) false]) (ob1 (ha) (q ((rk != 0) = false) (q ((↑(List.length ([I ak, I an, I av, I atk, I atv, AV.sl 3 (Ty.encs atl) false, AV.sl 7 (Expr.encs al) false] :: [I bk, I bn, I bv, I btk, I btv, AV.sl 3 (Ty.encs btl) false, AV.sl 7 (Expr.encs bl) false] :: Expr.encs r)) : Int) = (↑(List.length r) : Int) + 1 + 1) (qw ((↑(List.length r) : Int) + 1 + 1 - 1) (q ((rv != (↑(List.length r) : Int) + 1 + 1 - 1) = false) (q (1 = (↑1 : Int)) (q (([I ak, I an, I av, I atk, I atv, AV.sl 3 (Ty.encs atl) false, AV.sl 7 (Expr.encs al) false] :: [I bk, I bn, I bv, I btk, I btv, AV.sl 3 (Ty.encs btl) false, AV.sl 7 (Expr.encs bl) false] :: Expr.encs r)[1]? = some [I bk, I bn, I bv, I btk, I btv, AV.sl 3 (Ty.encs btl) false, AV.sl 7 (Expr.encs bl) false]) (ob1 (hb) (q ((0 : Int) ≤ Option.getD (some (2 : Int)) (0 : Int)) (q (Option.getD (some (2 : Int)) (0 : Int) ≤ Option.getD none (↑(List.length ([I ak, I an, I av, I atk, I atv, AV.sl (3 : Nat) (Ty.encs atl) false, AV.sl (7 : Nat) (Expr.encs al) false] :: [I bk, I bn, I bv, I btk, I btv, AV.sl (3 : Nat) (Ty.encs btl) false, AV.sl (7 : Nat) (Expr.encs bl) false] :: Expr.encs r)) : Int)) (q (Option.getD none (↑(List.length ([I ak, I an, I av, I atk, I atv, AV.sl (3 : Nat) (Ty.encs atl) false, AV.sl (7 : Nat) (Expr.encs al) false] :: [I bk, I bn, I bv, I btk, I btv, AV.sl (3 : Nat) (Ty.encs btl) false, AV.sl (7 : Nat) (Expr.encs bl) false] :: Expr.encs r)) : Int) ≤ (↑(List.length ([I ak, I an, I av, I atk, I atv, AV.sl (3 : Nat) (Ty.encs atl) false, AV.sl (7 : Nat) (Expr.encs al) false] :: [I bk, I bn, I bv, I btk, I btv, AV.sl (3 : Nat) (Ty.encs btl) false, AV.sl (7 : Nat) (Expr.encs bl) false] :: Expr.encs r)) : Int)) (q (List.drop (Int.toNat (Option.getD (some (2 : Int)) (0 : Int))) (List.take (Int.toNat (Option.getD none (↑(List.length ([I ak, I an, I av, I atk, I atv, AV.sl (3 : Nat) (Ty.encs atl) false, AV.sl (7 : Nat) (Expr.encs al) false] :: [I bk, I bn, I bv, I btk, I btv, AV.sl (3 : Nat) (Ty.encs btl) false, AV.sl (7 : Nat) (Expr.encs bl) false] :: Expr.encs r)) : Int))) ([I ak, I an, I av, I atk, I atv, AV.sl (3 : Nat) (Ty.encs atl) false, AV.sl (7 : Nat) (Expr.encs al) false] :: [I bk, I bn, I bv, I btk, I btv, AV.sl (3 : Nat) (Ty.encs btl) false, AV.sl (7 : Nat) (Expr.encs bl) false] :: Expr.encs r)) = Expr.encs r) (q ((↑(List.length (Expr.encs r)) : Int) = (↑(List.length r) : Int)) (ob1 (hl) ob0))))))))))))))))))
            | false => exact Fn.go KT Try.func87 [.reg [] [], .reg [] [], .reg [] [], .reg [] [], .reg [] [], .reg [] [], .reg [] [(1, .call (B true) []), (6, .int ((↑(List.length r) : Int) + 1 + 1))], .reg [] [(5, .row 0 [I ak, I an, I av, I atk, I atv, AV.sl 3 (Ty.encs atl) false, AV.sl 7 (Expr.encs al) false]), (7, .call (AV.tup [AV.agg [I rk, I rv, AV.sl 3 (Ty.encs rl) false], B true]) [])], .reg [] [(5, .bit false), (12, .int ((↑(List.length r) : Int) + 1 + 1)), (13, .int ((↑(List.length r) : Int) + 1 + 1 - 1)), (14, .bit false)], .reg [] [(5, .row 1 [I bk, I bn, I bv, I btk, I btv, AV.sl 3 (Ty.encs btl) false, AV.sl 7 (Expr.encs bl) false]), (7, .call (AV.tup [AV.agg [I uk, I uv, AV.sl 3 (Ty.encs ul) false], B true]) [])], .reg [] [(2, .rows (Expr.encs r)), (3, .int (↑(List.length r) : Int))], .loop [.keep [(2, []), (4, []), (5, []), (8, []), (21, []), (22, []), (208, []), (209, []), (210, [])]] (Exit.exit 1) { tm := lookT [(8, AV.lp 0 0), (21, B false), (22, AV.lp 1 0)], st := [.cells [I 0, I 0, AV.nil] [], .cells [I uk, I uv, AV.sl 3 (Ty.encs ul) false] []] }, .reg [] []] [] [] (AV.tup [AV.agg [I uk, I uv, AV.sl 3 (Ty.encs ul) false], B false]) ([]) (by kernel_rfl) (ob1 (ho) (q ((↑(List.length ([I ak, I an, I av, I atk, I atv, AV.sl 3 (Ty.encs atl) false, AV.sl 7 (Expr.encs al) false] :: [I bk, I bn, I bv, I btk, I btv, AV.sl 3 (Ty.encs btl) false, AV.sl 7 (Expr.encs bl) false] :: Expr.encs r)) : Int) = (↑(List.length r) : Int) + 1 + 1) (q (0 = (↑0 : Int)) (q (([I ak, I an, I av, I atk, I atv, AV.sl 3 (Ty.encs atl) false, AV.sl 7 (Expr.encs al) false] :: [I bk, I bn, I bv, I btk, I btv, AV.sl 3 (Ty.encs btl) false, AV.sl 7 (Expr.encs bl) false] :: Expr.encs r)[0]? = some [I ak, I an, I av, I atk, I atv, AV.sl 3 (Ty.encs atl) false, AV.sl 7 (Expr.encs al) false]) (ob1 (ha) (q ((rk != 0) = false) (q ((↑(List.length ([I ak, I an, I av, I atk, I atv, AV.sl 3 (Ty.encs atl) false, AV.sl 7 (Expr.encs al) false] :: [I bk, I bn, I bv, I btk, I btv, AV.sl 3 (Ty.encs btl) false, AV.sl 7 (Expr.encs bl) false] :: Expr.encs r)) : Int) = (↑(List.length r) : Int) + 1 + 1) (qw ((↑(List.length r) : Int) + 1 + 1 - 1) (q ((rv != (↑(List.length r) : Int) + 1 + 1 - 1) = false) (q (1 = (↑1 : Int)) (q (([I ak, I an, I av, I atk, I atv, AV.sl 3 (Ty.encs atl) false, AV.sl 7 (Expr.encs al) false] :: [I bk, I bn, I bv, I btk, I btv, AV.sl 3 (Ty.encs btl) false, AV.sl 7 (Expr.encs bl) false] :: Expr.encs r)[1]? = some [I bk, I bn, I bv, I btk, I btv, AV.sl 3 (Ty.encs btl) false, AV.sl 7 (Expr.encs bl) false]) (ob1 (hb) (q ((0 : Int) ≤ Option.getD (some (2 : Int)) (0 : Int)) (q (Option.getD (some (2 : Int)) (0 : Int) ≤ Option.getD none (↑(List.length ([I ak, I an, I av, I atk, I atv, AV.sl (3 : Nat) (Ty.encs atl) false, AV.sl (7 : Nat) (Expr.encs al) false] :: [I bk, I bn, I bv, I btk, I btv, AV.sl (3 : Nat) (Ty.encs btl) false, AV.sl (7 : Nat) (Expr.encs bl) false] :: Expr.encs r)) : Int)) (q (Option.getD none (↑(List.length ([I ak, I an, I av, I atk, I atv, AV.sl (3 : Nat) (Ty.encs atl) false, AV.sl (7 : Nat) (Expr.encs al) false] :: [I bk, I bn, I bv, I btk, I btv, AV.sl (3 : Nat) (Ty.encs btl) false, AV.sl (7 : Nat) (Expr.encs bl) false] :: Expr.encs r)) : Int) ≤ (↑(List.length ([I ak, I an, I av, I atk, I atv, AV.sl (3 : Nat) (Ty.encs atl) false, AV.sl (7 : Nat) (Expr.encs al) false] :: [I bk, I bn, I bv, I btk, I btv, AV.sl (3 : Nat) (Ty.encs btl) false, AV.sl (7 : Nat) (Expr.encs bl) false] :: Expr.encs r)) : Int)) (q (List.drop (Int.toNat (Option.getD (some (2 : Int)) (0 : Int))) (List.take (Int.toNat (Option.getD none (↑(List.length ([I ak, I an, I av, I atk, I atv, AV.sl (3 : Nat) (Ty.encs atl) false, AV.sl (7 : Nat) (Expr.encs al) false] :: [I bk, I bn, I bv, I btk, I btv, AV.sl (3 : Nat) (Ty.encs btl) false, AV.sl (7 : Nat) (Expr.encs bl) false] :: Expr.encs r)) : Int))) ([I ak, I an, I av, I atk, I atv, AV.sl (3 : Nat) (Ty.encs atl) false, AV.sl (7 : Nat) (Expr.encs al) false] :: [I bk, I bn, I bv, I btk, I btv, AV.sl (3 : Nat) (Ty.encs btl) false, AV.sl (7 : Nat) (Expr.encs bl) false] :: Expr.encs r)) = Expr.encs r) (q ((↑(List.length (Expr.encs r)) : Int) = (↑(List.length r) : Int)) (ob1 (hl) ob0))))))))))))))))))
          | false =>
            cases F with
            | true => exact Fn.go KT Try.func87 [.reg [] [], .reg [] [], .reg [] [], .reg [] [], .reg [] [], .reg [] [], .reg [] [(1, .call (B true) []), (6, .int ((↑(List.length r) : Int) + 1 + 1))], .reg [] [(5, .row 0 [I ak, I an, I av, I atk, I atv, AV.sl 3 (Ty.encs atl) false, AV.sl 7 (Expr.encs al) false]), (7, .call (AV.tup [AV.agg [I rk, I rv, AV.sl 3 (Ty.encs rl) false], B true]) [])], .reg [] [(5, .bit false), (12, .int ((↑(List.length r) : Int) + 1 + 1)), (13, .int ((↑(List.length r) : Int) + 1 + 1 - 1)), (14, .bit false)], .reg [] [(5, .row 1 [I bk, I bn, I bv, I btk, I btv, AV.sl 3 (Ty.encs btl) false, AV.sl 7 (Expr.encs bl) false]), (7, .call (AV.tup [AV.agg [I uk, I uv, AV.sl 3 (Ty.encs ul) false], B false]) [])], .reg [] [(2, .rows (Expr.encs r)), (3, .int (↑(List.length r) : Int))], .loop [.keep [(2, []), (4, []), (5, []), (8, []), (21, []), (22, []), (208, []), (209, []), (210, [])]] (Exit.exit 1) { tm := lookT [(8, AV.lp 0 0), (21, B true), (22, AV.lp 1 0)], st := [.cells [I 0, I 0, AV.nil] [], .cells [I uk, I uv, AV.sl 3 (Ty.encs ul) false] []] }, .reg [] []] [] [] (AV.tup [AV.agg [I uk, I uv, AV.sl 3 (Ty.encs ul) false], B true]) ([]) (by kernel_rfl) (ob1 (ho) (q ((↑(List.length ([I ak, I an, I av, I atk, I atv, AV.sl 3 (Ty.encs atl) false, AV.sl 7 (Expr.encs al) false] :: [I bk, I bn, I bv, I btk, I btv, AV.sl 3 (Ty.encs btl) false, AV.sl 7 (Expr.encs bl) false] :: Expr.encs r)) : Int) = (↑(List.length r) : Int) + 1 + 1) (q (0 = (↑0 : Int)) (q (([I ak, I an, I av, I atk, I atv, AV.sl 3 (Ty.encs atl) false, AV.sl 7 (Expr.encs al) false] :: [I bk, I bn, I bv, I btk, I btv, AV.sl 3 (Ty.encs btl) false, AV.sl 7 (Expr.encs bl) false] :: Expr.encs r)[0]? = some [I ak, I an, I av, I atk, I atv, AV.sl 3 (Ty.encs atl) false, AV.sl 7 (Expr.encs al) false]) (ob1 (ha) (q ((rk != 0) = false) (q ((↑(List.length ([I ak, I an, I av, I atk, I atv, AV.sl 3 (Ty.encs atl) false, AV.sl 7 (Expr.encs al) false] :: [I bk, I bn, I bv, I btk, I btv, AV.sl 3 (Ty.encs btl) false, AV.sl 7 (Expr.encs bl) false] :: Expr.encs r)) : Int) = (↑(List.length r) : Int) + 1 + 1) (qw ((↑(List.length r) : Int) + 1 + 1 - 1) (q ((rv != (↑(List.length r) : Int) + 1 + 1 - 1) = false) (q (1 = (↑1 : Int)) (q (([I ak, I an, I av, I atk, I atv, AV.sl 3 (Ty.encs atl) false, AV.sl 7 (Expr.encs al) false] :: [I bk, I bn, I bv, I btk, I btv, AV.sl 3 (Ty.encs btl) false, AV.sl 7 (Expr.encs bl) false] :: Expr.encs r)[1]? = some [I bk, I bn, I bv, I btk, I btv, AV.sl 3 (Ty.encs btl) false, AV.sl 7 (Expr.encs bl) false]) (ob1 (hb) (q ((0 : Int) ≤ Option.getD (some (2 : Int)) (0 : Int)) (q (Option.getD (some (2 : Int)) (0 : Int) ≤ Option.getD none (↑(List.length ([I ak, I an, I av, I atk, I atv, AV.sl (3 : Nat) (Ty.encs atl) false, AV.sl (7 : Nat) (Expr.encs al) false] :: [I bk, I bn, I bv, I btk, I btv, AV.sl (3 : Nat) (Ty.encs btl) false, AV.sl (7 : Nat) (Expr.encs bl) false] :: Expr.encs r)) : Int)) (q (Option.getD none (↑(List.length ([I ak, I an, I av, I atk, I atv, AV.sl (3 : Nat) (Ty.encs atl) false, AV.sl (7 : Nat) (Expr.encs al) false] :: [I bk, I bn, I bv, I btk, I btv, AV.sl (3 : Nat) (Ty.encs btl) false, AV.sl (7 : Nat) (Expr.encs bl) false] :: Expr.encs r)) : Int) ≤ (↑(List.length ([I ak, I an, I av, I atk, I atv, AV.sl (3 : Nat) (Ty.encs atl) false, AV.sl (7 : Nat) (Expr.encs al) false] :: [I bk, I bn, I bv, I btk, I btv, AV.sl (3 : Nat) (Ty.encs btl) false, AV.sl (7 : Nat) (Expr.encs bl) false] :: Expr.encs r)) : Int)) (q (List.drop (Int.toNat (Option.getD (some (2 : Int)) (0 : Int))) (List.take (Int.toNat (Option.getD none (↑(List.length ([I ak, I an, I av, I atk, I atv, AV.sl (3 : Nat) (Ty.encs atl) false, AV.sl (7 : Nat) (Expr.encs al) false] :: [I bk, I bn, I bv, I btk, I btv, AV.sl (3 : Nat) (Ty.encs btl) false, AV.sl (7 : Nat) (Expr.encs bl) false] :: Expr.encs r)) : Int))) ([I ak, I an, I av, I atk, I atv, AV.sl (3 : Nat) (Ty.encs atl) false, AV.sl (7 : Nat) (Expr.encs al) false] :: [I bk, I bn, I bv, I btk, I btv, AV.sl (3 : Nat) (Ty.encs btl) false, AV.sl (7 : Nat) (Expr.encs bl) false] :: Expr.encs r)) = Expr.encs r) (q ((↑(List.length (Expr.encs r)) : Int) = (↑(List.length r) : Int)) (ob1 (hl) ob0))))))))))))))))))
            | false => exact Fn.go KT Try.func87 [.reg [] [], .reg [] [], .reg [] [], .reg [] [], .reg [] [], .reg [] [], .reg [] [(1, .call (B true) []), (6, .int ((↑(List.length r) : Int) + 1 + 1))], .reg [] [(5, .row 0 [I ak, I an, I av, I atk, I atv, AV.sl 3 (Ty.encs atl) false, AV.sl 7 (Expr.encs al) false]), (7, .call (AV.tup [AV.agg [I rk, I rv, AV.sl 3 (Ty.encs rl) false], B true]) [])], .reg [] [(5, .bit false), (12, .int ((↑(List.length r) : Int) + 1 + 1)), (13, .int ((↑(List.length r) : Int) + 1 + 1 - 1)), (14, .bit false)], .reg [] [(5, .row 1 [I bk, I bn, I bv, I btk, I btv, AV.sl 3 (Ty.encs btl) false, AV.sl 7 (Expr.encs bl) false]), (7, .call (AV.tup [AV.agg [I uk, I uv, AV.sl 3 (Ty.encs ul) false], B false]) [])], .reg [] [(2, .rows (Expr.encs r)), (3, .int (↑(List.length r) : Int))], .loop [.keep [(2, []), (4, []), (5, []), (8, []), (21, []), (22, []), (208, []), (209, []), (210, [])]] (Exit.exit 1) { tm := lookT [(8, AV.lp 0 0), (21, B false), (22, AV.lp 1 0)], st := [.cells [I 0, I 0, AV.nil] [], .cells [I uk, I uv, AV.sl 3 (Ty.encs ul) false] []] }, .reg [] []] [] [] (AV.tup [AV.agg [I uk, I uv, AV.sl 3 (Ty.encs ul) false], B false]) ([]) (by kernel_rfl) (ob1 (ho) (q ((↑(List.length ([I ak, I an, I av, I atk, I atv, AV.sl 3 (Ty.encs atl) false, AV.sl 7 (Expr.encs al) false] :: [I bk, I bn, I bv, I btk, I btv, AV.sl 3 (Ty.encs btl) false, AV.sl 7 (Expr.encs bl) false] :: Expr.encs r)) : Int) = (↑(List.length r) : Int) + 1 + 1) (q (0 = (↑0 : Int)) (q (([I ak, I an, I av, I atk, I atv, AV.sl 3 (Ty.encs atl) false, AV.sl 7 (Expr.encs al) false] :: [I bk, I bn, I bv, I btk, I btv, AV.sl 3 (Ty.encs btl) false, AV.sl 7 (Expr.encs bl) false] :: Expr.encs r)[0]? = some [I ak, I an, I av, I atk, I atv, AV.sl 3 (Ty.encs atl) false, AV.sl 7 (Expr.encs al) false]) (ob1 (ha) (q ((rk != 0) = false) (q ((↑(List.length ([I ak, I an, I av, I atk, I atv, AV.sl 3 (Ty.encs atl) false, AV.sl 7 (Expr.encs al) false] :: [I bk, I bn, I bv, I btk, I btv, AV.sl 3 (Ty.encs btl) false, AV.sl 7 (Expr.encs bl) false] :: Expr.encs r)) : Int) = (↑(List.length r) : Int) + 1 + 1) (qw ((↑(List.length r) : Int) + 1 + 1 - 1) (q ((rv != (↑(List.length r) : Int) + 1 + 1 - 1) = false) (q (1 = (↑1 : Int)) (q (([I ak, I an, I av, I atk, I atv, AV.sl 3 (Ty.encs atl) false, AV.sl 7 (Expr.encs al) false] :: [I bk, I bn, I bv, I btk, I btv, AV.sl 3 (Ty.encs btl) false, AV.sl 7 (Expr.encs bl) false] :: Expr.encs r)[1]? = some [I bk, I bn, I bv, I btk, I btv, AV.sl 3 (Ty.encs btl) false, AV.sl 7 (Expr.encs bl) false]) (ob1 (hb) (q ((0 : Int) ≤ Option.getD (some (2 : Int)) (0 : Int)) (q (Option.getD (some (2 : Int)) (0 : Int) ≤ Option.getD none (↑(List.length ([I ak, I an, I av, I atk, I atv, AV.sl (3 : Nat) (Ty.encs atl) false, AV.sl (7 : Nat) (Expr.encs al) false] :: [I bk, I bn, I bv, I btk, I btv, AV.sl (3 : Nat) (Ty.encs btl) false, AV.sl (7 : Nat) (Expr.encs bl) false] :: Expr.encs r)) : Int)) (q (Option.getD none (↑(List.length ([I ak, I an, I av, I atk, I atv, AV.sl (3 : Nat) (Ty.encs atl) false, AV.sl (7 : Nat) (Expr.encs al) false] :: [I bk, I bn, I bv, I btk, I btv, AV.sl (3 : Nat) (Ty.encs btl) false, AV.sl (7 : Nat) (Expr.encs bl) false] :: Expr.encs r)) : Int) ≤ (↑(List.length ([I ak, I an, I av, I atk, I atv, AV.sl (3 : Nat) (Ty.encs atl) false, AV.sl (7 : Nat) (Expr.encs al) false] :: [I bk, I bn, I bv, I btk, I btv, AV.sl (3 : Nat) (Ty.encs btl) false, AV.sl (7 : Nat) (Expr.encs bl) false] :: Expr.encs r)) : Int)) (q (List.drop (Int.toNat (Option.getD (some (2 : Int)) (0 : Int))) (List.take (Int.toNat (Option.getD none (↑(List.length ([I ak, I an, I av, I atk, I atv, AV.sl (3 : Nat) (Ty.encs atl) false, AV.sl (7 : Nat) (Expr.encs al) false] :: [I bk, I bn, I bv, I btk, I btv, AV.sl (3 : Nat) (Ty.encs btl) false, AV.sl (7 : Nat) (Expr.encs bl) false] :: Expr.encs r)) : Int))) ([I ak, I an, I av, I atk, I atv, AV.sl (3 : Nat) (Ty.encs atl) false, AV.sl (7 : Nat) (Expr.encs al) false] :: [I bk, I bn, I bv, I btk, I btv, AV.sl (3 : Nat) (Ty.encs btl) false, AV.sl (7 : Nat) (Expr.encs bl) false] :: Expr.encs r)) = Expr.encs r) (q ((↑(List.length (Expr.encs r)) : Int) = (↑(List.length r) : Int)) (ob1 (hl) ob0))))))))))))))))))
        · rw [if_neg (fun h => hv (by have := h.2; simp at this; omega))]
          clear hb hl hok
          exact Fn.go KT Try.func87 [.reg [] [], .reg [] [], .reg [] [], .reg [] [], .reg [] [], .reg [] [], .reg [] [(1, .call (B true) []), (6, .int ((↑(List.length r) : Int) + 1 + 1))], .reg [] [(5, .row 0 [I ak, I an, I av, I atk, I atv, AV.sl 3 (Ty.encs atl) false, AV.sl 7 (Expr.encs al) false]), (7, .call (AV.tup [AV.agg [I rk, I rv, AV.sl 3 (Ty.encs rl) false], B true]) [])], .reg [] [(5, .bit false), (12, .int ((↑(List.length r) : Int) + 1 + 1)), (13, .int ((↑(List.length r) : Int) + 1 + 1 - 1)), (14, .bit true)], .reg [] []] [.tidO 3 [none, none, some 3]] [] (AV.tup [AV.agg [I 0, I 0, AV.sl 3 [] false], B false]) ([]) (by kernel_rfl) (ob1 (ho) (q ((↑(List.length ([I ak, I an, I av, I atk, I atv, AV.sl 3 (Ty.encs atl) false, AV.sl 7 (Expr.encs al) false] :: [I bk, I bn, I bv, I btk, I btv, AV.sl 3 (Ty.encs btl) false, AV.sl 7 (Expr.encs bl) false] :: Expr.encs r)) : Int) = (↑(List.length r) : Int) + 1 + 1) (q (0 = (↑0 : Int)) (q (([I ak, I an, I av, I atk, I atv, AV.sl 3 (Ty.encs atl) false, AV.sl 7 (Expr.encs al) false] :: [I bk, I bn, I bv, I btk, I btv, AV.sl 3 (Ty.encs btl) false, AV.sl 7 (Expr.encs bl) false] :: Expr.encs r)[0]? = some [I ak, I an, I av, I atk, I atv, AV.sl 3 (Ty.encs atl) false, AV.sl 7 (Expr.encs al) false]) (ob1 (ha) (q ((rk != 0) = false) (q ((↑(List.length ([I ak, I an, I av, I atk, I atv, AV.sl 3 (Ty.encs atl) false, AV.sl 7 (Expr.encs al) false] :: [I bk, I bn, I bv, I btk, I btv, AV.sl 3 (Ty.encs btl) false, AV.sl 7 (Expr.encs bl) false] :: Expr.encs r)) : Int) = (↑(List.length r) : Int) + 1 + 1) (qw ((↑(List.length r) : Int) + 1 + 1 - 1) (q ((rv != (↑(List.length r) : Int) + 1 + 1 - 1) = true) ob0)))))))))
      · rw [if_neg (fun h => hk h.1)]
        clear hb hl hok
        exact Fn.go KT Try.func87 [.reg [] [], .reg [] [], .reg [] [], .reg [] [], .reg [] [], .reg [] [], .reg [] [(1, .call (B true) []), (6, .int ((↑(List.length r) : Int) + 1 + 1))], .reg [] [(5, .row 0 [I ak, I an, I av, I atk, I atv, AV.sl 3 (Ty.encs atl) false, AV.sl 7 (Expr.encs al) false]), (7, .call (AV.tup [AV.agg [I rk, I rv, AV.sl 3 (Ty.encs rl) false], B true]) [])], .reg [] [(5, .bit true)], .reg [] []] [.tidO 3 [none, none, some 3]] [] (AV.tup [AV.agg [I 0, I 0, AV.sl 3 [] false], B false]) ([]) (by kernel_rfl) (ob1 (ho) (q ((↑(List.length ([I ak, I an, I av, I atk, I atv, AV.sl 3 (Ty.encs atl) false, AV.sl 7 (Expr.encs al) false] :: [I bk, I bn, I bv, I btk, I btv, AV.sl 3 (Ty.encs btl) false, AV.sl 7 (Expr.encs bl) false] :: Expr.encs r)) : Int) = (↑(List.length r) : Int) + 1 + 1) (q (0 = (↑0 : Int)) (q (([I ak, I an, I av, I atk, I atv, AV.sl 3 (Ty.encs atl) false, AV.sl 7 (Expr.encs al) false] :: [I bk, I bn, I bv, I btk, I btv, AV.sl 3 (Ty.encs btl) false, AV.sl 7 (Expr.encs bl) false] :: Expr.encs r)[0]? = some [I ak, I an, I av, I atk, I atv, AV.sl 3 (Ty.encs atl) false, AV.sl 7 (Expr.encs al) false]) (ob1 (ha) (q ((rk != 0) = true) ob0))))))

theorem comp_bad (es : List ByteArray) (ds : List Def) (mk mn mv mtk mtv : Int) (mtl : List Ty) (ml : List Expr) (sc : List Ty) (k n v tk tv : Int) (tl : List Ty) (l : List Expr)
    (h : (k = 3 ∨ k = 5) ∧ l.length ≠ 2) :
    CompOk ⟨es, ds, .mk mk mn mv (.mk mtk mtv mtl) ml⟩ (.mk k n v (.mk tk tv tl) l) sc := by
  unfold CompOk
  have ho := only_ k n v tk tv tl l false false false 2
  rw [only_len _ _ _ _ _ _ _ _ _ (by omega) (by omega)] at ho
  rw [show tImp ⟨es, ds, .mk mk mn mv (.mk mtk mtv mtl) ml⟩ (.mk k n v (.mk tk tv tl) l) sc = (tyZ, false) by
    rw [tImp.eq_def]
    dsimp only
    rcases h with ⟨rfl | rfl, h⟩
    · simp only [show ¬ (3 : Int) = 0 by omega, show ¬ (3 : Int) = 8 by omega, show ¬ (3 : Int) = 1 by omega, show ¬ (3 : Int) = 2 by omega, show ¬ (3 : Int) = 7 by omega, if_false, if_true]
      match l, h with
      | [], _ => rfl
      | [_], _ => rfl
      | [_, _], h => exact absurd rfl h
      | _ :: _ :: _ :: _, _ => rfl
    · simp only [show ¬ (5 : Int) = 0 by omega, show ¬ (5 : Int) = 8 by omega, show ¬ (5 : Int) = 1 by omega, show ¬ (5 : Int) = 2 by omega, show ¬ (5 : Int) = 7 by omega, show ¬ (5 : Int) = 3 by omega, show ¬ (5 : Int) = 4 by omega, if_false, if_true]
      match l, h with
      | [], _ => rfl
      | [_], _ => rfl
      | [_, _], h => exact absurd rfl h
      | _ :: _ :: _ :: _, _ => rfl]
  rcases h with ⟨rfl | rfl, h⟩
  · exact Fn.go KT Try.func87 [.reg [] [], .reg [] [], .reg [] [], .reg [] [], .reg [] [(1, .call (B false) [])], .reg [] []] [.tidO 3 [none, none, some 3]] [] (AV.tup [AV.agg [I 0, I 0, AV.sl 3 [] false], B false]) ([]) (by kernel_rfl) (ob1 (ho) ob0)
  · exact Fn.go KT Try.func87 [.reg [] [], .reg [] [], .reg [] [], .reg [] [], .reg [] [], .reg [] [], .reg [] [(1, .call (B false) [])], .reg [] []] [.tidO 3 [none, none, some 3]] [] (AV.tup [AV.agg [I 0, I 0, AV.sl 3 [] false], B false]) ([]) (by kernel_rfl) (ob1 (ho) ob0)

theorem comp_bad_lam (es : List ByteArray) (ds : List Def) (mk mn mv mtk mtv : Int) (mtl : List Ty) (ml : List Expr) (sc : List Ty) (n v tk tv : Int) (tl : List Ty) (l : List Expr) (h : l.length ≠ 1) :
    CompOk ⟨es, ds, .mk mk mn mv (.mk mtk mtv mtl) ml⟩ (.mk 4 n v (.mk tk tv tl) l) sc := by
  unfold CompOk
  have ho := only_ 4 n v tk tv tl l false false true 1
  rw [only_len _ _ _ _ _ _ _ _ _ (by omega) (by omega)] at ho
  rw [show tImp ⟨es, ds, .mk mk mn mv (.mk mtk mtv mtl) ml⟩ (.mk 4 n v (.mk tk tv tl) l) sc = (tyZ, false) by
    rw [tImp.eq_def]
    dsimp only
    simp only [show ¬ (4 : Int) = 0 by omega, show ¬ (4 : Int) = 8 by omega, show ¬ (4 : Int) = 1 by omega, show ¬ (4 : Int) = 2 by omega, show ¬ (4 : Int) = 7 by omega, show ¬ (4 : Int) = 3 by omega, if_false, if_true]
    match l, h with
    | [], _ => rfl
    | [_], h => exact absurd rfl h
    | _ :: _ :: _, _ => rfl]
  exact Fn.go KT Try.func87 [.reg [] [], .reg [] [], .reg [] [], .reg [] [], .reg [] [], .reg [] [(1, .call (B false) [])], .reg [] []] [.tidO 3 [none, none, some 3]] [] (AV.tup [AV.agg [I 0, I 0, AV.sl 3 [] false], B false]) ([]) (by kernel_rfl) (ob1 (ho) ob0)

/-- An ELam whose type is none. -/
theorem comp_lam1 (es : List ByteArray) (ds : List Def) (mk mn mv mtk mtv : Int) (mtl : List Ty) (ml : List Expr) (sc : List Ty) (n v tk tv : Int) (tl : List Ty)
    (ak an av atk atv : Int) (atl : List Ty) (al : List Expr) (htok : (Ty.mk tk tv tl).ok) (hv : ¬ (tyC (.mk tk tv tl) 20).1 = true) :
    CompOk ⟨es, ds, .mk mk mn mv (.mk mtk mtv mtl) ml⟩ (.mk 4 n v (.mk tk tv tl) [.mk ak an av (.mk atk atv atl) al]) sc := by
  unfold CompOk
  have ho := only_ 4 n v tk tv tl [.mk ak an av (.mk atk atv atl) al] false false true 1
  have hi := isTy_ (.mk tk tv tl) htok
  rw [Bool.not_eq_true] at hv
  rw [tImp.eq_def ⟨es, ds, .mk mk mn mv (.mk mtk mtv mtl) ml⟩ (.mk 4 n v (.mk tk tv tl) [.mk ak an av (.mk atk atv atl) al])]
  dsimp only
  simp only [show ¬ (4 : Int) = 0 by omega, show ¬ (4 : Int) = 8 by omega, show ¬ (4 : Int) = 1 by omega, show ¬ (4 : Int) = 2 by omega, show ¬ (4 : Int) = 7 by omega, show ¬ (4 : Int) = 3 by omega, if_false, if_true, hv, Bool.and_false, Bool.false_eq_true]
  rw [hv] at hi
  generalize onlyC (.mk 4 n v (.mk tk tv tl) [.mk ak an av (.mk atk atv atl) al]) false false true 1 = E at ho
  clear htok
  cases E with
  | false => exact Fn.go KT Try.func87 [.reg [] [], .reg [] [], .reg [] [], .reg [] [], .reg [] [], .reg [] [(1, .call (B false) [])], .reg [] []] [.tidO 3 [none, none, some 3]] [] (AV.tup [AV.agg [I 0, I 0, AV.sl 3 [] false], B false]) ([]) (by kernel_rfl) (ob1 (ho) ob0)
  | true => exact Fn.go KT Try.func87 [.reg [] [], .reg [] [], .reg [] [], .reg [] [], .reg [] [], .reg [] [(1, .call (B true) []), (7, .call (B false) [])], .reg [] []] [.tidO 3 [none, none, some 3]] [] (AV.tup [AV.agg [I 0, I 0, AV.sl 3 [] false], B false]) ([]) (by kernel_rfl) (ob1 (ho) (ob1 (hi) ob0))

theorem comp_bad_case (es : List ByteArray) (ds : List Def) (mk mn mv mtk mtv : Int) (mtl : List Ty) (ml : List Expr) (sc : List Ty) (n v tk tv : Int) (tl : List Ty) (l : List Expr) (h : l.length < 2) :
    CompOk ⟨es, ds, .mk mk mn mv (.mk mtk mtv mtl) ml⟩ (.mk 6 n v (.mk tk tv tl) l) sc := by
  unfold CompOk
  have ho := only_ 6 n v tk tv tl l false false false (-1)
  generalize onlyC (.mk 6 n v (.mk tk tv tl) l) false false false (-1) = E at ho
  rw [show tImp ⟨es, ds, .mk mk mn mv (.mk mtk mtv mtl) ml⟩ (.mk 6 n v (.mk tk tv tl) l) sc = (tyZ, false) by
    rw [tImp.eq_def]
    dsimp only
    simp only [show ¬ (6 : Int) = 0 by omega, show ¬ (6 : Int) = 8 by omega, show ¬ (6 : Int) = 1 by omega, show ¬ (6 : Int) = 2 by omega, show ¬ (6 : Int) = 7 by omega, show ¬ (6 : Int) = 3 by omega, show ¬ (6 : Int) = 4 by omega, show ¬ (6 : Int) = 5 by omega, if_false, if_true]
    match l, h with
    | [], _ => rfl
    | [_], _ => rfl
    | _ :: _ :: _, h => exact absurd h (by simp)]
  cases E with
  | true => exact Fn.go KT Try.func87 [.reg [] [], .reg [] [], .reg [] [], .reg [] [], .reg [] [], .reg [] [], .reg [] [(1, .call (B true) []), (6, .int (↑(List.length l) : Int)), (7, .bit true)], .reg [] []] [.tidO 3 [none, none, some 3]] [] (AV.tup [AV.agg [I 0, I 0, AV.sl 3 [] false], B false]) ([]) (by kernel_rfl) (ob1 (ho) (q ((↑(List.length (Expr.encs l)) : Int) = (↑(List.length l) : Int)) (q (decide ((↑(List.length l) : Int) < 2) = true) ob0)))
  | false => exact Fn.go KT Try.func87 [.reg [] [], .reg [] [], .reg [] [], .reg [] [], .reg [] [], .reg [] [], .reg [] [(1, .call (B false) [])], .reg [] []] [.tidO 3 [none, none, some 3]] [] (AV.tup [AV.agg [I 0, I 0, AV.sl 3 [] false], B false]) ([]) (by kernel_rfl) (ob1 (ho) ob0)

theorem type_comp (es : List ByteArray) (ds : List Def) (mk mn mv mtk mtv : Int) (mtl : List Ty) (ml : List Expr) (sc : List Ty) (k n v tk tv : Int) (tl : List Ty) (l : List Expr)
    (h : k = 3 ∨ k = 4 ∨ k = 5 ∨ k = 6) (hc : CompOk ⟨es, ds, .mk mk mn mv (.mk mtk mtv mtl) ml⟩ (.mk k n v (.mk tk tv tl) l) sc) :
    TypeOk ⟨es, ds, .mk mk mn mv (.mk mtk mtv mtl) ml⟩ (.mk k n v (.mk tk tv tl) l) sc := by
  unfold CompOk at hc
  unfold TypeOk
  generalize tImp ⟨es, ds, .mk mk mn mv (.mk mtk mtv mtl) ml⟩ (.mk k n v (.mk tk tv tl) l) sc = T at hc ⊢
  obtain ⟨⟨rk, rv, rl⟩, rb⟩ := T
  rcases h with rfl | rfl | rfl | rfl
  · cases rb with
    | true => exact Fn.go KT Try.func72 [.reg [] [], .reg [] [], .reg [] [], .reg [] [], .reg [] [], .reg [] [], .reg [] [], .reg [] [], .reg [] [(4, .call (AV.tup [AV.agg [I rk, I rv, AV.sl 3 (Ty.encs rl) false], B true]) [])]] [] [] (AV.tup [AV.agg [I rk, I rv, AV.sl 3 (Ty.encs rl) false], B true]) ([]) (by kernel_rfl) (ob1 (hc) ob0)
    | false => exact Fn.go KT Try.func72 [.reg [] [], .reg [] [], .reg [] [], .reg [] [], .reg [] [], .reg [] [], .reg [] [], .reg [] [], .reg [] [(4, .call (AV.tup [AV.agg [I rk, I rv, AV.sl 3 (Ty.encs rl) false], B false]) [])]] [] [] (AV.tup [AV.agg [I rk, I rv, AV.sl 3 (Ty.encs rl) false], B false]) ([]) (by kernel_rfl) (ob1 (hc) ob0)
  · cases rb with
    | true => exact Fn.go KT Try.func72 [.reg [] [], .reg [] [], .reg [] [], .reg [] [], .reg [] [], .reg [] [], .reg [] [], .reg [] [], .reg [] [], .reg [] [(4, .call (AV.tup [AV.agg [I rk, I rv, AV.sl 3 (Ty.encs rl) false], B true]) [])]] [] [] (AV.tup [AV.agg [I rk, I rv, AV.sl 3 (Ty.encs rl) false], B true]) ([]) (by kernel_rfl) (ob1 (hc) ob0)
    | false => exact Fn.go KT Try.func72 [.reg [] [], .reg [] [], .reg [] [], .reg [] [], .reg [] [], .reg [] [], .reg [] [], .reg [] [], .reg [] [], .reg [] [(4, .call (AV.tup [AV.agg [I rk, I rv, AV.sl 3 (Ty.encs rl) false], B false]) [])]] [] [] (AV.tup [AV.agg [I rk, I rv, AV.sl 3 (Ty.encs rl) false], B false]) ([]) (by kernel_rfl) (ob1 (hc) ob0)
  · cases rb with
    | true => exact Fn.go KT Try.func72 [.reg [] [], .reg [] [], .reg [] [], .reg [] [], .reg [] [], .reg [] [], .reg [] [], .reg [] [], .reg [] [], .reg [] [], .reg [] [(4, .call (AV.tup [AV.agg [I rk, I rv, AV.sl 3 (Ty.encs rl) false], B true]) [])]] [] [] (AV.tup [AV.agg [I rk, I rv, AV.sl 3 (Ty.encs rl) false], B true]) ([]) (by kernel_rfl) (ob1 (hc) ob0)
    | false => exact Fn.go KT Try.func72 [.reg [] [], .reg [] [], .reg [] [], .reg [] [], .reg [] [], .reg [] [], .reg [] [], .reg [] [], .reg [] [], .reg [] [], .reg [] [(4, .call (AV.tup [AV.agg [I rk, I rv, AV.sl 3 (Ty.encs rl) false], B false]) [])]] [] [] (AV.tup [AV.agg [I rk, I rv, AV.sl 3 (Ty.encs rl) false], B false]) ([]) (by kernel_rfl) (ob1 (hc) ob0)
  · cases rb with
    | true => exact Fn.go KT Try.func72 [.reg [] [], .reg [] [], .reg [] [], .reg [] [], .reg [] [], .reg [] [], .reg [] [], .reg [] [], .reg [] [], .reg [] [], .reg [] [], .reg [] [(4, .call (AV.tup [AV.agg [I rk, I rv, AV.sl 3 (Ty.encs rl) false], B true]) [])]] [] [] (AV.tup [AV.agg [I rk, I rv, AV.sl 3 (Ty.encs rl) false], B true]) ([]) (by kernel_rfl) (ob1 (hc) ob0)
    | false => exact Fn.go KT Try.func72 [.reg [] [], .reg [] [], .reg [] [], .reg [] [], .reg [] [], .reg [] [], .reg [] [], .reg [] [], .reg [] [], .reg [] [], .reg [] [], .reg [] [(4, .call (AV.tup [AV.agg [I rk, I rv, AV.sl 3 (Ty.encs rl) false], B false]) [])]] [] [] (AV.tup [AV.agg [I rk, I rv, AV.sl 3 (Ty.encs rl) false], B false]) ([]) (by kernel_rfl) (ob1 (hc) ob0)

theorem type_other (es : List ByteArray) (ds : List Def) (mk mn mv mtk mtv : Int) (mtl : List Ty) (ml : List Expr) (sc : List Ty) (k n v tk tv : Int) (tl : List Ty) (l : List Expr)
    (h : k < 0 ∨ 8 < k) : TypeOk ⟨es, ds, .mk mk mn mv (.mk mtk mtv mtl) ml⟩ (.mk k n v (.mk tk tv tl) l) sc := by
  unfold TypeOk
  rw [show tImp ⟨es, ds, .mk mk mn mv (.mk mtk mtv mtl) ml⟩ (.mk k n v (.mk tk tv tl) l) sc = (tyZ, false) by
    rw [tImp.eq_def]
    dsimp only
    rw [if_neg (by omega), if_neg (by omega), if_neg (by omega), if_neg (by omega), if_neg (by omega), if_neg (by omega), if_neg (by omega), if_neg (by omega), if_neg (by omega)]]
  exact Fn.go KT Try.func72 [.reg [] [], .reg [] [], .reg [] [(0, .bit false)], .reg [] [(0, .bit false)], .reg [] [(0, .bit false)], .reg [] [(0, .bit false)], .reg [] [(0, .bit false)], .reg [] [(0, .bit false)], .reg [] [(0, .bit false)], .reg [] [(0, .bit false)], .reg [] [(0, .bit false)], .reg [] [], .reg [] []] [.tidO 3 [none, none, some 3]] [] (AV.tup [AV.agg [I 0, I 0, AV.sl 3 [] false], B false]) ([]) (by kernel_rfl) (q ((k == 0) = false) (q ((k == 8) = false) (q ((k == 1) = false) (q ((k == 2) = false) (q ((k == 7) = false) (q ((k == 3) = false) (q ((k == 4) = false) (q ((k == 5) = false) (q ((k == 6) = false) ob0)))))))))

end Go.Ae

/- What source.Lang.Type returns: facts. -/
namespace Go.Ae
open Go.Proofs

section
variable (p : Prog) (n v : Int) (ty : Ty) (l : List Expr) (sc : List Ty)

theorem tImp_const : tImp p (.mk 0 n v ty l) sc = (tyF v, onlyC (.mk 0 n v ty l) true true false 0 && decide (1 ≤ v) && decide (v ≤ 4) && decide (0 ≤ n) && decide (n < v)) := by
  rw [tImp.eq_def]; rfl
theorem tImp_pick : tImp p (.mk 8 n v ty l) sc = (tyF v, onlyC (.mk 8 n v ty l) false true false 0 && decide (1 ≤ v) && decide (v ≤ 4)) := by
  rw [tImp.eq_def]; rfl
theorem tImp_var : tImp p (.mk 1 n v ty l) sc = (if onlyC (.mk 1 n v ty l) true false false 0 && decide (0 ≤ n) && decide (n < (sc.length : Int)) then
        (match sc[sc.length - 1 - n.toNat]? with
        | some t => (t, true)
        | none => (tyZ, false)) else (tyZ, false)) := by
  rw [tImp.eq_def]; rfl
theorem tImp_fun : tImp p (.mk 2 n v ty l) sc = (if onlyC (.mk 2 n v ty l) true false false 0 && decide (0 ≤ n) && decide (n < (p.defs.length : Int)) then
        (match p.defs[n.toNat]? with
        | some d => (.mk 1 0 [d.param, d.result], (tyC (.mk 1 0 [d.param, d.result]) 20).1)
        | none => (tyZ, false)) else (tyZ, false)) := by
  rw [tImp.eq_def]; rfl
theorem tImp_event (a : Expr) : tImp p (.mk 7 n v ty [a]) sc = if onlyC (.mk 7 n v ty [a]) true false false 1 && decide (0 ≤ n) && decide (n < (p.events.length : Int)) then tImp p a sc else (tyZ, false) := by
  rw [tImp.eq_def]; rfl
theorem tImp_event0 (h : l.length ≠ 1) : tImp p (.mk 7 n v ty l) sc = (tyZ, false) := by
  rw [tImp.eq_def]
  match l, h with
  | [], _ => rfl
  | [_], h => exact absurd rfl h
  | _ :: _ :: _, _ => rfl
theorem tImp_app (a b : Expr) : tImp p (.mk 3 n v ty [a, b]) sc = if onlyC (.mk 3 n v ty [a, b]) false false false 2 then
    (if (tImp p a sc).2 && (tImp p b sc).2 then appC (tImp p a sc).1 (tImp p b sc).1 else (tyZ, false)) else (tyZ, false) := by
  rw [tImp.eq_def]; rfl
theorem tImp_app0 (h : l.length ≠ 2) : tImp p (.mk 3 n v ty l) sc = (tyZ, false) := by
  rw [tImp.eq_def]
  match l, h with
  | [], _ => rfl
  | [_], _ => rfl
  | [_, _], h => exact absurd rfl h
  | _ :: _ :: _ :: _, _ => rfl
theorem tImp_lam (a : Expr) : tImp p (.mk 4 n v ty [a]) sc = if onlyC (.mk 4 n v ty [a]) false false true 1 && (tyC ty 20).1 then
    (if (tImp p a (sc ++ [ty])).2 && (tyC (.mk 1 0 [ty, (tImp p a (sc ++ [ty])).1]) 20).1 then (.mk 1 0 [ty, (tImp p a (sc ++ [ty])).1], true) else (tyZ, false)) else (tyZ, false) := by
  rw [tImp.eq_def]; rfl
theorem tImp_lam0 (h : l.length ≠ 1) : tImp p (.mk 4 n v ty l) sc = (tyZ, false) := by
  rw [tImp.eq_def]
  match l, h with
  | [], _ => rfl
  | [_], h => exact absurd rfl h
  | _ :: _ :: _, _ => rfl
theorem tImp_let (a b : Expr) : tImp p (.mk 5 n v ty [a, b]) sc = if onlyC (.mk 5 n v ty [a, b]) false false false 2 then
    (if (tImp p a sc).2 then tImp p b (sc ++ [(tImp p a sc).1]) else (tyZ, false)) else (tyZ, false) := by
  rw [tImp.eq_def]; rfl
theorem tImp_let0 (h : l.length ≠ 2) : tImp p (.mk 5 n v ty l) sc = (tyZ, false) := by
  rw [tImp.eq_def]
  match l, h with
  | [], _ => rfl
  | [_], _ => rfl
  | [_, _], h => exact absurd rfl h
  | _ :: _ :: _ :: _, _ => rfl
def Ty.kd : Ty → Int
  | .mk k _ _ => k
def Ty.vl : Ty → Int
  | .mk _ v _ => v
def Ty.ar : Ty → List Ty
  | .mk _ _ l => l
theorem tImp_case (a b : Expr) (r : List Expr) : tImp p (.mk 6 n v ty (a :: b :: r)) sc = if onlyC (.mk 6 n v ty (a :: b :: r)) false false false (-1) then
    (if (tImp p a sc).2 then (if (tImp p a sc).1.kd = 0 ∧ (tImp p a sc).1.vl = ((b :: r).length : Int) then ((tImp p b sc).1, casesC p sc (tImp p b sc).1 r (tImp p b sc).2) else (tyZ, false)) else (tyZ, false)) else (tyZ, false) := by
  have hf : ∀ f b, r.attach.foldl (fun ok c => ok && (tImp p c.1 sc).2 && decide (f = (tImp p c.1 sc).1)) b = casesC p sc f r b :=
    fun f b => List.foldl_attach (f := fun ok c => ok && (tImp p c sc).2 && decide (f = (tImp p c sc).1))
  rw [tImp.eq_def]
  dsimp only
  simp only [hf]
  generalize tImp p a sc = T
  obtain ⟨⟨k, w, m⟩, t⟩ := T
  rfl
theorem tImp_case0 (h : l.length < 2) : tImp p (.mk 6 n v ty l) sc = (tyZ, false) := by
  rw [tImp.eq_def]
  match l, h with
  | [], _ => rfl
  | [_], _ => rfl
  | _ :: _ :: _, h => exact absurd h (by simp)
theorem tImp_other (k : Int) (h : k < 0 ∨ 8 < k) : tImp p (.mk k n v ty l) sc = (tyZ, false) := by
  rw [tImp.eq_def]
  dsimp only
  rw [if_neg (by omega), if_neg (by omega), if_neg (by omega), if_neg (by omega), if_neg (by omega), if_neg (by omega), if_neg (by omega), if_neg (by omega), if_neg (by omega)]
end

/-- The kinds, one by one. -/
theorem kind9 (k : Int) : k = 0 ∨ k = 1 ∨ k = 2 ∨ k = 3 ∨ k = 4 ∨ k = 5 ∨ k = 6 ∨ k = 7 ∨ k = 8 ∨ (k < 0 ∨ 8 < k) := by omega

theorem Expr.sind {motive : Expr → Prop} (h : ∀ k n v ty l, (∀ x ∈ l, motive x) → motive (.mk k n v ty l)) : ∀ e, motive e
  | .mk k n v ty l => h k n v ty l fun x hx => Expr.sind h x
termination_by e => SizeOf.sizeOf e
decreasing_by (have := List.sizeOf_lt_of_mem hx; simp; omega)

theorem len1 {α : Type} {l : List α} (h : l.length = 1) : ∃ a, l = [a] := by
  match l, h with
  | [a], _ => exact ⟨a, rfl⟩
theorem len2 {α : Type} {l : List α} (h : l.length = 2) : ∃ a b, l = [a, b] := by
  match l, h with
  | [a, b], _ => exact ⟨a, b, rfl⟩

/-- A type. -/
def Ty.V (t : Ty) : Prop := (tyC t 20).1 = true

mutual
theorem tyC_mono : ∀ (t : Ty) (n m : Int), n ≤ m → (tyC t n).1 = true → (tyC t m).1 = true ∧ (tyC t n).2 - n = (tyC t m).2 - m
  | .mk k v l, n, m, h, ht => by
    simp only [tyC] at ht ⊢
    split at ht
    · simp at ht
    · rw [if_neg (by omega)]
      rename_i h1
      rw [if_neg h1]
      split
      · rename_i hk
        rw [if_pos hk] at ht
        exact ⟨ht, by simp; omega⟩
      · rename_i hk
        rw [if_neg hk] at ht
        split
        · rename_i hk1
          rw [if_pos hk1] at ht
          split at ht
          · rename_i h2
            rw [if_pos h2, if_pos h2]
            have := tyCs_mono l (n - 1) (m - 1) (by omega) ht
            exact ⟨this.1, by omega⟩
          · simp at ht
        · rename_i hk1
          rw [if_neg hk1] at ht
          simp at ht
theorem tyCs_mono : ∀ (l : List Ty) (n m : Int), n ≤ m → (tyCs l n).1 = true → (tyCs l m).1 = true ∧ (tyCs l n).2 - n = (tyCs l m).2 - m
  | [], n, m, _, _ => by simp [tyCs]
  | t :: l, n, m, h, ht => by
    simp only [tyCs] at ht ⊢
    split at ht
    · rename_i h1
      have h2 := tyC_mono t n m h h1
      rw [if_pos h1, if_pos h2.1]
      have h3 := tyCs_mono l (tyC t n).2 (tyC t m).2 (by omega) ht
      exact ⟨h3.1, by omega⟩
    · simp at ht
end

theorem V_two {k v : Int} {l : List Ty} (h : (Ty.mk k v l).V) (hk : k = 1) : ∃ a b, l = [a, b] ∧ a.V ∧ b.V ∧ v = 0 := by
  subst hk
  unfold Ty.V at h ⊢
  simp only [tyC, show ¬ ((20 : Int) - 1 < 0) by omega, show ¬ ((1 : Int) = 0) by omega, if_false, if_true] at h
  split at h
  · rename_i h2
    obtain ⟨hv, hl⟩ := h2
    match l, hl with
    | [a, b], _ =>
      simp only [tyCs] at h
      split at h
      · rename_i ha
        split at h
        · rename_i hb
          have hbd := tyC_bound a (20 - 1) (by omega)
          exact ⟨a, b, rfl, (tyC_mono a (20 - 1) 20 (by omega) ha).1, (tyC_mono b _ 20 (by omega) hb).1, hv⟩
        · simp at h
      · simp at h
  · simp at h

theorem V_fin {k : Int} (h1 : 1 ≤ k) (h2 : k ≤ 4) : (tyF k).V := by
  unfold Ty.V tyF
  simp [tyC, h1, h2]

theorem V_kd0 {k v : Int} {l : List Ty} (h : (Ty.mk k v l).V) (hk : k = 0) : 1 ≤ v ∧ v ≤ 4 ∧ l = [] := by
  subst hk
  unfold Ty.V at h
  simpa [tyC, and_assoc] using h

theorem appC_V {f x : Ty} (hf : f.V) (h : (appC f x).2 = true) : (appC f x).1.V ∧ ∃ t u, f = .mk 1 0 [t, u] ∧ t = x ∧ (appC f x).1 = u := by
  obtain ⟨k, v, l⟩ := f
  by_cases hk : k = 1
  · obtain ⟨a, b, rfl, ha, hb, rfl⟩ := V_two hf hk
    subst hk
    rw [appC_two] at h ⊢
    split
    · rename_i e
      exact ⟨hb, a, b, rfl, e, rfl⟩
    · rename_i e
      rw [if_neg e] at h
      simp at h
  · rw [appC_ne hk] at h
    simp at h

theorem casesC_true {p : Prog} {sc : List Ty} {f : Ty} : ∀ {r : List Expr} {b : Bool}, casesC p sc f r b = true → b = true ∧ ∀ c ∈ r, (tImp p c sc).2 = true ∧ f = (tImp p c sc).1
  | [], b, h => ⟨h, by simp⟩
  | c :: r, b, h => by
    have h' : casesC p sc f r (b && (tImp p c sc).2 && decide (f = (tImp p c sc).1)) = true := h
    obtain ⟨h1, h2⟩ := casesC_true h'
    simp only [Bool.and_eq_true, decide_eq_true_eq] at h1
    exact ⟨h1.1.1, fun x hx => by
      rcases List.mem_cons.1 hx with rfl | hx
      · exact ⟨h1.1.2, h1.2⟩
      · exact h2 x hx⟩

theorem tImp_V (p : Prog) (hd : ∀ d ∈ p.defs, d.param.V ∧ d.result.V) : ∀ (e : Expr) (sc : List Ty), (∀ t ∈ sc, t.V) → (tImp p e sc).2 = true → (tImp p e sc).1.V := by
  intro e
  induction e using Expr.sind with
  | _ k n v ty l ih =>
    intro sc hs h
    rcases kind9 k with rfl | rfl | rfl | rfl | rfl | rfl | rfl | rfl | rfl | hk
    · rw [tImp_const] at h ⊢
      simp only [Bool.and_eq_true, decide_eq_true_eq] at h
      exact V_fin h.1.1.1.2 h.1.1.2
    · rw [tImp_var] at h ⊢
      split
      · rename_i h1
        rw [if_pos h1] at h
        split
        · rename_i t ht
          exact hs t (List.mem_of_getElem? ht)
        · rename_i ht
          rw [ht] at h
          simp at h
      · rename_i h1
        rw [if_neg h1] at h
        simp at h
    · rw [tImp_fun] at h ⊢
      split
      · rename_i h1
        rw [if_pos h1] at h
        split
        · rename_i t ht
          rw [ht] at h
          exact h
        · rename_i ht
          rw [ht] at h
          simp at h
      · rename_i h1
        rw [if_neg h1] at h
        simp at h
    · by_cases hl : l.length = 2
      · obtain ⟨a, b, rfl⟩ := len2 hl
        · have iha := ih a (by simp)
          have ihb := ih b (by simp)
          rw [tImp_app] at h ⊢
          split
          · rename_i h1
            rw [if_pos h1] at h
            split
            · rename_i h2
              rw [if_pos h2] at h
              simp only [Bool.and_eq_true] at h2
              exact (appC_V (iha sc hs h2.1) h).1
            · rename_i h2
              rw [if_neg h2] at h
              simp at h
          · rename_i h1
            rw [if_neg h1] at h
            simp at h
      · rw [tImp_app0 _ _ _ _ _ _ hl] at h
        simp at h
    · by_cases hl : l.length = 1
      · obtain ⟨a, rfl⟩ := len1 hl
        · have iha := ih a (by simp)
          rw [tImp_lam] at h ⊢
          split
          · rename_i h1
            rw [if_pos h1] at h
            split
            · rename_i h2
              simp only [Bool.and_eq_true] at h2
              exact h2.2
            · rename_i h2
              rw [if_neg h2] at h
              simp at h
          · rename_i h1
            rw [if_neg h1] at h
            simp at h
      · rw [tImp_lam0 _ _ _ _ _ _ hl] at h
        simp at h
    · by_cases hl : l.length = 2
      · obtain ⟨a, b, rfl⟩ := len2 hl
        · have iha := ih a (by simp)
          have ihb := ih b (by simp)
          rw [tImp_let] at h ⊢
          split
          · rename_i h1
            rw [if_pos h1] at h
            split
            · rename_i h2
              rw [if_pos h2] at h
              exact ihb _ (fun t ht => by
                rcases List.mem_append.1 ht with ht | ht
                · exact hs t ht
                · simp only [List.mem_singleton] at ht
                  rw [ht]
                  exact iha sc hs h2) h
            · rename_i h2
              rw [if_neg h2] at h
              simp at h
          · rename_i h1
            rw [if_neg h1] at h
            simp at h
      · rw [tImp_let0 _ _ _ _ _ _ hl] at h
        simp at h
    · rcases l with _ | ⟨a, _ | ⟨b, r⟩⟩
      · rw [tImp_case0 _ _ _ _ _ _ (by simp)] at h; simp at h
      · rw [tImp_case0 _ _ _ _ _ _ (by simp)] at h; simp at h
      · have ihb := ih b (by simp)
        rw [tImp_case] at h ⊢
        split
        · rename_i h1
          rw [if_pos h1] at h
          split
          · rename_i h2
            rw [if_pos h2] at h
            split
            · rename_i h3
              rw [if_pos h3] at h
              exact ihb sc hs (casesC_true h).1
            · rename_i h3
              rw [if_neg h3] at h
              simp at h
          · rename_i h2
            rw [if_neg h2] at h
            simp at h
        · rename_i h1
          rw [if_neg h1] at h
          simp at h
    · by_cases hl : l.length = 1
      · obtain ⟨a, rfl⟩ := len1 hl
        · have iha := ih a (by simp)
          rw [tImp_event] at h ⊢
          split
          · rename_i h1
            rw [if_pos h1] at h
            exact iha sc hs h
          · rename_i h1
            rw [if_neg h1] at h
            simp at h
      · rw [tImp_event0 _ _ _ _ _ _ hl] at h
        simp at h
    · rw [tImp_pick] at h ⊢
      simp only [Bool.and_eq_true, decide_eq_true_eq] at h
      exact V_fin h.1.2 h.2
    · rw [tImp_other _ _ _ _ _ _ _ hk] at h
      simp at h

end Go.Ae

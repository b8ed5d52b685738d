/- source.Lang.Type: the kinds without sub-expressions. .. (AeNNF11, AeNNF12, AeNNF13, AeNNF14, AeNNF15, AeNNF16, AeNNF17, AeNNF18) -/
import Derived.Test.YtcmlbbgbfgikaaaDoorT5
set_option linter.unusedSimpArgs false
set_option linter.unusedVariables false
/- source.Lang.Type: the kinds without sub-expressions. -/
namespace Go.Ae
open Go.Proofs

theorem type_const (es : List ByteArray) (ds : List Def) (mk mn mv mtk mtv : Int) (mtl : List Ty) (ml : List Expr) (sc : List Ty) (n v tk tv : Int) (tl : List Ty) (l : List Expr) :
    SoundCall Tryd.prog 22 [.agg [B true], .agg (Prog.enc ⟨es, ds, .mk mk mn mv (.mk mtk mtv mtl) ml⟩), .sl 3 (Ty.encs sc) false, .agg (Expr.mk 0 n v (.mk tk tv tl) l).enc] []
      (.tup [.agg (tyF v).enc, B (onlyC (.mk 0 n v (.mk tk tv tl) l) true true false 0 && decide (1 ≤ v) && decide (v ≤ 4) && decide (0 ≤ n) && decide (n < v))]) [] := by
  have ho := only_ 0 n v tk tv tl l true true false 0
  have hf := fin_0 v
  generalize onlyC (.mk 0 n v (.mk tk tv tl) l) true true false 0 = E at ho ⊢
  cases E with
  | true =>
    rcases dsp (1 ≤ v) with ⟨hb1, hb1'⟩ | ⟨hb1, hb1'⟩
    · skip
      rcases dsp (v ≤ 4) with ⟨hb2, hb2'⟩ | ⟨hb2, hb2'⟩
      · skip
        rcases dsp (0 ≤ n) with ⟨hb3, hb3'⟩ | ⟨hb3, hb3'⟩
        · skip
          rcases dsp (n < v) with ⟨hb4, hb4'⟩ | ⟨hb4, hb4'⟩
          · skip
            exact Fn.go KT Tryd.func22 [.reg [] [], .reg [] [], .reg [] [], .reg [] [(2, .call (AV.agg [I 0, I v, AV.sl 3 [] false]) []), (4, .call (B true) []), (8, .bit true), (13, .bit true), (18, .bit true), (25, .bit true)]] [.tidO 3 [none, none, some 3]] [] (AV.tup [AV.agg [I 0, I v, AV.sl 3 [] false], B true]) ([]) (by kernel_rfl) (ob1 (hf) (ob1 (ho) (q (decide (1 ≤ v) = true) (q (decide (v ≤ 4) = true) (q (decide (0 ≤ n) = true) (q (decide (n < v) = true) ob0)))))) (by (simp only [tyF, Ty.enc, Ty.encs, *, decide_true, decide_false, Bool.and_true, Bool.and_false, Bool.true_and, Bool.false_and])) (by first | rfl | (simp [*]; done))
          · skip
            exact Fn.go KT Tryd.func22 [.reg [] [], .reg [] [], .reg [] [], .reg [] [(2, .call (AV.agg [I 0, I v, AV.sl 3 [] false]) []), (4, .call (B true) []), (8, .bit true), (13, .bit true), (18, .bit true), (25, .bit false)]] [.tidO 3 [none, none, some 3]] [] (AV.tup [AV.agg [I 0, I v, AV.sl 3 [] false], B false]) ([]) (by kernel_rfl) (ob1 (hf) (ob1 (ho) (q (decide (1 ≤ v) = true) (q (decide (v ≤ 4) = true) (q (decide (0 ≤ n) = true) (q (decide (n < v) = false) ob0)))))) (by (simp only [tyF, Ty.enc, Ty.encs, *, decide_true, decide_false, Bool.and_true, Bool.and_false, Bool.true_and, Bool.false_and])) (by first | rfl | (simp [*]; done))
        · skip
          exact Fn.go KT Tryd.func22 [.reg [] [], .reg [] [], .reg [] [], .reg [] [(2, .call (AV.agg [I 0, I v, AV.sl 3 [] false]) []), (4, .call (B true) []), (8, .bit true), (13, .bit true), (18, .bit false)]] [.tidO 3 [none, none, some 3]] [] (AV.tup [AV.agg [I 0, I v, AV.sl 3 [] false], B false]) ([]) (by kernel_rfl) (ob1 (hf) (ob1 (ho) (q (decide (1 ≤ v) = true) (q (decide (v ≤ 4) = true) (q (decide (0 ≤ n) = false) ob0))))) (by (simp only [tyF, Ty.enc, Ty.encs, *, decide_true, decide_false, Bool.and_true, Bool.and_false, Bool.true_and, Bool.false_and])) (by first | rfl | (simp [*]; done))
      · skip
        exact Fn.go KT Tryd.func22 [.reg [] [], .reg [] [], .reg [] [], .reg [] [(2, .call (AV.agg [I 0, I v, AV.sl 3 [] false]) []), (4, .call (B true) []), (8, .bit true), (13, .bit false)]] [.tidO 3 [none, none, some 3]] [] (AV.tup [AV.agg [I 0, I v, AV.sl 3 [] false], B false]) ([]) (by kernel_rfl) (ob1 (hf) (ob1 (ho) (q (decide (1 ≤ v) = true) (q (decide (v ≤ 4) = false) ob0)))) (by (simp only [tyF, Ty.enc, Ty.encs, *, decide_true, decide_false, Bool.and_true, Bool.and_false, Bool.true_and, Bool.false_and])) (by first | rfl | (simp [*]; done))
    · skip
      exact Fn.go KT Tryd.func22 [.reg [] [], .reg [] [], .reg [] [], .reg [] [(2, .call (AV.agg [I 0, I v, AV.sl 3 [] false]) []), (4, .call (B true) []), (8, .bit false)]] [.tidO 3 [none, none, some 3]] [] (AV.tup [AV.agg [I 0, I v, AV.sl 3 [] false], B false]) ([]) (by kernel_rfl) (ob1 (hf) (ob1 (ho) (q (decide (1 ≤ v) = false) ob0))) (by (simp only [tyF, Ty.enc, Ty.encs, *, decide_true, decide_false, Bool.and_true, Bool.and_false, Bool.true_and, Bool.false_and])) (by first | rfl | (simp [*]; done))
  | false =>
    exact Fn.go KT Tryd.func22 [.reg [] [], .reg [] [], .reg [] [], .reg [] [(2, .call (AV.agg [I 0, I v, AV.sl 3 [] false]) []), (4, .call (B false) [])]] [.tidO 3 [none, none, some 3]] [] (AV.tup [AV.agg [I 0, I v, AV.sl 3 [] false], B false]) ([]) (by kernel_rfl) (ob1 (hf) (ob1 (ho) ob0))

theorem type_pick (es : List ByteArray) (ds : List Def) (mk mn mv mtk mtv : Int) (mtl : List Ty) (ml : List Expr) (sc : List Ty) (n v tk tv : Int) (tl : List Ty) (l : List Expr) :
    SoundCall Tryd.prog 22 [.agg [B true], .agg (Prog.enc ⟨es, ds, .mk mk mn mv (.mk mtk mtv mtl) ml⟩), .sl 3 (Ty.encs sc) false, .agg (Expr.mk 8 n v (.mk tk tv tl) l).enc] []
      (.tup [.agg (tyF v).enc, B (onlyC (.mk 8 n v (.mk tk tv tl) l) false true false 0 && decide (1 ≤ v) && decide (v ≤ 4))]) [] := by
  have ho := only_ 8 n v tk tv tl l false true false 0
  have hf := fin_0 v
  generalize onlyC (.mk 8 n v (.mk tk tv tl) l) false true false 0 = E at ho ⊢
  cases E with
  | true =>
    rcases dsp (1 ≤ v) with ⟨hb1, hb1'⟩ | ⟨hb1, hb1'⟩
    · skip
      rcases dsp (v ≤ 4) with ⟨hb2, hb2'⟩ | ⟨hb2, hb2'⟩
      · skip
        exact Fn.go KT Tryd.func22 [.reg [] [], .reg [] [], .reg [] [], .reg [] [], .reg [] [(2, .call (AV.agg [I 0, I v, AV.sl 3 [] false]) []), (4, .call (B true) []), (8, .bit true), (13, .bit true)]] [.tidO 3 [none, none, some 3]] [] (AV.tup [AV.agg [I 0, I v, AV.sl 3 [] false], B true]) ([]) (by kernel_rfl) (ob1 (hf) (ob1 (ho) (q (decide (1 ≤ v) = true) (q (decide (v ≤ 4) = true) ob0)))) (by (simp only [tyF, Ty.enc, Ty.encs, *, decide_true, decide_false, Bool.and_true, Bool.and_false, Bool.true_and, Bool.false_and])) (by first | rfl | (simp [*]; done))
      · skip
        exact Fn.go KT Tryd.func22 [.reg [] [], .reg [] [], .reg [] [], .reg [] [], .reg [] [(2, .call (AV.agg [I 0, I v, AV.sl 3 [] false]) []), (4, .call (B true) []), (8, .bit true), (13, .bit false)]] [.tidO 3 [none, none, some 3]] [] (AV.tup [AV.agg [I 0, I v, AV.sl 3 [] false], B false]) ([]) (by kernel_rfl) (ob1 (hf) (ob1 (ho) (q (decide (1 ≤ v) = true) (q (decide (v ≤ 4) = false) ob0)))) (by (simp only [tyF, Ty.enc, Ty.encs, *, decide_true, decide_false, Bool.and_true, Bool.and_false, Bool.true_and, Bool.false_and])) (by first | rfl | (simp [*]; done))
    · skip
      exact Fn.go KT Tryd.func22 [.reg [] [], .reg [] [], .reg [] [], .reg [] [], .reg [] [(2, .call (AV.agg [I 0, I v, AV.sl 3 [] false]) []), (4, .call (B true) []), (8, .bit false)]] [.tidO 3 [none, none, some 3]] [] (AV.tup [AV.agg [I 0, I v, AV.sl 3 [] false], B false]) ([]) (by kernel_rfl) (ob1 (hf) (ob1 (ho) (q (decide (1 ≤ v) = false) ob0))) (by (simp only [tyF, Ty.enc, Ty.encs, *, decide_true, decide_false, Bool.and_true, Bool.and_false, Bool.true_and, Bool.false_and])) (by first | rfl | (simp [*]; done))
  | false =>
    exact Fn.go KT Tryd.func22 [.reg [] [], .reg [] [], .reg [] [], .reg [] [], .reg [] [(2, .call (AV.agg [I 0, I v, AV.sl 3 [] false]) []), (4, .call (B false) [])]] [.tidO 3 [none, none, some 3]] [] (AV.tup [AV.agg [I 0, I v, AV.sl 3 [] false], B false]) ([]) (by kernel_rfl) (ob1 (hf) (ob1 (ho) ob0))

theorem type_var (es : List ByteArray) (ds : List Def) (mk mn mv mtk mtv : Int) (mtl : List Ty) (ml : List Expr) (sc : List Ty) (n v tk tv : Int) (tl : List Ty) (l : List Expr) (hs : sc.length ≤ 1000) :
    SoundCall Tryd.prog 22 [.agg [B true], .agg (Prog.enc ⟨es, ds, .mk mk mn mv (.mk mtk mtv mtl) ml⟩), .sl 3 (Ty.encs sc) false, .agg (Expr.mk 1 n v (.mk tk tv tl) l).enc] []
      (.tup [.agg (tImp ⟨es, ds, .mk mk mn mv (.mk mtk mtv mtl) ml⟩ (.mk 1 n v (.mk tk tv tl) l) sc).1.enc, B (tImp ⟨es, ds, .mk mk mn mv (.mk mtk mtv mtl) ml⟩ (.mk 1 n v (.mk tk tv tl) l) sc).2]) [] := by
  have ho := only_ 1 n v tk tv tl l true false false 0
  rw [tImp.eq_def]
  dsimp only
  simp only [show ¬ (1 : Int) = 0 by omega, show ¬ (1 : Int) = 8 by omega, if_false, if_true]
  generalize onlyC (.mk 1 n v (.mk tk tv tl) l) true false false 0 = E at ho ⊢
  cases E with
  | true =>
    by_cases h1 : 0 ≤ n
    · by_cases h2 : n < (sc.length : Int)
      · have hj : sc.length - 1 - n.toNat < sc.length := by omega
        obtain ⟨ka, va, la, hg⟩ : ∃ ka va la, sc[sc.length - 1 - n.toNat]? = some (Ty.mk ka va la) := by
          rcases hx : sc[sc.length - 1 - n.toNat]'hj with ⟨ka, va, la⟩
          exact ⟨ka, va, la, by rw [List.getElem?_eq_getElem hj, hx]⟩
        have hx : (Ty.encs sc)[sc.length - 1 - n.toNat]? = some (Ty.mk ka va la).enc := by rw [Ty.encs_get, hg]; rfl
        simp only [decide_eq_true h1, decide_eq_true h2, Bool.and_true, if_true, hg]
        exact Fn.go KT Tryd.func22 [.reg [] [], .reg [] [], .reg [] [], .reg [] [], .reg [] [], .reg [] [(1, .call (B true) []), (6, .bit false), (12, .int (↑(List.length sc) : Int)), (13, .bit false)], .reg [] [(2, .int (↑(List.length sc) : Int)), (3, .int ((↑(List.length sc) : Int) - 1)), (6, .int ((↑(List.length sc) : Int) - 1 - n)), (7, .row (List.length sc - 1 - Int.toNat n) (Ty.enc (Ty.mk ka va la)))]] [.tidO 3 [none, none, some 3]] [] (AV.tup [AV.agg [I ka, I va, AV.sl 3 (Ty.encs la) false], B true]) ([]) (by kernel_rfl) (ob1 (ho) (q (decide (n < 0) = false) (q ((↑(List.length (Ty.encs sc)) : Int) = (↑(List.length sc) : Int)) (q (decide ((↑(List.length sc) : Int) ≤ n) = false) (q ((↑(List.length (Ty.encs sc)) : Int) = (↑(List.length sc) : Int)) (qw ((↑(List.length sc) : Int) - 1) (qw ((↑(List.length sc) : Int) - 1 - n) (q ((↑(List.length sc) : Int) - 1 - n = (↑(List.length sc - 1 - Int.toNat n) : Int)) (q ((Ty.encs sc)[List.length sc - 1 - Int.toNat n]? = some (Ty.enc (Ty.mk ka va la))) ob0)))))))))
      · simp only [decide_eq_false h2, Bool.and_false, Bool.false_eq_true, if_false]
        exact Fn.go KT Tryd.func22 [.reg [] [], .reg [] [], .reg [] [], .reg [] [], .reg [] [], .reg [] [(1, .call (B true) []), (6, .bit false), (12, .int (↑(List.length sc) : Int)), (13, .bit true)], .reg [] []] [.tidO 3 [none, none, some 3]] [] (AV.tup [AV.agg [I 0, I 0, AV.sl 3 [] false], B false]) ([]) (by kernel_rfl) (ob1 (ho) (q (decide (n < 0) = false) (q ((↑(List.length (Ty.encs sc)) : Int) = (↑(List.length sc) : Int)) (q (decide ((↑(List.length sc) : Int) ≤ n) = true) ob0))))
    · simp only [decide_eq_false h1, Bool.and_false, Bool.false_and, Bool.false_eq_true, if_false]
      exact Fn.go KT Tryd.func22 [.reg [] [], .reg [] [], .reg [] [], .reg [] [], .reg [] [], .reg [] [(1, .call (B true) []), (6, .bit true)], .reg [] []] [.tidO 3 [none, none, some 3]] [] (AV.tup [AV.agg [I 0, I 0, AV.sl 3 [] false], B false]) ([]) (by kernel_rfl) (ob1 (ho) (q (decide (n < 0) = true) ob0))
  | false =>
    simp only [Bool.false_and, Bool.false_eq_true, if_false]
    exact Fn.go KT Tryd.func22 [.reg [] [], .reg [] [], .reg [] [], .reg [] [], .reg [] [], .reg [] [(1, .call (B false) [])], .reg [] []] [.tidO 3 [none, none, some 3]] [] (AV.tup [AV.agg [I 0, I 0, AV.sl 3 [] false], B false]) ([]) (by kernel_rfl) (ob1 (ho) ob0)

end Go.Ae

/- source.Lang.Type of an EFun. -/
namespace Go.Ae
open Go.Proofs

theorem type_fun (es : List ByteArray) (ds : List Def) (mk mn mv mtk mtv : Int) (mtl : List Ty) (ml : List Expr) (sc : List Ty) (n v tk tv : Int) (tl : List Ty) (l : List Expr) (hs : ds.length ≤ 1000) (hd : ∀ d ∈ ds, d.ok) :
    SoundCall Tryd.prog 22 [.agg [B true], .agg (Prog.enc ⟨es, ds, .mk mk mn mv (.mk mtk mtv mtl) ml⟩), .sl 3 (Ty.encs sc) false, .agg (Expr.mk 2 n v (.mk tk tv tl) l).enc] []
      (.tup [.agg (tImp ⟨es, ds, .mk mk mn mv (.mk mtk mtv mtl) ml⟩ (.mk 2 n v (.mk tk tv tl) l) sc).1.enc, B (tImp ⟨es, ds, .mk mk mn mv (.mk mtk mtv mtl) ml⟩ (.mk 2 n v (.mk tk tv tl) l) sc).2]) [] := by
  have ho := only_ 2 n v tk tv tl l true false false 0
  rw [tImp.eq_def]
  dsimp only
  simp only [show ¬ (2 : Int) = 0 by omega, show ¬ (2 : Int) = 8 by omega, show ¬ (2 : Int) = 1 by omega, if_false, if_true]
  generalize onlyC (.mk 2 n v (.mk tk tv tl) l) true false false 0 = E at ho ⊢
  cases E with
  | true =>
    by_cases h1 : 0 ≤ n
    · by_cases h2 : n < (ds.length : Int)
      · have hj : n.toNat < ds.length := by omega
        obtain ⟨nm, ka, va, la, kb, vb, lb, bk, bn, bv, btk, btv, btl, bl, hg⟩ : ∃ nm ka va la kb vb lb bk bn bv btk btv btl bl, ds[n.toNat]? = some (Def.mk nm (.mk ka va la) (.mk kb vb lb) (.mk bk bn bv (.mk btk btv btl) bl)) := by
          rcases hx : ds[n.toNat]'hj with ⟨nm, ⟨ka, va, la⟩, ⟨kb, vb, lb⟩, ⟨bk, bn, bv, ⟨btk, btv, btl⟩, bl⟩⟩
          exact ⟨_, _, _, _, _, _, _, _, _, _, _, _, _, _, by rw [List.getElem?_eq_getElem hj, hx]⟩
        have hok := hd _ (List.mem_of_getElem? hg)
        have hx : (Def.encs ds)[n.toNat]? = some (Def.mk nm (.mk ka va la) (.mk kb vb lb) (.mk bk bn bv (.mk btk btv btl) bl)).enc := by rw [Def.encs_get, hg]; rfl
        have ht := isTy_ (.mk 1 0 [.mk ka va la, .mk kb vb lb]) ⟨by unfold ir; omega, by unfold ir; omega, by simp, hok.2.1, hok.2.2.1, trivial⟩
        simp only [decide_eq_true h1, decide_eq_true h2, Bool.and_true, if_true, hg]
        generalize (tyC (.mk 1 0 [.mk ka va la, .mk kb vb lb]) 20).1 = E2 at ht ⊢
        clear hok hd
        cases E2 with
        | true => 
          exact Fn.go KT Tryd.func22 [.reg [] [], .reg [] [], .reg [] [], .reg [] [], .reg [] [], .reg [] [], .reg [] [(1, .call (B true) []), (6, .bit false), (13, .int (↑(List.length ds) : Int)), (14, .bit false)], .reg [] [(4, .row (Int.toNat n) (Def.enc { name := nm, param := Ty.mk ka va la, result := Ty.mk kb vb lb, body := Expr.mk bk bn bv (Ty.mk btk btv btl) bl })), (11, .row (Int.toNat n) (Def.enc { name := nm, param := Ty.mk ka va la, result := Ty.mk kb vb lb, body := Expr.mk bk bn bv (Ty.mk btk btv btl) bl }))], .reg [] [(3, .call (B true) [])]] [.tidO 3 [none, none, some 3]] [] (AV.tup [AV.agg [I 1, I 0, AV.sl 3 [[I ka, I va, AV.sl 3 (Ty.encs la) false], [I kb, I vb, AV.sl 3 (Ty.encs lb) false]] false], B true]) ([]) (by kernel_rfl) (ob1 (ho) (q (decide (n < 0) = false) (q ((↑(List.length (Def.encs ds)) : Int) = (↑(List.length ds) : Int)) (q (decide ((↑(List.length ds) : Int) ≤ n) = false) (q (n = (↑(Int.toNat n) : Int)) (q ((Def.encs ds)[Int.toNat n]? = some (Def.enc { name := nm, param := Ty.mk ka va la, result := Ty.mk kb vb lb, body := Expr.mk bk bn bv (Ty.mk btk btv btl) bl })) (q (n = (↑(Int.toNat n) : Int)) (q ((Def.encs ds)[Int.toNat n]? = some (Def.enc { name := nm, param := Ty.mk ka va la, result := Ty.mk kb vb lb, body := Expr.mk bk bn bv (Ty.mk btk btv btl) bl })) (ob1 (ht) ob0)))))))))
        | false => 
          exact Fn.go KT Tryd.func22 [.reg [] [], .reg [] [], .reg [] [], .reg [] [], .reg [] [], .reg [] [], .reg [] [(1, .call (B true) []), (6, .bit false), (13, .int (↑(List.length ds) : Int)), (14, .bit false)], .reg [] [(4, .row (Int.toNat n) (Def.enc { name := nm, param := Ty.mk ka va la, result := Ty.mk kb vb lb, body := Expr.mk bk bn bv (Ty.mk btk btv btl) bl })), (11, .row (Int.toNat n) (Def.enc { name := nm, param := Ty.mk ka va la, result := Ty.mk kb vb lb, body := Expr.mk bk bn bv (Ty.mk btk btv btl) bl }))], .reg [] [(3, .call (B false) [])]] [.tidO 3 [none, none, some 3]] [] (AV.tup [AV.agg [I 1, I 0, AV.sl 3 [[I ka, I va, AV.sl 3 (Ty.encs la) false], [I kb, I vb, AV.sl 3 (Ty.encs lb) false]] false], B false]) ([]) (by kernel_rfl) (ob1 (ho) (q (decide (n < 0) = false) (q ((↑(List.length (Def.encs ds)) : Int) = (↑(List.length ds) : Int)) (q (decide ((↑(List.length ds) : Int) ≤ n) = false) (q (n = (↑(Int.toNat n) : Int)) (q ((Def.encs ds)[Int.toNat n]? = some (Def.enc { name := nm, param := Ty.mk ka va la, result := Ty.mk kb vb lb, body := Expr.mk bk bn bv (Ty.mk btk btv btl) bl })) (q (n = (↑(Int.toNat n) : Int)) (q ((Def.encs ds)[Int.toNat n]? = some (Def.enc { name := nm, param := Ty.mk ka va la, result := Ty.mk kb vb lb, body := Expr.mk bk bn bv (Ty.mk btk btv btl) bl })) (ob1 (ht) ob0)))))))))
      · simp only [decide_eq_false h2, Bool.and_false, Bool.false_eq_true, if_false]
        exact Fn.go KT Tryd.func22 [.reg [] [], .reg [] [], .reg [] [], .reg [] [], .reg [] [], .reg [] [], .reg [] [(1, .call (B true) []), (6, .bit false), (13, .int (↑(List.length ds) : Int)), (14, .bit true)], .reg [] []] [.tidO 3 [none, none, some 3]] [] (AV.tup [AV.agg [I 0, I 0, AV.sl 3 [] false], B false]) ([]) (by kernel_rfl) (ob1 (ho) (q (decide (n < 0) = false) (q ((↑(List.length (Def.encs ds)) : Int) = (↑(List.length ds) : Int)) (q (decide ((↑(List.length ds) : Int) ≤ n) = true) ob0))))
    · simp only [decide_eq_false h1, Bool.and_false, Bool.false_and, Bool.false_eq_true, if_false]
      exact Fn.go KT Tryd.func22 [.reg [] [], .reg [] [], .reg [] [], .reg [] [], .reg [] [], .reg [] [], .reg [] [(1, .call (B true) []), (6, .bit true)], .reg [] []] [.tidO 3 [none, none, some 3]] [] (AV.tup [AV.agg [I 0, I 0, AV.sl 3 [] false], B false]) ([]) (by kernel_rfl) (ob1 (ho) (q (decide (n < 0) = true) ob0))
  | false =>
    simp only [Bool.false_and, Bool.false_eq_true, if_false]
    exact Fn.go KT Tryd.func22 [.reg [] [], .reg [] [], .reg [] [], .reg [] [], .reg [] [], .reg [] [], .reg [] [(1, .call (B false) [])], .reg [] []] [.tidO 3 [none, none, some 3]] [] (AV.tup [AV.agg [I 0, I 0, AV.sl 3 [] false], B false]) ([]) (by kernel_rfl) (ob1 (ho) ob0)

end Go.Ae

/- source.Lang.Type of an EEvent. -/
namespace Go.Ae
open Go.Proofs

/-- source.Lang.Type returns what it should. -/
def TypeOk (p : Prog) (e : Expr) (sc : List Ty) : Prop :=
  SoundCall Tryd.prog 22 [.agg [B true], .agg p.enc, .sl 3 (Ty.encs sc) false, .agg e.enc] [] (.tup [.agg (tImp p e sc).1.enc, B (tImp p e sc).2]) []

theorem type_event1 (es : List ByteArray) (ds : List Def) (mk mn mv mtk mtv : Int) (mtl : List Ty) (ml : List Expr) (sc : List Ty) (n v tk tv : Int) (tl : List Ty) (ak an av atk atv : Int) (atl : List Ty) (al : List Expr) (hs : es.length ≤ 1000)
    (hr : TypeOk ⟨es, ds, .mk mk mn mv (.mk mtk mtv mtl) ml⟩ (.mk ak an av (.mk atk atv atl) al) sc) :
    TypeOk ⟨es, ds, .mk mk mn mv (.mk mtk mtv mtl) ml⟩ (.mk 7 n v (.mk tk tv tl) [.mk ak an av (.mk atk atv atl) al]) sc := by
  unfold TypeOk at hr ⊢
  have ho := only_ 7 n v tk tv tl [.mk ak an av (.mk atk atv atl) al] true false false 1
  rw [tImp.eq_def ⟨es, ds, .mk mk mn mv (.mk mtk mtv mtl) ml⟩ (.mk 7 n v (.mk tk tv tl) [.mk ak an av (.mk atk atv atl) al])]
  dsimp only
  simp only [show ¬ (7 : Int) = 0 by omega, show ¬ (7 : Int) = 8 by omega, show ¬ (7 : Int) = 1 by omega, show ¬ (7 : Int) = 2 by omega, if_false, if_true]
  generalize onlyC (.mk 7 n v (.mk tk tv tl) [.mk ak an av (.mk atk atv atl) al]) true false false 1 = E at ho ⊢
  generalize tImp ⟨es, ds, .mk mk mn mv (.mk mtk mtv mtl) ml⟩ (.mk ak an av (.mk atk atv atl) al) sc = T at hr ⊢
  obtain ⟨⟨rk, rv, rl⟩, rb⟩ := T
  cases E with
  | true =>
    by_cases h1 : 0 ≤ n
    · by_cases h2 : n < (es.length : Int)
      · simp only [decide_eq_true h1, decide_eq_true h2, Bool.and_true, if_true]
        cases rb with
        | true =>
          exact Fn.go KT Tryd.func22 [.reg [] [], .reg [] [], .reg [] [], .reg [] [], .reg [] [], .reg [] [], .reg [] [], .reg [] [(1, .call (B true) []), (6, .bit false), (13, .int (↑(List.length es) : Int)), (14, .bit false)], .reg [] [(5, .row 0 [I ak, I an, I av, I atk, I atv, AV.sl 3 (Ty.encs atl) false, AV.sl 7 (Expr.encs al) false]), (7, .call (AV.tup [AV.agg [I rk, I rv, AV.sl 3 (Ty.encs rl) false], B true]) [])]] [.tidO 3 [none, none, some 3]] [] (AV.tup [AV.agg [I rk, I rv, AV.sl 3 (Ty.encs rl) false], B true]) ([]) (by kernel_rfl) (ob1 (ho) (q (decide (n < 0) = false) (q ((↑(List.length (strs es)) : Int) = (↑(List.length es) : Int)) (q (decide ((↑(List.length es) : Int) ≤ n) = false) (q ((0 : Int) = (↑(0 : Nat) : Int)) (q ([[I ak, I an, I av, I atk, I atv, AV.sl 3 (Ty.encs atl) false, AV.sl 7 (Expr.encs al) false]][0]? = some [I ak, I an, I av, I atk, I atv, AV.sl 3 (Ty.encs atl) false, AV.sl 7 (Expr.encs al) false]) (ob1 (hr) ob0)))))))
        | false =>
          exact Fn.go KT Tryd.func22 [.reg [] [], .reg [] [], .reg [] [], .reg [] [], .reg [] [], .reg [] [], .reg [] [], .reg [] [(1, .call (B true) []), (6, .bit false), (13, .int (↑(List.length es) : Int)), (14, .bit false)], .reg [] [(5, .row 0 [I ak, I an, I av, I atk, I atv, AV.sl 3 (Ty.encs atl) false, AV.sl 7 (Expr.encs al) false]), (7, .call (AV.tup [AV.agg [I rk, I rv, AV.sl 3 (Ty.encs rl) false], B false]) [])]] [.tidO 3 [none, none, some 3]] [] (AV.tup [AV.agg [I rk, I rv, AV.sl 3 (Ty.encs rl) false], B false]) ([]) (by kernel_rfl) (ob1 (ho) (q (decide (n < 0) = false) (q ((↑(List.length (strs es)) : Int) = (↑(List.length es) : Int)) (q (decide ((↑(List.length es) : Int) ≤ n) = false) (q ((0 : Int) = (↑(0 : Nat) : Int)) (q ([[I ak, I an, I av, I atk, I atv, AV.sl 3 (Ty.encs atl) false, AV.sl 7 (Expr.encs al) false]][0]? = some [I ak, I an, I av, I atk, I atv, AV.sl 3 (Ty.encs atl) false, AV.sl 7 (Expr.encs al) false]) (ob1 (hr) ob0)))))))
      · simp only [decide_eq_false h2, Bool.and_false, Bool.false_eq_true, if_false]
        clear hr
        exact Fn.go KT Tryd.func22 [.reg [] [], .reg [] [], .reg [] [], .reg [] [], .reg [] [], .reg [] [], .reg [] [], .reg [] [(1, .call (B true) []), (6, .bit false), (13, .int (↑(List.length es) : Int)), (14, .bit true)], .reg [] []] [.tidO 3 [none, none, some 3]] [] (AV.tup [AV.agg [I 0, I 0, AV.sl 3 [] false], B false]) ([]) (by kernel_rfl) (ob1 (ho) (q (decide (n < 0) = false) (q ((↑(List.length (strs es)) : Int) = (↑(List.length es) : Int)) (q (decide ((↑(List.length es) : Int) ≤ n) = true) ob0))))
    · simp only [decide_eq_false h1, Bool.and_false, Bool.false_and, Bool.false_eq_true, if_false]
      clear hr
      exact Fn.go KT Tryd.func22 [.reg [] [], .reg [] [], .reg [] [], .reg [] [], .reg [] [], .reg [] [], .reg [] [], .reg [] [(1, .call (B true) []), (6, .bit true)], .reg [] []] [.tidO 3 [none, none, some 3]] [] (AV.tup [AV.agg [I 0, I 0, AV.sl 3 [] false], B false]) ([]) (by kernel_rfl) (ob1 (ho) (q (decide (n < 0) = true) ob0))
  | false =>
    simp only [Bool.false_and, Bool.false_eq_true, if_false]
    clear hr
    exact Fn.go KT Tryd.func22 [.reg [] [], .reg [] [], .reg [] [], .reg [] [], .reg [] [], .reg [] [], .reg [] [], .reg [] [(1, .call (B false) [])], .reg [] []] [.tidO 3 [none, none, some 3]] [] (AV.tup [AV.agg [I 0, I 0, AV.sl 3 [] false], B false]) ([]) (by kernel_rfl) (ob1 (ho) ob0)

end Go.Ae

/- source.Lang.Type of an EEvent with another number of Args. -/
namespace Go.Ae
open Go.Proofs

theorem only_len (k n v : Int) (t : Ty) (l : List Expr) (a b c : Bool) (g : Int) (h0 : 0 ≤ g) (h : (l.length : Int) ≠ g) : onlyC (.mk k n v t l) a b c g = false := by
  obtain ⟨tk, tv, tl⟩ := t
  simp only [onlyC, decide_eq_false (show ¬ g < 0 by omega), decide_eq_false h, Bool.or_false, Bool.and_false]

theorem type_event0 (es : List ByteArray) (ds : List Def) (mk mn mv mtk mtv : Int) (mtl : List Ty) (ml : List Expr) (sc : List Ty) (n v tk tv : Int) (tl : List Ty) (l : List Expr) (h : l.length ≠ 1) :
    TypeOk ⟨es, ds, .mk mk mn mv (.mk mtk mtv mtl) ml⟩ (.mk 7 n v (.mk tk tv tl) l) sc := by
  unfold TypeOk
  have ho := only_ 7 n v tk tv tl l true false false 1
  rw [only_len _ _ _ _ _ _ _ _ _ (by omega) (by omega)] at ho
  rw [show tImp ⟨es, ds, .mk mk mn mv (.mk mtk mtv mtl) ml⟩ (.mk 7 n v (.mk tk tv tl) l) sc = (tyZ, false) by
    rw [tImp.eq_def]
    dsimp only
    simp only [show ¬ (7 : Int) = 0 by omega, show ¬ (7 : Int) = 8 by omega, show ¬ (7 : Int) = 1 by omega, show ¬ (7 : Int) = 2 by omega, if_false, if_true]
    match l, h with
    | [], _ => rfl
    | [_], h => exact absurd rfl h
    | _ :: _ :: _, _ => rfl]
  exact Fn.go KT Tryd.func22 [.reg [] [], .reg [] [], .reg [] [], .reg [] [], .reg [] [], .reg [] [], .reg [] [], .reg [] [(1, .call (B false) [])], .reg [] []] [.tidO 3 [none, none, some 3]] [] (AV.tup [AV.agg [I 0, I 0, AV.sl 3 [] false], B false]) ([]) (by kernel_rfl) (ob1 (ho) ob0)

end Go.Ae

/- source.Lang.compound of an EApp. -/
namespace Go.Ae
open Go.Proofs

def CompOk (p : Prog) (e : Expr) (sc : List Ty) : Prop :=
  SoundCall Tryd.prog 37 [.agg [B true], .agg p.enc, .sl 3 (Ty.encs sc) false, .agg e.enc] [] (.tup [.agg (tImp p e sc).1.enc, B (tImp p e sc).2]) []

theorem comp_app (es : List ByteArray) (ds : List Def) (mk mn mv mtk mtv : Int) (mtl : List Ty) (ml : List Expr) (sc : List Ty) (n v tk tv : Int) (tl : List Ty)
    (ak an av atk atv : Int) (atl : List Ty) (al : List Expr) (bk bn bv btk btv : Int) (btl : List Ty) (bl : List Expr)
    (ha : TypeOk ⟨es, ds, .mk mk mn mv (.mk mtk mtv mtl) ml⟩ (.mk ak an av (.mk atk atv atl) al) sc)
    (hb : TypeOk ⟨es, ds, .mk mk mn mv (.mk mtk mtv mtl) ml⟩ (.mk bk bn bv (.mk btk btv btl) bl) sc)
    (hg : (tImp ⟨es, ds, .mk mk mn mv (.mk mtk mtv mtl) ml⟩ (.mk ak an av (.mk atk atv atl) al) sc).2 = true → ∃ k v l, (tImp ⟨es, ds, .mk mk mn mv (.mk mtk mtv mtl) ml⟩ (.mk ak an av (.mk atk atv atl) al) sc).1 = .mk k v l ∧ (k = 1 → (∃ t u, l = [t, u] ∧ t.ok))) :
    CompOk ⟨es, ds, .mk mk mn mv (.mk mtk mtv mtl) ml⟩ (.mk 3 n v (.mk tk tv tl) [.mk ak an av (.mk atk atv atl) al, .mk bk bn bv (.mk btk btv btl) bl]) sc := by
  unfold TypeOk at ha hb
  unfold CompOk
  have ho := only_ 3 n v tk tv tl [.mk ak an av (.mk atk atv atl) al, .mk bk bn bv (.mk btk btv btl) bl] false false false 2
  rw [tImp.eq_def ⟨es, ds, .mk mk mn mv (.mk mtk mtv mtl) ml⟩ (.mk 3 n v (.mk tk tv tl) [.mk ak an av (.mk atk atv atl) al, .mk bk bn bv (.mk btk btv btl) bl])]
  dsimp only
  simp only [show ¬ (3 : Int) = 0 by omega, show ¬ (3 : Int) = 8 by omega, show ¬ (3 : Int) = 1 by omega, show ¬ (3 : Int) = 2 by omega, show ¬ (3 : Int) = 7 by omega, if_false, if_true]
  generalize onlyC (.mk 3 n v (.mk tk tv tl) [.mk ak an av (.mk atk atv atl) al, .mk bk bn bv (.mk btk btv btl) bl]) false false false 2 = E at ho ⊢
  generalize tImp ⟨es, ds, .mk mk mn mv (.mk mtk mtv mtl) ml⟩ (.mk ak an av (.mk atk atv atl) al) sc = T at ha hg ⊢
  generalize tImp ⟨es, ds, .mk mk mn mv (.mk mtk mtv mtl) ml⟩ (.mk bk bn bv (.mk btk btv btl) bl) sc = U at hb ⊢
  obtain ⟨⟨rk, rv, rl⟩, rb⟩ := T
  obtain ⟨⟨uk, uv, ul⟩, ub⟩ := U
  cases E with
  | false =>
    clear ha hb hg
    simp only [Bool.false_eq_true, if_false]
    exact Fn.go KT Tryd.func37 [.reg [] [], .reg [] [], .reg [] [], .reg [] [], .reg [] [(1, .call (B false) [])], .reg [] []] [.tidO 3 [none, none, some 3]] [] (AV.tup [AV.agg [I 0, I 0, AV.sl 3 [] false], B false]) ([]) (by kernel_rfl) (ob1 (ho) ob0)
  | true =>
    simp only [if_true]
    cases rb with
    | false =>
      clear hg
      simp only [Bool.false_and, Bool.false_eq_true, if_false]
      rcases Bool.eq_false_or_eq_true (Prod.snd (Ty.mk uk uv ul, ub)) with hb1 | hb1
      · have hb1' := hb1
        try simp only [decide_eq_true_eq, decide_eq_false_iff_not, beq_iff_eq, bne_iff_ne, ne_eq, beq_eq_false_iff_ne, bne_eq_false_iff_eq, Bool.not_eq_true'] at hb1'
        exact Fn.go KT Tryd.func37 [.reg [] [], .reg [] [], .reg [] [], .reg [] [], .reg [] [(1, .call (B true) [])], .reg [] [(5, .row 0 [I ak, I an, I av, I atk, I atv, AV.sl 3 (Ty.encs atl) false, AV.sl 7 (Expr.encs al) false]), (7, .call (AV.tup [AV.agg [I rk, I rv, AV.sl 3 (Ty.encs rl) false], B false]) [])], .reg [] [(5, .row 1 [I bk, I bn, I bv, I btk, I btv, AV.sl 3 (Ty.encs btl) false, AV.sl 7 (Expr.encs bl) false]), (7, .call (AV.tup [AV.agg [I uk, I uv, AV.sl 3 (Ty.encs ul) false], B true]) [])], .reg [] [], .reg [] []] [.tidO 3 [none, none, some 3]] [] (AV.tup [AV.agg [I 0, I 0, AV.sl 3 [] false], B false]) ([]) (by kernel_rfl) (ob1 (ho) (q ((0 : Int) = (↑(0 : Nat) : Int)) (q ([[I ak, I an, I av, I atk, I atv, AV.sl 3 (Ty.encs atl) false, AV.sl 7 (Expr.encs al) false], [I bk, I bn, I bv, I btk, I btv, AV.sl 3 (Ty.encs btl) false, AV.sl 7 (Expr.encs bl) false]][0]? = some [I ak, I an, I av, I atk, I atv, AV.sl 3 (Ty.encs atl) false, AV.sl 7 (Expr.encs al) false]) (ob1 (ha) (q ((1 : Int) = (↑(1 : Nat) : Int)) (q ([[I ak, I an, I av, I atk, I atv, AV.sl 3 (Ty.encs atl) false, AV.sl 7 (Expr.encs al) false], [I bk, I bn, I bv, I btk, I btv, AV.sl 3 (Ty.encs btl) false, AV.sl 7 (Expr.encs bl) false]][1]? = some [I bk, I bn, I bv, I btk, I btv, AV.sl 3 (Ty.encs btl) false, AV.sl 7 (Expr.encs bl) false]) (ob1 (SoundCall.to (hb) (pf (AV.tup [AV.agg [I uk, I uv, AV.sl 3 (Ty.encs ul) false], B (Prod.snd (Ty.mk uk uv ul, ub))] = AV.tup [AV.agg [I uk, I uv, AV.sl 3 (Ty.encs ul) false], B true])) rfl) ob0)))))))
      · have hb1' := hb1
        try simp only [decide_eq_true_eq, decide_eq_false_iff_not, beq_iff_eq, bne_iff_ne, ne_eq, beq_eq_false_iff_ne, bne_eq_false_iff_eq, Bool.not_eq_true'] at hb1'
        exact Fn.go KT Tryd.func37 [.reg [] [], .reg [] [], .reg [] [], .reg [] [], .reg [] [(1, .call (B true) [])], .reg [] [(5, .row 0 [I ak, I an, I av, I atk, I atv, AV.sl 3 (Ty.encs atl) false, AV.sl 7 (Expr.encs al) false]), (7, .call (AV.tup [AV.agg [I rk, I rv, AV.sl 3 (Ty.encs rl) false], B false]) [])], .reg [] [(5, .row 1 [I bk, I bn, I bv, I btk, I btv, AV.sl 3 (Ty.encs btl) false, AV.sl 7 (Expr.encs bl) false]), (7, .call (AV.tup [AV.agg [I uk, I uv, AV.sl 3 (Ty.encs ul) false], B false]) [])], .reg [] [], .reg [] []] [.tidO 3 [none, none, some 3]] [] (AV.tup [AV.agg [I 0, I 0, AV.sl 3 [] false], B false]) ([]) (by kernel_rfl) (ob1 (ho) (q ((0 : Int) = (↑(0 : Nat) : Int)) (q ([[I ak, I an, I av, I atk, I atv, AV.sl 3 (Ty.encs atl) false, AV.sl 7 (Expr.encs al) false], [I bk, I bn, I bv, I btk, I btv, AV.sl 3 (Ty.encs btl) false, AV.sl 7 (Expr.encs bl) false]][0]? = some [I ak, I an, I av, I atk, I atv, AV.sl 3 (Ty.encs atl) false, AV.sl 7 (Expr.encs al) false]) (ob1 (ha) (q ((1 : Int) = (↑(1 : Nat) : Int)) (q ([[I ak, I an, I av, I atk, I atv, AV.sl 3 (Ty.encs atl) false, AV.sl 7 (Expr.encs al) false], [I bk, I bn, I bv, I btk, I btv, AV.sl 3 (Ty.encs btl) false, AV.sl 7 (Expr.encs bl) false]][1]? = some [I bk, I bn, I bv, I btk, I btv, AV.sl 3 (Ty.encs btl) false, AV.sl 7 (Expr.encs bl) false]) (ob1 (SoundCall.to (hb) (pf (AV.tup [AV.agg [I uk, I uv, AV.sl 3 (Ty.encs ul) false], B (Prod.snd (Ty.mk uk uv ul, ub))] = AV.tup [AV.agg [I uk, I uv, AV.sl 3 (Ty.encs ul) false], B false])) rfl) ob0)))))))
    | true =>
      cases ub with
      | false =>
        clear hg
        simp only [Bool.and_false, Bool.false_eq_true, if_false]
        exact Fn.go KT Tryd.func37 [.reg [] [], .reg [] [], .reg [] [], .reg [] [], .reg [] [(1, .call (B true) [])], .reg [] [(5, .row 0 [I ak, I an, I av, I atk, I atv, AV.sl 3 (Ty.encs atl) false, AV.sl 7 (Expr.encs al) false]), (7, .call (AV.tup [AV.agg [I rk, I rv, AV.sl 3 (Ty.encs rl) false], B true]) [])], .reg [] [(5, .row 1 [I bk, I bn, I bv, I btk, I btv, AV.sl 3 (Ty.encs btl) false, AV.sl 7 (Expr.encs bl) false]), (7, .call (AV.tup [AV.agg [I uk, I uv, AV.sl 3 (Ty.encs ul) false], B false]) [])], .reg [] [], .reg [] []] [.tidO 3 [none, none, some 3]] [] (AV.tup [AV.agg [I 0, I 0, AV.sl 3 [] false], B false]) ([]) (by kernel_rfl) (ob1 (ho) (q ((0 : Int) = (↑(0 : Nat) : Int)) (q ([[I ak, I an, I av, I atk, I atv, AV.sl 3 (Ty.encs atl) false, AV.sl 7 (Expr.encs al) false], [I bk, I bn, I bv, I btk, I btv, AV.sl 3 (Ty.encs btl) false, AV.sl 7 (Expr.encs bl) false]][0]? = some [I ak, I an, I av, I atk, I atv, AV.sl 3 (Ty.encs atl) false, AV.sl 7 (Expr.encs al) false]) (ob1 (ha) (q ((1 : Int) = (↑(1 : Nat) : Int)) (q ([[I ak, I an, I av, I atk, I atv, AV.sl 3 (Ty.encs atl) false, AV.sl 7 (Expr.encs al) false], [I bk, I bn, I bv, I btk, I btv, AV.sl 3 (Ty.encs btl) false, AV.sl 7 (Expr.encs bl) false]][1]? = some [I bk, I bn, I bv, I btk, I btv, AV.sl 3 (Ty.encs btl) false, AV.sl 7 (Expr.encs bl) false]) (ob1 (hb) ob0)))))))
      | true =>
        obtain ⟨k, v', l, he, hg⟩ := hg rfl
        simp only [Ty.mk.injEq] at he
        obtain ⟨rfl, rfl, rfl⟩ := he
        simp only [Bool.and_true, if_true]
        by_cases hk : rk = 1
        · obtain ⟨⟨t1, t2, t3⟩, ⟨u1, u2, u3⟩, rfl, hok⟩ := hg hk
          subst hk
          have hq := eqTy_0 (.mk t1 t2 t3) (.mk uk uv ul) hok
          rw [appC_two]
          by_cases hx : Ty.mk t1 t2 t3 = Ty.mk uk uv ul
          · rw [decide_eq_true hx] at hq
            rw [if_pos hx]
            clear hg hok
            exact Fn.go KT Tryd.func37 [.reg [] [], .reg [] [], .reg [] [], .reg [] [], .reg [] [(1, .call (B true) [])], .reg [] [(5, .row 0 [I ak, I an, I av, I atk, I atv, AV.sl 3 (Ty.encs atl) false, AV.sl 7 (Expr.encs al) false]), (7, .call (AV.tup [AV.agg [I 1, I rv, AV.sl 3 [[I t1, I t2, AV.sl 3 (Ty.encs t3) false], [I u1, I u2, AV.sl 3 (Ty.encs u3) false]] false], B true]) [])], .reg [] [(5, .row 1 [I bk, I bn, I bv, I btk, I btv, AV.sl 3 (Ty.encs btl) false, AV.sl 7 (Expr.encs bl) false]), (7, .call (AV.tup [AV.agg [I uk, I uv, AV.sl 3 (Ty.encs ul) false], B true]) [])], .reg [] [(14, .row 0 [I t1, I t2, AV.sl 3 (Ty.encs t3) false]), (17, .call (B true) [])], .reg [] [(2, .row 1 [I u1, I u2, AV.sl 3 (Ty.encs u3) false])]] [.tidO 3 [none, none, some 3]] [] (AV.tup [AV.agg [I u1, I u2, AV.sl 3 (Ty.encs u3) false], B true]) ([]) (by kernel_rfl) (ob1 (ho) (q ((0 : Int) = (↑(0 : Nat) : Int)) (q ([[I ak, I an, I av, I atk, I atv, AV.sl 3 (Ty.encs atl) false, AV.sl 7 (Expr.encs al) false], [I bk, I bn, I bv, I btk, I btv, AV.sl 3 (Ty.encs btl) false, AV.sl 7 (Expr.encs bl) false]][0]? = some [I ak, I an, I av, I atk, I atv, AV.sl 3 (Ty.encs atl) false, AV.sl 7 (Expr.encs al) false]) (ob1 (ha) (q ((1 : Int) = (↑(1 : Nat) : Int)) (q ([[I ak, I an, I av, I atk, I atv, AV.sl 3 (Ty.encs atl) false, AV.sl 7 (Expr.encs al) false], [I bk, I bn, I bv, I btk, I btv, AV.sl 3 (Ty.encs btl) false, AV.sl 7 (Expr.encs bl) false]][1]? = some [I bk, I bn, I bv, I btk, I btv, AV.sl 3 (Ty.encs btl) false, AV.sl 7 (Expr.encs bl) false]) (ob1 (hb) (q ((0 : Int) = (↑(0 : Nat) : Int)) (q ([[I t1, I t2, AV.sl 3 (Ty.encs t3) false], [I u1, I u2, AV.sl 3 (Ty.encs u3) false]][0]? = some [I t1, I t2, AV.sl 3 (Ty.encs t3) false]) (ob1 (hq) (q ((1 : Int) = (↑(1 : Nat) : Int)) (q ([[I t1, I t2, AV.sl 3 (Ty.encs t3) false], [I u1, I u2, AV.sl 3 (Ty.encs u3) false]][1]? = some [I u1, I u2, AV.sl 3 (Ty.encs u3) false]) ob0))))))))))))
          · rw [decide_eq_false hx] at hq
            rw [if_neg hx]
            clear hg hok
            exact Fn.go KT Tryd.func37 [.reg [] [], .reg [] [], .reg [] [], .reg [] [], .reg [] [(1, .call (B true) [])], .reg [] [(5, .row 0 [I ak, I an, I av, I atk, I atv, AV.sl 3 (Ty.encs atl) false, AV.sl 7 (Expr.encs al) false]), (7, .call (AV.tup [AV.agg [I 1, I rv, AV.sl 3 [[I t1, I t2, AV.sl 3 (Ty.encs t3) false], [I u1, I u2, AV.sl 3 (Ty.encs u3) false]] false], B true]) [])], .reg [] [(5, .row 1 [I bk, I bn, I bv, I btk, I btv, AV.sl 3 (Ty.encs btl) false, AV.sl 7 (Expr.encs bl) false]), (7, .call (AV.tup [AV.agg [I uk, I uv, AV.sl 3 (Ty.encs ul) false], B true]) [])], .reg [] [(14, .row 0 [I t1, I t2, AV.sl 3 (Ty.encs t3) false]), (17, .call (B false) [])], .reg [] []] [.tidO 3 [none, none, some 3]] [] (AV.tup [AV.agg [I 0, I 0, AV.sl 3 [] false], B false]) ([]) (by kernel_rfl) (ob1 (ho) (q ((0 : Int) = (↑(0 : Nat) : Int)) (q ([[I ak, I an, I av, I atk, I atv, AV.sl 3 (Ty.encs atl) false, AV.sl 7 (Expr.encs al) false], [I bk, I bn, I bv, I btk, I btv, AV.sl 3 (Ty.encs btl) false, AV.sl 7 (Expr.encs bl) false]][0]? = some [I ak, I an, I av, I atk, I atv, AV.sl 3 (Ty.encs atl) false, AV.sl 7 (Expr.encs al) false]) (ob1 (ha) (q ((1 : Int) = (↑(1 : Nat) : Int)) (q ([[I ak, I an, I av, I atk, I atv, AV.sl 3 (Ty.encs atl) false, AV.sl 7 (Expr.encs al) false], [I bk, I bn, I bv, I btk, I btv, AV.sl 3 (Ty.encs btl) false, AV.sl 7 (Expr.encs bl) false]][1]? = some [I bk, I bn, I bv, I btk, I btv, AV.sl 3 (Ty.encs btl) false, AV.sl 7 (Expr.encs bl) false]) (ob1 (hb) (q ((0 : Int) = (↑(0 : Nat) : Int)) (q ([[I t1, I t2, AV.sl 3 (Ty.encs t3) false], [I u1, I u2, AV.sl 3 (Ty.encs u3) false]][0]? = some [I t1, I t2, AV.sl 3 (Ty.encs t3) false]) (ob1 (hq) ob0))))))))))
        · clear hg
          rw [appC_ne hk]
          exact Fn.go KT Tryd.func37 [.reg [] [], .reg [] [], .reg [] [], .reg [] [], .reg [] [(1, .call (B true) [])], .reg [] [(5, .row 0 [I ak, I an, I av, I atk, I atv, AV.sl 3 (Ty.encs atl) false, AV.sl 7 (Expr.encs al) false]), (7, .call (AV.tup [AV.agg [I rk, I rv, AV.sl 3 (Ty.encs rl) false], B true]) [])], .reg [] [(5, .row 1 [I bk, I bn, I bv, I btk, I btv, AV.sl 3 (Ty.encs btl) false, AV.sl 7 (Expr.encs bl) false]), (7, .call (AV.tup [AV.agg [I uk, I uv, AV.sl 3 (Ty.encs ul) false], B true]) [])], .reg [] [(9, .bit true)], .reg [] []] [.tidO 3 [none, none, some 3]] [] (AV.tup [AV.agg [I 0, I 0, AV.sl 3 [] false], B false]) ([]) (by kernel_rfl) (ob1 (ho) (q ((0 : Int) = (↑(0 : Nat) : Int)) (q ([[I ak, I an, I av, I atk, I atv, AV.sl 3 (Ty.encs atl) false, AV.sl 7 (Expr.encs al) false], [I bk, I bn, I bv, I btk, I btv, AV.sl 3 (Ty.encs btl) false, AV.sl 7 (Expr.encs bl) false]][0]? = some [I ak, I an, I av, I atk, I atv, AV.sl 3 (Ty.encs atl) false, AV.sl 7 (Expr.encs al) false]) (ob1 (ha) (q ((1 : Int) = (↑(1 : Nat) : Int)) (q ([[I ak, I an, I av, I atk, I atv, AV.sl 3 (Ty.encs atl) false, AV.sl 7 (Expr.encs al) false], [I bk, I bn, I bv, I btk, I btv, AV.sl 3 (Ty.encs btl) false, AV.sl 7 (Expr.encs bl) false]][1]? = some [I bk, I bn, I bv, I btk, I btv, AV.sl 3 (Ty.encs btl) false, AV.sl 7 (Expr.encs bl) false]) (ob1 (hb) (q ((rk != 1) = true) ob0))))))))

end Go.Ae

/- source.Lang.compound of an ELet, of an ELam. -/
namespace Go.Ae
open Go.Proofs

theorem comp_let (es : List ByteArray) (ds : List Def) (mk mn mv mtk mtv : Int) (mtl : List Ty) (ml : List Expr) (sc : List Ty) (n v tk tv : Int) (tl : List Ty)
    (ak an av atk atv : Int) (atl : List Ty) (al : List Expr) (bk bn bv btk btv : Int) (btl : List Ty) (bl : List Expr) (hs : sc.length ≤ 1000)
    (ha : TypeOk ⟨es, ds, .mk mk mn mv (.mk mtk mtv mtl) ml⟩ (.mk ak an av (.mk atk atv atl) al) sc)
    (hb : ∀ t, (tImp ⟨es, ds, .mk mk mn mv (.mk mtk mtv mtl) ml⟩ (.mk ak an av (.mk atk atv atl) al) sc) = (t, true) → TypeOk ⟨es, ds, .mk mk mn mv (.mk mtk mtv mtl) ml⟩ (.mk bk bn bv (.mk btk btv btl) bl) (sc ++ [t])) :
    CompOk ⟨es, ds, .mk mk mn mv (.mk mtk mtv mtl) ml⟩ (.mk 5 n v (.mk tk tv tl) [.mk ak an av (.mk atk atv atl) al, .mk bk bn bv (.mk btk btv btl) bl]) sc := by
  unfold TypeOk at ha hb
  unfold CompOk
  have ho := only_ 5 n v tk tv tl [.mk ak an av (.mk atk atv atl) al, .mk bk bn bv (.mk btk btv btl) bl] false false false 2
  rw [tImp.eq_def ⟨es, ds, .mk mk mn mv (.mk mtk mtv mtl) ml⟩ (.mk 5 n v (.mk tk tv tl) [.mk ak an av (.mk atk atv atl) al, .mk bk bn bv (.mk btk btv btl) bl])]
  dsimp only
  simp only [show ¬ (5 : Int) = 0 by omega, show ¬ (5 : Int) = 8 by omega, show ¬ (5 : Int) = 1 by omega, show ¬ (5 : Int) = 2 by omega, show ¬ (5 : Int) = 7 by omega, show ¬ (5 : Int) = 3 by omega, show ¬ (5 : Int) = 4 by omega, if_false, if_true]
  generalize onlyC (.mk 5 n v (.mk tk tv tl) [.mk ak an av (.mk atk atv atl) al, .mk bk bn bv (.mk btk btv btl) bl]) false false false 2 = E at ho ⊢
  generalize tImp ⟨es, ds, .mk mk mn mv (.mk mtk mtv mtl) ml⟩ (.mk ak an av (.mk atk atv atl) al) sc = T at ha hb ⊢
  obtain ⟨⟨rk, rv, rl⟩, rb⟩ := T
  cases E with
  | false =>
    clear ha hb
    simp only [Bool.false_eq_true, if_false]
    exact Fn.go KT Tryd.func37 [.reg [] [], .reg [] [], .reg [] [], .reg [] [], .reg [] [], .reg [] [], .reg [] [(1, .call (B false) [])], .reg [] []] [.tidO 3 [none, none, some 3]] [] (AV.tup [AV.agg [I 0, I 0, AV.sl 3 [] false], B false]) ([]) (by kernel_rfl) (ob1 (ho) ob0)
  | true =>
    simp only [if_true]
    cases rb with
    | false =>
      clear hb
      simp only [Bool.false_eq_true, if_false]
      exact Fn.go KT Tryd.func37 [.reg [] [], .reg [] [], .reg [] [], .reg [] [], .reg [] [], .reg [] [], .reg [] [(1, .call (B true) [])], .reg [] [(5, .row 0 [I ak, I an, I av, I atk, I atv, AV.sl 3 (Ty.encs atl) false, AV.sl 7 (Expr.encs al) false]), (7, .call (AV.tup [AV.agg [I rk, I rv, AV.sl 3 (Ty.encs rl) false], B false]) [])], .reg [] [], .reg [] []] [.tidO 3 [none, none, some 3]] [] (AV.tup [AV.agg [I 0, I 0, AV.sl 3 [] false], B false]) ([]) (by kernel_rfl) (ob1 (ho) (q ((0 : Int) = (↑(0 : Nat) : Int)) (q ([[I ak, I an, I av, I atk, I atv, AV.sl 3 (Ty.encs atl) false, AV.sl 7 (Expr.encs al) false], [I bk, I bn, I bv, I btk, I btv, AV.sl 3 (Ty.encs btl) false, AV.sl 7 (Expr.encs bl) false]][0]? = some [I ak, I an, I av, I atk, I atv, AV.sl 3 (Ty.encs atl) false, AV.sl 7 (Expr.encs al) false]) (ob1 (ha) ob0))))
    | true =>
      replace hb := hb _ rfl
      have hu := under_ (.mk rk rv rl) sc hs
      simp only [if_true]
      generalize tImp ⟨es, ds, .mk mk mn mv (.mk mtk mtv mtl) ml⟩ (.mk bk bn bv (.mk btk btv btl) bl) (sc ++ [.mk rk rv rl]) = U at hb ⊢
      obtain ⟨⟨uk, uv, ul⟩, ub⟩ := U
      cases ub with
      | true => 
        exact Fn.go KT Tryd.func37 [.reg [] [], .reg [] [], .reg [] [], .reg [] [], .reg [] [], .reg [] [], .reg [] [(1, .call (B true) [])], .reg [] [(5, .row 0 [I ak, I an, I av, I atk, I atv, AV.sl 3 (Ty.encs atl) false, AV.sl 7 (Expr.encs al) false]), (7, .call (AV.tup [AV.agg [I rk, I rv, AV.sl 3 (Ty.encs rl) false], B true]) [])], .reg [] [], .reg [] [(4, .call (AV.sl 3 (Ty.encs (sc ++ [Ty.mk rk rv rl])) false) []), (7, .row 1 [I bk, I bn, I bv, I btk, I btv, AV.sl 3 (Ty.encs btl) false, AV.sl 7 (Expr.encs bl) false]), (9, .call (AV.tup [AV.agg [I uk, I uv, AV.sl 3 (Ty.encs ul) false], B true]) [])]] [.tidO 3 [none, none, some 3]] [] (AV.tup [AV.agg [I uk, I uv, AV.sl 3 (Ty.encs ul) false], B true]) ([]) (by kernel_rfl) (ob1 (ho) (q ((0 : Int) = (↑(0 : Nat) : Int)) (q ([[I ak, I an, I av, I atk, I atv, AV.sl 3 (Ty.encs atl) false, AV.sl 7 (Expr.encs al) false], [I bk, I bn, I bv, I btk, I btv, AV.sl 3 (Ty.encs btl) false, AV.sl 7 (Expr.encs bl) false]][0]? = some [I ak, I an, I av, I atk, I atv, AV.sl 3 (Ty.encs atl) false, AV.sl 7 (Expr.encs al) false]) (ob1 (ha) (ob1 (hu) (q ((1 : Int) = (↑(1 : Nat) : Int)) (q ([[I ak, I an, I av, I atk, I atv, AV.sl 3 (Ty.encs atl) false, AV.sl 7 (Expr.encs al) false], [I bk, I bn, I bv, I btk, I btv, AV.sl 3 (Ty.encs btl) false, AV.sl 7 (Expr.encs bl) false]][1]? = some [I bk, I bn, I bv, I btk, I btv, AV.sl 3 (Ty.encs btl) false, AV.sl 7 (Expr.encs bl) false]) (ob1 (hb) ob0))))))))
      | false => 
        exact Fn.go KT Tryd.func37 [.reg [] [], .reg [] [], .reg [] [], .reg [] [], .reg [] [], .reg [] [], .reg [] [(1, .call (B true) [])], .reg [] [(5, .row 0 [I ak, I an, I av, I atk, I atv, AV.sl 3 (Ty.encs atl) false, AV.sl 7 (Expr.encs al) false]), (7, .call (AV.tup [AV.agg [I rk, I rv, AV.sl 3 (Ty.encs rl) false], B true]) [])], .reg [] [], .reg [] [(4, .call (AV.sl 3 (Ty.encs (sc ++ [Ty.mk rk rv rl])) false) []), (7, .row 1 [I bk, I bn, I bv, I btk, I btv, AV.sl 3 (Ty.encs btl) false, AV.sl 7 (Expr.encs bl) false]), (9, .call (AV.tup [AV.agg [I uk, I uv, AV.sl 3 (Ty.encs ul) false], B false]) [])]] [.tidO 3 [none, none, some 3]] [] (AV.tup [AV.agg [I uk, I uv, AV.sl 3 (Ty.encs ul) false], B false]) ([]) (by kernel_rfl) (ob1 (ho) (q ((0 : Int) = (↑(0 : Nat) : Int)) (q ([[I ak, I an, I av, I atk, I atv, AV.sl 3 (Ty.encs atl) false, AV.sl 7 (Expr.encs al) false], [I bk, I bn, I bv, I btk, I btv, AV.sl 3 (Ty.encs btl) false, AV.sl 7 (Expr.encs bl) false]][0]? = some [I ak, I an, I av, I atk, I atv, AV.sl 3 (Ty.encs atl) false, AV.sl 7 (Expr.encs al) false]) (ob1 (ha) (ob1 (hu) (q ((1 : Int) = (↑(1 : Nat) : Int)) (q ([[I ak, I an, I av, I atk, I atv, AV.sl 3 (Ty.encs atl) false, AV.sl 7 (Expr.encs al) false], [I bk, I bn, I bv, I btk, I btv, AV.sl 3 (Ty.encs btl) false, AV.sl 7 (Expr.encs bl) false]][1]? = some [I bk, I bn, I bv, I btk, I btv, AV.sl 3 (Ty.encs btl) false, AV.sl 7 (Expr.encs bl) false]) (ob1 (hb) ob0))))))))

end Go.Ae

/- source.Lang.compound of an ELam. -/
namespace Go.Ae
open Go.Proofs

theorem comp_lam (es : List ByteArray) (ds : List Def) (mk mn mv mtk mtv : Int) (mtl : List Ty) (ml : List Expr) (sc : List Ty) (n v tk tv : Int) (tl : List Ty)
    (ak an av atk atv : Int) (atl : List Ty) (al : List Expr) (hs : sc.length ≤ 1000) (htok : (Ty.mk tk tv tl).ok)
    (ha : TypeOk ⟨es, ds, .mk mk mn mv (.mk mtk mtv mtl) ml⟩ (.mk ak an av (.mk atk atv atl) al) (sc ++ [.mk tk tv tl]))
    (hok : (tImp ⟨es, ds, .mk mk mn mv (.mk mtk mtv mtl) ml⟩ (.mk ak an av (.mk atk atv atl) al) (sc ++ [.mk tk tv tl])).1.ok) :
    CompOk ⟨es, ds, .mk mk mn mv (.mk mtk mtv mtl) ml⟩ (.mk 4 n v (.mk tk tv tl) [.mk ak an av (.mk atk atv atl) al]) sc := by
  unfold TypeOk at ha
  unfold CompOk
  have ho := only_ 4 n v tk tv tl [.mk ak an av (.mk atk atv atl) al] false false true 1
  have hi := isTy_ (.mk tk tv tl) htok
  have hu := under_ (.mk tk tv tl) sc hs
  rw [tImp.eq_def ⟨es, ds, .mk mk mn mv (.mk mtk mtv mtl) ml⟩ (.mk 4 n v (.mk tk tv tl) [.mk ak an av (.mk atk atv atl) al])]
  dsimp only
  simp only [show ¬ (4 : Int) = 0 by omega, show ¬ (4 : Int) = 8 by omega, show ¬ (4 : Int) = 1 by omega, show ¬ (4 : Int) = 2 by omega, show ¬ (4 : Int) = 7 by omega, show ¬ (4 : Int) = 3 by omega, if_false, if_true]
  generalize onlyC (.mk 4 n v (.mk tk tv tl) [.mk ak an av (.mk atk atv atl) al]) false false true 1 = E at ho ⊢
  generalize (tyC (.mk tk tv tl) 20).1 = E1 at hi ⊢
  generalize tImp ⟨es, ds, .mk mk mn mv (.mk mtk mtv mtl) ml⟩ (.mk ak an av (.mk atk atv atl) al) (sc ++ [.mk tk tv tl]) = T at ha hok ⊢
  obtain ⟨⟨rk, rv, rl⟩, rb⟩ := T
  have hj := isTy_ (.mk 1 0 [.mk tk tv tl, .mk rk rv rl]) ⟨by unfold ir; omega, by unfold ir; omega, by simp, htok, hok, trivial⟩
  generalize (tyC (.mk 1 0 [.mk tk tv tl, .mk rk rv rl]) 20).1 = E2 at hj ⊢
  clear htok hok
  cases E with
  | false =>
    simp only [Bool.false_and, Bool.false_eq_true, if_false]
    exact Fn.go KT Tryd.func37 [.reg [] [], .reg [] [], .reg [] [], .reg [] [], .reg [] [], .reg [] [(1, .call (B false) [])], .reg [] []] [.tidO 3 [none, none, some 3]] [] (AV.tup [AV.agg [I 0, I 0, AV.sl 3 [] false], B false]) ([]) (by kernel_rfl) (ob1 (ho) ob0)
  | true =>
    cases E1 with
    | false =>
      simp only [Bool.and_false, Bool.false_eq_true, if_false]
      exact Fn.go KT Tryd.func37 [.reg [] [], .reg [] [], .reg [] [], .reg [] [], .reg [] [], .reg [] [(1, .call (B true) []), (7, .call (B false) [])], .reg [] []] [.tidO 3 [none, none, some 3]] [] (AV.tup [AV.agg [I 0, I 0, AV.sl 3 [] false], B false]) ([]) (by kernel_rfl) (ob1 (ho) (ob1 (hi) ob0))
    | true =>
      simp only [Bool.and_true, if_true]
      cases rb with
      | false =>
        simp only [Bool.false_and, Bool.false_eq_true, if_false]
        exact Fn.go KT Tryd.func37 [.reg [] [], .reg [] [], .reg [] [], .reg [] [], .reg [] [], .reg [] [(1, .call (B true) []), (7, .call (B true) [])], .reg [] [(5, .call (AV.sl 3 (Ty.encs (sc ++ [Ty.mk tk tv tl])) false) []), (8, .row 0 [I ak, I an, I av, I atk, I atv, AV.sl 3 (Ty.encs atl) false, AV.sl 7 (Expr.encs al) false]), (10, .call (AV.tup [AV.agg [I rk, I rv, AV.sl 3 (Ty.encs rl) false], B false]) [])], .reg [] [], .reg [] [], .reg [] []] [.tidO 3 [none, none, some 3]] [] (AV.tup [AV.agg [I 0, I 0, AV.sl 3 [] false], B false]) ([]) (by kernel_rfl) (ob1 (ho) (ob1 (hi) (ob1 (hu) (q ((0 : Int) = (↑(0 : Nat) : Int)) (q ([[I ak, I an, I av, I atk, I atv, AV.sl 3 (Ty.encs atl) false, AV.sl 7 (Expr.encs al) false]][0]? = some [I ak, I an, I av, I atk, I atv, AV.sl 3 (Ty.encs atl) false, AV.sl 7 (Expr.encs al) false]) (ob1 (ha) ob0))))))
      | true =>
        cases E2 with
        | false =>
          simp only [Bool.and_false, Bool.false_eq_true, if_false]
          exact Fn.go KT Tryd.func37 [.reg [] [], .reg [] [], .reg [] [], .reg [] [], .reg [] [], .reg [] [(1, .call (B true) []), (7, .call (B true) [])], .reg [] [(5, .call (AV.sl 3 (Ty.encs (sc ++ [Ty.mk tk tv tl])) false) []), (8, .row 0 [I ak, I an, I av, I atk, I atv, AV.sl 3 (Ty.encs atl) false, AV.sl 7 (Expr.encs al) false]), (10, .call (AV.tup [AV.agg [I rk, I rv, AV.sl 3 (Ty.encs rl) false], B true]) [])], .reg [] [], .reg [] [(5, .call (B false) [])], .reg [] []] [.tidO 3 [none, none, some 3]] [] (AV.tup [AV.agg [I 0, I 0, AV.sl 3 [] false], B false]) ([]) (by kernel_rfl) (ob1 (ho) (ob1 (hi) (ob1 (hu) (q ((0 : Int) = (↑(0 : Nat) : Int)) (q ([[I ak, I an, I av, I atk, I atv, AV.sl 3 (Ty.encs atl) false, AV.sl 7 (Expr.encs al) false]][0]? = some [I ak, I an, I av, I atk, I atv, AV.sl 3 (Ty.encs atl) false, AV.sl 7 (Expr.encs al) false]) (ob1 (ha) (ob1 (hj) ob0)))))))
        | true =>
          simp only [Bool.and_true, if_true]
          exact Fn.go KT Tryd.func37 [.reg [] [], .reg [] [], .reg [] [], .reg [] [], .reg [] [], .reg [] [(1, .call (B true) []), (7, .call (B true) [])], .reg [] [(5, .call (AV.sl 3 (Ty.encs (sc ++ [Ty.mk tk tv tl])) false) []), (8, .row 0 [I ak, I an, I av, I atk, I atv, AV.sl 3 (Ty.encs atl) false, AV.sl 7 (Expr.encs al) false]), (10, .call (AV.tup [AV.agg [I rk, I rv, AV.sl 3 (Ty.encs rl) false], B true]) [])], .reg [] [], .reg [] [(5, .call (B true) [])], .reg [] []] [.tidO 3 [none, none, some 3]] [] (AV.tup [AV.agg [I 1, I 0, AV.sl 3 [[I tk, I tv, AV.sl 3 (Ty.encs tl) false], [I rk, I rv, AV.sl 3 (Ty.encs rl) false]] false], B true]) ([]) (by kernel_rfl) (ob1 (ho) (ob1 (hi) (ob1 (hu) (q ((0 : Int) = (↑(0 : Nat) : Int)) (q ([[I ak, I an, I av, I atk, I atv, AV.sl 3 (Ty.encs atl) false, AV.sl 7 (Expr.encs al) false]][0]? = some [I ak, I an, I av, I atk, I atv, AV.sl 3 (Ty.encs atl) false, AV.sl 7 (Expr.encs al) false]) (ob1 (ha) (ob1 (hj) ob0)))))))

end Go.Ae

/- source.Lang.compound of an ECase. -/
namespace Go.Ae
open Go.Proofs

/-- The branches of an ECase behind the first one. -/
noncomputable def casesC (p : Prog) (sc : List Ty) (f : Ty) (r : List Expr) (b : Bool) : Bool := r.foldl (fun ok c => ok && (tImp p c sc).2 && decide (f = (tImp p c sc).1)) b

theorem comp_case_loop (es : List ByteArray) (ds : List Def) (mk mn mv mtk mtv : Int) (mtl : List Ty) (ml : List Expr) (sc : List Ty) (uk uv : Int) (ul : List Ty) (hu : (Ty.mk uk uv ul).ok) (r : List Expr) (hr : r.length ≤ 1000) :
    ∀ (r' : List Expr) (i : Nat) (b : Bool), r.drop i = r' → (∀ x ∈ r', TypeOk ⟨es, ds, .mk mk mn mv (.mk mtk mtv mtl) ml⟩ x sc) →
    Lp Tryd.prog 234 0 (loopN Tryd.f37 0) ⟨lookT [(2, .sl 3 (Ty.encs sc) false), (4, .lp 0 0), (5, .lp 1 0), (8, .lp 2 0), (21, B b), (22, .lp 3 0), (208, .sl 7 (Expr.encs r) false), (209, I (r.length : Int)), (210, I (i : Int))],
      [.cells [B true] [], .cells (Prog.enc ⟨es, ds, .mk mk mn mv (.mk mtk mtv mtl) ml⟩) [], .cells [I 0, I 0, .nil] [], .cells [I uk, I uv, .sl 3 (Ty.encs ul) false] []]⟩
      (.exit 1) ⟨lookT [(8, .lp 0 0), (21, B (casesC ⟨es, ds, .mk mk mn mv (.mk mtk mtv mtl) ml⟩ sc (.mk uk uv ul) r' b)), (22, .lp 1 0)], [.cells [I 0, I 0, .nil] [], .cells [I uk, I uv, .sl 3 (Ty.encs ul) false] []]⟩
  | [], i, b, hd, _ => by
    have hi := drop_end hd
    simp only [casesC, List.foldl_nil]
    exact Lp.last KT [.reg [] [(0, .bit false)]] [.keep [(8, []), (21, []), (22, [])]] (by kernel_rfl) (q (decide ((↑i : Int) < (↑(List.length r) : Int)) = false) ob0) (by intro h; cases h)
  | .mk k1 m1 v1 (.mk tk tv tl) xs :: r', i, b, hd, hs => by
    have hi := drop_lt hd
    have hx : (Expr.encs r)[i]? = some (Expr.mk k1 m1 v1 (.mk tk tv tl) xs).enc := by rw [Expr.encs_get, drop_get hd]; rfl
    have hc := hs (.mk k1 m1 v1 (.mk tk tv tl) xs) (by simp)
    have ih := fun b => comp_case_loop es ds mk mn mv mtk mtv mtl ml sc uk uv ul hu r hr r' (i + 1) b (drop_next hd) (fun x hx => hs x (by simp [hx]))
    have he : ∀ b, casesC ⟨es, ds, .mk mk mn mv (.mk mtk mtv mtl) ml⟩ sc (.mk uk uv ul) (.mk k1 m1 v1 (.mk tk tv tl) xs :: r') b =
      casesC ⟨es, ds, .mk mk mn mv (.mk mtk mtv mtl) ml⟩ sc (.mk uk uv ul) r' (b && (tImp ⟨es, ds, .mk mk mn mv (.mk mtk mtv mtl) ml⟩ (.mk k1 m1 v1 (.mk tk tv tl) xs) sc).2 && decide (.mk uk uv ul = (tImp ⟨es, ds, .mk mk mn mv (.mk mtk mtv mtl) ml⟩ (.mk k1 m1 v1 (.mk tk tv tl) xs) sc).1)) := fun b => rfl
    rw [he]
    unfold TypeOk at hc
    clear hs he hd
    generalize casesC ⟨es, ds, .mk mk mn mv (.mk mtk mtv mtl) ml⟩ sc (.mk uk uv ul) r' = F at ih ⊢
    generalize tImp ⟨es, ds, .mk mk mn mv (.mk mtk mtv mtl) ml⟩ (.mk k1 m1 v1 (.mk tk tv tl) xs) sc = T at hc ⊢
    obtain ⟨⟨rk, rv, rl⟩, rb⟩ := T
    have hq := eqTy_0 (.mk uk uv ul) (.mk rk rv rl) hu
    simp only [Int.natCast_add] at ih
    cases b with
    | false =>
      replace ih := ih false
      simp only [Bool.false_and]
      cases rb with
      | false => exact Lp.next KT [.reg [] [(0, .bit true)], .reg [] [(0, .row i (Expr.enc (Expr.mk k1 m1 v1 (Ty.mk tk tv tl) xs)))], .reg [] [(4, .call (AV.tup [AV.agg [I rk, I rv, AV.sl 3 (Ty.encs rl) false], B false]) [])], .reg [] [], .reg [] [(0, .int ((↑i : Int) + 1))]] [.keep [(2, []), (4, []), (5, []), (8, []), (21, []), (22, []), (208, []), (209, []), (210, [])]] (by kernel_rfl) (q (decide ((↑i : Int) < (↑(List.length r) : Int)) = true) (q ((↑i : Int) = (↑i : Int)) (q ((Expr.encs r)[i]? = some (Expr.enc (Expr.mk k1 m1 v1 (Ty.mk tk tv tl) xs))) (ob1 (hc) (qw ((↑i : Int) + 1) ob0))))) (ih)
      | true => exact Lp.next KT [.reg [] [(0, .bit true)], .reg [] [(0, .row i (Expr.enc (Expr.mk k1 m1 v1 (Ty.mk tk tv tl) xs)))], .reg [] [(4, .call (AV.tup [AV.agg [I rk, I rv, AV.sl 3 (Ty.encs rl) false], B true]) [])], .reg [] [], .reg [] [(0, .int ((↑i : Int) + 1))]] [.keep [(2, []), (4, []), (5, []), (8, []), (21, []), (22, []), (208, []), (209, []), (210, [])]] (by kernel_rfl) (q (decide ((↑i : Int) < (↑(List.length r) : Int)) = true) (q ((↑i : Int) = (↑i : Int)) (q ((Expr.encs r)[i]? = some (Expr.enc (Expr.mk k1 m1 v1 (Ty.mk tk tv tl) xs))) (ob1 (hc) (qw ((↑i : Int) + 1) ob0))))) (ih)
    | true =>
      cases rb with
      | false =>
        replace ih := ih false
        simp only [Bool.and_false, Bool.false_and]
        exact Lp.next KT [.reg [] [(0, .bit true)], .reg [] [(0, .row i (Expr.enc (Expr.mk k1 m1 v1 (Ty.mk tk tv tl) xs)))], .reg [] [(4, .call (AV.tup [AV.agg [I rk, I rv, AV.sl 3 (Ty.encs rl) false], B false]) [])], .reg [] [], .reg [] [(0, .int ((↑i : Int) + 1))]] [.keep [(2, []), (4, []), (5, []), (8, []), (21, []), (22, []), (208, []), (209, []), (210, [])]] (by kernel_rfl) (q (decide ((↑i : Int) < (↑(List.length r) : Int)) = true) (q ((↑i : Int) = (↑i : Int)) (q ((Expr.encs r)[i]? = some (Expr.enc (Expr.mk k1 m1 v1 (Ty.mk tk tv tl) xs))) (ob1 (hc) (qw ((↑i : Int) + 1) ob0))))) (ih)
      | true =>
        by_cases hx : Ty.mk uk uv ul = Ty.mk rk rv rl
        · replace ih := ih true
          simp only [decide_eq_true hx] at hq ⊢
          exact Lp.next KT [.reg [] [(0, .bit true)], .reg [] [(0, .row i (Expr.enc (Expr.mk k1 m1 v1 (Ty.mk tk tv tl) xs)))], .reg [] [(4, .call (AV.tup [AV.agg [I rk, I rv, AV.sl 3 (Ty.encs rl) false], B true]) [])], .reg [] [(7, .call (B true) [])], .reg [] [(0, .int ((↑i : Int) + 1))]] [.keep [(2, []), (4, []), (5, []), (8, []), (21, []), (22, []), (208, []), (209, []), (210, [])]] (by kernel_rfl) (q (decide ((↑i : Int) < (↑(List.length r) : Int)) = true) (q ((↑i : Int) = (↑i : Int)) (q ((Expr.encs r)[i]? = some (Expr.enc (Expr.mk k1 m1 v1 (Ty.mk tk tv tl) xs))) (ob1 (hc) (ob1 (hq) (qw ((↑i : Int) + 1) ob0)))))) (ih)
        · replace ih := ih false
          simp only [decide_eq_false hx, Bool.and_false] at hq ⊢
          exact Lp.next KT [.reg [] [(0, .bit true)], .reg [] [(0, .row i (Expr.enc (Expr.mk k1 m1 v1 (Ty.mk tk tv tl) xs)))], .reg [] [(4, .call (AV.tup [AV.agg [I rk, I rv, AV.sl 3 (Ty.encs rl) false], B true]) [])], .reg [] [(7, .call (B false) [])], .reg [] [(0, .int ((↑i : Int) + 1))]] [.keep [(2, []), (4, []), (5, []), (8, []), (21, []), (22, []), (208, []), (209, []), (210, [])]] (by kernel_rfl) (q (decide ((↑i : Int) < (↑(List.length r) : Int)) = true) (q ((↑i : Int) = (↑i : Int)) (q ((Expr.encs r)[i]? = some (Expr.enc (Expr.mk k1 m1 v1 (Ty.mk tk tv tl) xs))) (ob1 (hc) (ob1 (hq) (qw ((↑i : Int) + 1) ob0)))))) (ih)

end Go.Ae

/- eval.all: a leaf, a round of its loop. .. (AeEM21, AeEM22, AeEM23) -/
import Derived.Test.YtmnnmjbjcdjglaaT10
set_option linter.unusedSimpArgs false
set_option linter.unusedVariables false
/- eval.all: a leaf, a round of its loop. -/
namespace Go.Ae
open Go.Proofs

section
variable (es : List ByteArray) (ds : List Def) (mk mn mv mtk mtv : Int) (mtl : List Ty) (ml : List Expr) (fuel : Int) (n : Nat) (ch : List Int) (R L : List (List AV))

set_option maxRecDepth 20000 in
theorem all_leaf (ev : List Int) (us en v width : Int) (hR : R.length ≤ 1024) (hL : L.length ≤ 1024) (hl : ch.length ≤ 64) (hn : n ≤ 64) (b : Bool)
    (hr : SoundCall Try.prog 24 [.agg (Prog.enc ⟨es, ds, .mk mk mn mv (.mk mtk mtv mtl) ml⟩), .lp 0 0, I fuel] [lists ch 0 0] (.tup [.agg [.sl 1 (ints ev) false, I us, I en, I v], B true]) [lists ch us width])
    (hs : SoundCall Try.prog 34 [.agg [.sl 1 (ints ev) false, I us, I en, I v], .sl 1 (ints ch) false, .lp 0 0, .lp 2 0] [.cells [.la 1 1] [], .arr 1 4 R, .cells [.la 3 1] [], .arr 1 1 L]
      (B b) [.cells [.la 1 2] [], .arr 2 4 (R ++ [[.sl 1 (ints ev) false, I us, I en, I v]]), .cells [.la 3 2] [], .arr 2 1 (L ++ [[.sl 1 (ints ch) false]])])
    (hc : en ≠ 2 ∨ ch.length = n) :
    SoundCall Try.prog 33 [.agg (Prog.enc ⟨es, ds, .mk mk mn mv (.mk mtk mtv mtl) ml⟩), .sl 1 (ints ch) false, I (n : Int), I fuel, .fn 34 [.lp 0 0, .lp 2 0]] [.cells [.la 1 1] [], .arr 1 4 R, .cells [.la 3 1] [], .arr 1 1 L]
      (B b) [.cells [.la 1 2] [], .arr 2 4 (R ++ [[.sl 1 (ints ev) false, I us, I en, I v]]), .cells [.la 3 2] [], .arr 2 1 (L ++ [[.sl 1 (ints ch) false]])] := by
  by_cases h2 : en = 2
  · subst h2
    have hcn : ch.length = n := by omega
    rcases Bool.eq_false_or_eq_true (b) with hb1 | hb1
    · have hb1' := hb1
      try simp only [decide_eq_true_eq, decide_eq_false_iff_not, beq_iff_eq, bne_iff_ne, ne_eq, beq_eq_false_iff_ne, bne_eq_false_iff_eq, Bool.not_eq_true'] at hb1'
      exact Fn.go KT Try.func33 [.reg [] [], .reg [] [], .reg [] [(3, .call (AV.tup [AV.agg [AV.sl 1 (ints ev) false, I us, I 2, I v], B true]) [.cells [AV.sl 1 (ints ch) false, AV.nil, I us, I 0, I width] []])], .reg [] [(5, .int (↑(List.length ch) : Int)), (7, .bit true)], .reg [] [(3, .call (B true) [.cells [AV.la 1 2] [], .arr 2 4 (R ++ [[AV.sl 1 (ints ev) false, I us, I 2, I v]]), .cells [AV.la 3 2] [], .arr 2 1 (L ++ [[AV.sl 1 (ints ch) false]])])]] [] [] (B true) ([.cells [AV.la 1 2] [], .arr 2 4 (R ++ [[AV.sl 1 (ints ev) false, I us, I 2, I v]]), .cells [AV.la 3 2] [], .arr 2 1 (L ++ [[AV.sl 1 (ints ch) false]])]) (by kernel_rfl) (ob1 (hr) (q ((↑(List.length (ints ch)) : Int) = (↑(List.length ch) : Int)) (q (((↑(List.length ch) : Int) == (↑n : Int)) = true) (ob1 (SoundCall.to (hs) (pf (B b = B true)) rfl) ob0))))
    · have hb1' := hb1
      try simp only [decide_eq_true_eq, decide_eq_false_iff_not, beq_iff_eq, bne_iff_ne, ne_eq, beq_eq_false_iff_ne, bne_eq_false_iff_eq, Bool.not_eq_true'] at hb1'
      exact Fn.go KT Try.func33 [.reg [] [], .reg [] [], .reg [] [(3, .call (AV.tup [AV.agg [AV.sl 1 (ints ev) false, I us, I 2, I v], B true]) [.cells [AV.sl 1 (ints ch) false, AV.nil, I us, I 0, I width] []])], .reg [] [(5, .int (↑(List.length ch) : Int)), (7, .bit true)], .reg [] [(3, .call (B false) [.cells [AV.la 1 2] [], .arr 2 4 (R ++ [[AV.sl 1 (ints ev) false, I us, I 2, I v]]), .cells [AV.la 3 2] [], .arr 2 1 (L ++ [[AV.sl 1 (ints ch) false]])])]] [] [] (B false) ([.cells [AV.la 1 2] [], .arr 2 4 (R ++ [[AV.sl 1 (ints ev) false, I us, I 2, I v]]), .cells [AV.la 3 2] [], .arr 2 1 (L ++ [[AV.sl 1 (ints ch) false]])]) (by kernel_rfl) (ob1 (hr) (q ((↑(List.length (ints ch)) : Int) = (↑(List.length ch) : Int)) (q (((↑(List.length ch) : Int) == (↑n : Int)) = true) (ob1 (SoundCall.to (hs) (pf (B b = B false)) rfl) ob0))))
  · rcases Bool.eq_false_or_eq_true (b) with hb1 | hb1
    · have hb1' := hb1
      try simp only [decide_eq_true_eq, decide_eq_false_iff_not, beq_iff_eq, bne_iff_ne, ne_eq, beq_eq_false_iff_ne, bne_eq_false_iff_eq, Bool.not_eq_true'] at hb1'
      exact Fn.go KT Try.func33 [.reg [] [], .reg [] [], .reg [] [(3, .call (AV.tup [AV.agg [AV.sl 1 (ints ev) false, I us, I en, I v], B true]) [.cells [AV.sl 1 (ints ch) false, AV.nil, I us, I 0, I width] []])], .reg [] [(2, .bit true)], .reg [] [(3, .call (B true) [.cells [AV.la 1 2] [], .arr 2 4 (R ++ [[AV.sl 1 (ints ev) false, I us, I en, I v]]), .cells [AV.la 3 2] [], .arr 2 1 (L ++ [[AV.sl 1 (ints ch) false]])])]] [] [] (B true) ([.cells [AV.la 1 2] [], .arr 2 4 (R ++ [[AV.sl 1 (ints ev) false, I us, I en, I v]]), .cells [AV.la 3 2] [], .arr 2 1 (L ++ [[AV.sl 1 (ints ch) false]])]) (by kernel_rfl) (ob1 (hr) (q ((en != 2) = true) (ob1 (SoundCall.to (hs) (pf (B b = B true)) rfl) ob0)))
    · have hb1' := hb1
      try simp only [decide_eq_true_eq, decide_eq_false_iff_not, beq_iff_eq, bne_iff_ne, ne_eq, beq_eq_false_iff_ne, bne_eq_false_iff_eq, Bool.not_eq_true'] at hb1'
      exact Fn.go KT Try.func33 [.reg [] [], .reg [] [], .reg [] [(3, .call (AV.tup [AV.agg [AV.sl 1 (ints ev) false, I us, I en, I v], B true]) [.cells [AV.sl 1 (ints ch) false, AV.nil, I us, I 0, I width] []])], .reg [] [(2, .bit true)], .reg [] [(3, .call (B false) [.cells [AV.la 1 2] [], .arr 2 4 (R ++ [[AV.sl 1 (ints ev) false, I us, I en, I v]]), .cells [AV.la 3 2] [], .arr 2 1 (L ++ [[AV.sl 1 (ints ch) false]])])]] [] [] (B false) ([.cells [AV.la 1 2] [], .arr 2 4 (R ++ [[AV.sl 1 (ints ev) false, I us, I en, I v]]), .cells [AV.la 3 2] [], .arr 2 1 (L ++ [[AV.sl 1 (ints ch) false]])]) (by kernel_rfl) (ob1 (hr) (q ((en != 2) = true) (ob1 (SoundCall.to (hs) (pf (B b = B false)) rfl) ob0)))

/-- A state of the loop. -/
abbrev allS (w : Int) (c : Nat) : ASt := ⟨lookT [(1, .sl 1 (ints ch) false), (2, I (n : Int)), (3, I fuel), (4, .fn 34 [.lp 0 0, .lp 2 0]), (5, .lp 4 0), (41, I w), (42, I (c : Int))],
  [.cells [.la 1 1] [], .arr 1 4 R, .cells [.la 3 1] [], .arr 1 1 L, .cells (Prog.enc ⟨es, ds, .mk mk mn mv (.mk mtk mtv mtl) ml⟩) []]⟩

set_option maxRecDepth 20000 in
theorem all_end (w : Int) (c : Nat) (h : w ≤ (c : Int)) (hw : w ≤ 4) :
    T Try.prog 61 4 (loopN Try.f33 0) (allS es ds mk mn mv mtk mtv mtl ml fuel n ch R L w c) (.exit 0) ⟨lookT [], [.cells [.la 1 1] [], .arr 1 4 R, .cells [.la 3 1] [], .arr 1 1 L]⟩ := by
  unfold allS
  exact evBody_sound (K := KT) (orc := [.reg [] [(0, .bit false)]]) (fin := [.keep []]) (by kernel_rfl) (q (decide ((↑c : Int) < w) = false) ob0)

set_option maxRecDepth 20000 in
theorem all_out (w : Int) (c : Nat) (h : (c : Int) < w) (hw : w ≤ 4) (hl : ch.length ≤ 64) (R1 L1 : List (List AV))
    (hr : SoundCall Try.prog 33 [.agg (Prog.enc ⟨es, ds, .mk mk mn mv (.mk mtk mtv mtl) ml⟩), .sl 1 (List.take ch.length (ints ch) ++ [[I (c : Int)]]) false, I (n : Int), I fuel, .fn 34 [.lp 0 0, .lp 2 0]] [.cells [.la 1 1] [], .arr 1 4 R, .cells [.la 3 1] [], .arr 1 1 L]
      (B false) [.cells [.la 1 2] [], .arr 2 4 R1, .cells [.la 3 2] [], .arr 2 1 L1]) :
    T Try.prog 61 4 (loopN Try.f33 0) (allS es ds mk mn mv mtk mtv mtl ml fuel n ch R L w c) .ret ⟨lookT [(10, B false)], [.cells [.la 1 2] [], .arr 2 4 R1, .cells [.la 3 2] [], .arr 2 1 L1]⟩ := by
  have hF : Fits ((ints ch).length + 1) (ints ch).length 8 := by apply Fits.of; simp; omega
  unfold allS
  exact evBody_sound (K := KT) (orc := [.reg [] [(0, .bit true)], .reg [] [], .reg [] [(3, .int (↑(List.length ch) : Int)), (5, .int (↑(List.length ch) : Int)), (6, .rows (List.take (List.length ch) (ints ch))), (13, .call (B false) [.cells [AV.la 1 2] [], .arr 2 4 R1, .cells [AV.la 3 2] [], .arr 2 1 L1])], .reg [] []]) (fin := [.keep [(10, [])]]) (by kernel_rfl) (q (decide ((↑c : Int) < w) = true) (q ((↑(List.length (ints ch)) : Int) = (↑(List.length ch) : Int)) (q ((↑(List.length (ints ch)) : Int) = (↑(List.length ch) : Int)) (q ((0 : Int) ≤ Option.getD none (0 : Int)) (q (Option.getD none (0 : Int) ≤ (↑(List.length ch) : Int)) (q ((↑(List.length ch) : Int) ≤ (↑(List.length (ints ch)) : Int)) (q ((↑(List.length ch) : Int) = (↑(List.length ch) : Int)) (q (List.drop (Int.toNat (Option.getD none (0 : Int))) (List.take (Int.toNat (↑(List.length ch) : Int)) (ints ch)) = List.take (List.length ch) (ints ch)) (q (Fits (List.length (List.take (List.length ch) (ints ch)) + 1) (List.length (List.take (List.length ch) (ints ch))) 8) (ob1 (hr) ob0))))))))))

set_option maxRecDepth 20000 in
theorem all_next (w : Int) (c : Nat) (h : (c : Int) < w) (hw : w ≤ 4) (hl : ch.length ≤ 64) (R1 L1 : List (List AV))
    (hr : SoundCall Try.prog 33 [.agg (Prog.enc ⟨es, ds, .mk mk mn mv (.mk mtk mtv mtl) ml⟩), .sl 1 (List.take ch.length (ints ch) ++ [[I (c : Int)]]) false, I (n : Int), I fuel, .fn 34 [.lp 0 0, .lp 2 0]] [.cells [.la 1 1] [], .arr 1 4 R, .cells [.la 3 1] [], .arr 1 1 L]
      (B true) [.cells [.la 1 2] [], .arr 2 4 R1, .cells [.la 3 2] [], .arr 2 1 L1]) :
    T Try.prog 61 4 (loopN Try.f33 0) (allS es ds mk mn mv mtk mtv mtl ml fuel n ch R L w c) .normal
      ⟨lookT [(1, .sl 1 (ints ch) false), (2, I (n : Int)), (3, I fuel), (4, .fn 34 [.lp 0 0, .lp 2 0]), (5, .lp 4 0), (41, I w), (42, I ((c : Int) + 1))],
  [.cells [.la 1 2] [], .arr 2 4 R1, .cells [.la 3 2] [], .arr 2 1 L1, .cells (Prog.enc ⟨es, ds, .mk mk mn mv (.mk mtk mtv mtl) ml⟩) []]⟩ := by
  have hF : Fits ((ints ch).length + 1) (ints ch).length 8 := by apply Fits.of; simp; omega
  unfold allS
  exact evBody_sound (K := KT) (orc := [.reg [] [(0, .bit true)], .reg [] [], .reg [] [(3, .int (↑(List.length ch) : Int)), (5, .int (↑(List.length ch) : Int)), (6, .rows (List.take (List.length ch) (ints ch))), (13, .call (B true) [.cells [AV.la 1 2] [], .arr 2 4 R1, .cells [AV.la 3 2] [], .arr 2 1 L1])], .reg [] [(0, .int ((↑c : Int) + 1))]]) (fin := [.keep [(1, []), (2, []), (3, []), (4, []), (5, []), (41, []), (42, [])]]) (by kernel_rfl) (q (decide ((↑c : Int) < w) = true) (q ((↑(List.length (ints ch)) : Int) = (↑(List.length ch) : Int)) (q ((↑(List.length (ints ch)) : Int) = (↑(List.length ch) : Int)) (q ((0 : Int) ≤ Option.getD none (0 : Int)) (q (Option.getD none (0 : Int) ≤ (↑(List.length ch) : Int)) (q ((↑(List.length ch) : Int) ≤ (↑(List.length (ints ch)) : Int)) (q ((↑(List.length ch) : Int) = (↑(List.length ch) : Int)) (q (List.drop (Int.toNat (Option.getD none (0 : Int))) (List.take (Int.toNat (↑(List.length ch) : Int)) (ints ch)) = List.take (List.length ch) (ints ch)) (q (Fits (List.length (List.take (List.length ch) (ints ch)) + 1) (List.length (List.take (List.length ch) (ints ch))) 8) (ob1 (hr) (qw ((↑c : Int) + 1) ob0)))))))))))

end
end Go.Ae

/- eval.all, whole; eval.All. -/
namespace Go.Ae
open Go.Proofs

/-- The two lists. -/
abbrev boxes (g : Nat) (acc : Acc) : List AObj := [.cells [.la 1 g] [], .arr g 4 (rrows acc), .cells [.la 3 g] [], .arr g 1 (lrows acc)]

section
variable (es : List ByteArray) (ds : List Def) (mk mn mv mtk mtv : Int) (mtl : List Ty) (ml : List Expr) (fuel : Int) (n : Nat) (ch : List Int)

set_option maxRecDepth 20000 in
theorem all_node (ev : List Int) (us v w : Int) (R L R1 L1 : List (List AV)) (hl : ch.length ≤ 64) (hn : n ≤ 64) (hne : ch.length ≠ n) (hw : w ≤ 4)
    (hr : SoundCall Try.prog 24 [.agg (Prog.enc ⟨es, ds, .mk mk mn mv (.mk mtk mtv mtl) ml⟩), .lp 0 0, I fuel] [lists ch 0 0] (.tup [.agg [.sl 1 (ints ev) false, I us, I 2, I v], B true]) [lists ch us w])
    (lp : Lp Try.prog 61 4 (loopN Try.f33 0) (allS es ds mk mn mv mtk mtv mtl ml fuel n ch R L w 0) (.exit 0) ⟨lookT [], [.cells [.la 1 2] [], .arr 2 4 R1, .cells [.la 3 2] [], .arr 2 1 L1]⟩) :
    SoundCall Try.prog 33 [.agg (Prog.enc ⟨es, ds, .mk mk mn mv (.mk mtk mtv mtl) ml⟩), .sl 1 (ints ch) false, I (n : Int), I fuel, .fn 34 [.lp 0 0, .lp 2 0]] [.cells [.la 1 1] [], .arr 1 4 R, .cells [.la 3 1] [], .arr 1 1 L]
      (B true) [.cells [.la 1 2] [], .arr 2 4 R1, .cells [.la 3 2] [], .arr 2 1 L1] := by
  unfold allS at lp
  exact Fn.go KT Try.func33 [.reg [] [], .reg [] [], .reg [] [(3, .call (AV.tup [AV.agg [AV.sl 1 (ints ev) false, I us, I 2, I v], B true]) [.cells [AV.sl 1 (ints ch) false, AV.nil, I us, I 0, I w] []])], .reg [] [(5, .int (↑(List.length ch) : Int)), (7, .bit false)], .reg [] [], .loop [.keep [(1, []), (2, []), (3, []), (4, []), (5, []), (41, []), (42, [])]] (Exit.exit 0) { tm := lookT [], st := [.cells [AV.la 1 2] [], .arr 2 4 R1, .cells [AV.la 3 2] [], .arr 2 1 L1] }, .reg [] []] [] [] (B true) ([.cells [AV.la 1 2] [], .arr 2 4 R1, .cells [AV.la 3 2] [], .arr 2 1 L1]) (by kernel_rfl) (ob1 (hr) (q ((↑(List.length (ints ch)) : Int) = (↑(List.length ch) : Int)) (q (((↑(List.length ch) : Int) == (↑n : Int)) = false) (ob1 (lp) ob0))))

set_option maxRecDepth 20000 in
theorem all_nodef (ev : List Int) (us v w : Int) (R L R1 L1 : List (List AV)) (hl : ch.length ≤ 64) (hn : n ≤ 64) (hne : ch.length ≠ n) (hw : w ≤ 4)
    (hr : SoundCall Try.prog 24 [.agg (Prog.enc ⟨es, ds, .mk mk mn mv (.mk mtk mtv mtl) ml⟩), .lp 0 0, I fuel] [lists ch 0 0] (.tup [.agg [.sl 1 (ints ev) false, I us, I 2, I v], B true]) [lists ch us w])
    (lp : Lp Try.prog 61 4 (loopN Try.f33 0) (allS es ds mk mn mv mtk mtv mtl ml fuel n ch R L w 0) .ret ⟨lookT [(10, B false)], [.cells [.la 1 2] [], .arr 2 4 R1, .cells [.la 3 2] [], .arr 2 1 L1]⟩) :
    SoundCall Try.prog 33 [.agg (Prog.enc ⟨es, ds, .mk mk mn mv (.mk mtk mtv mtl) ml⟩), .sl 1 (ints ch) false, I (n : Int), I fuel, .fn 34 [.lp 0 0, .lp 2 0]] [.cells [.la 1 1] [], .arr 1 4 R, .cells [.la 3 1] [], .arr 1 1 L]
      (B false) [.cells [.la 1 2] [], .arr 2 4 R1, .cells [.la 3 2] [], .arr 2 1 L1] := by
  unfold allS at lp
  exact Fn.go KT Try.func33 [.reg [] [], .reg [] [], .reg [] [(3, .call (AV.tup [AV.agg [AV.sl 1 (ints ev) false, I us, I 2, I v], B true]) [.cells [AV.sl 1 (ints ch) false, AV.nil, I us, I 0, I w] []])], .reg [] [(5, .int (↑(List.length ch) : Int)), (7, .bit false)], .reg [] [], .loop [.keep [(1, []), (2, []), (3, []), (4, []), (5, []), (41, []), (42, [])]] Exit.ret { tm := lookT [(10, B false)], st := [.cells [AV.la 1 2] [], .arr 2 4 R1, .cells [AV.la 3 2] [], .arr 2 1 L1] }] [] [] (B false) ([.cells [AV.la 1 2] [], .arr 2 4 R1, .cells [AV.la 3 2] [], .arr 2 1 L1]) (by kernel_rfl) (ob1 (hr) (q ((↑(List.length (ints ch)) : Int) = (↑(List.length ch) : Int)) (q (((↑(List.length ch) : Int) == (↑n : Int)) = false) (ob1 (lp) ob0))))

theorem all_loop (w : Int) (hw : w ≤ 4) (hl : ch.length ≤ 64) {Q : List Int → Acc → Acc → Bool → Prop}
    (hQ : ∀ (c : Nat) (acc acc' : Acc) (b : Bool), (c : Int) < w → Q (ch ++ [(c : Int)]) acc acc' b → acc.length ≤ 1024 →
      SoundCall Try.prog 33 [.agg (Prog.enc ⟨es, ds, .mk mk mn mv (.mk mtk mtv mtl) ml⟩), .sl 1 (List.take ch.length (ints ch) ++ [[I (c : Int)]]) false, I (n : Int), I fuel, .fn 34 [.lp 0 0, .lp 2 0]] (boxes 1 acc) (B b) (boxes 2 acc') ∧
      (b = true → acc'.length ≤ 1024)) : ∀ (c : Nat) (acc acc' : Acc) (b : Bool), AllK Q ch w c acc acc' b → acc.length ≤ 1024 →
    Lp0 Try.prog 61 4 (loopN Try.f33 0) (allS es ds mk mn mv mtk mtv mtl ml fuel n ch (rrows acc) (lrows acc) w c) (bif b then .exit 0 else .ret) (bif b then ⟨lookT [], boxes 1 acc'⟩ else ⟨lookT [(10, B false)], boxes 1 acc'⟩) := by
  intro c acc acc' b hk
  induction hk with
  | @stop c acc h =>
    intro ha
    exact Lp0.stop [] (all_end es ds mk mn mv mtk mtv mtl ml fuel n ch (rrows acc) (lrows acc) w c h hw) (by simp) (by kernel_rfl)
  | @out c acc acc' h r =>
    intro ha
    obtain ⟨hs, _⟩ := hQ _ _ _ _ h r ha
    exact Lp0.stop [10] (all_out es ds mk mn mv mtk mtv mtl ml fuel n ch (rrows acc) (lrows acc) w c h hw hl (rrows acc') (lrows acc') hs) (by simp) (by kernel_rfl)
  | @next c acc acc1 acc' b h r k ih =>
    intro ha
    obtain ⟨hs, hb⟩ := hQ _ _ _ _ h r ha
    exact Lp0.more [1, 2, 3, 4, 5, 41, 42] (all_next es ds mk mn mv mtk mtv mtl ml fuel n ch (rrows acc) (lrows acc) w c h hw hl (rrows acc1) (lrows acc1) hs) (by kernel_rfl) (ih (hb rfl))
end

theorem all_ {p : Prog} (hv : Valid p) {fuel : Int} (hf : 0 ≤ fuel) (hf2 : fuel ≤ 1048576) {n : Nat} (hn : n ≤ 64) : ∀ (d : Nat) (ch : List Int) (acc acc' : Acc) (b : Bool), ch.length + d = n → Full p fuel ch → AllD p fuel n d ch acc acc' b → acc.length ≤ 1024 →
    SoundCall Try.prog 33 [.agg p.enc, .sl 1 (ints ch) false, I (n : Int), I fuel, .fn 34 [.lp 0 0, .lp 2 0]] (boxes 1 acc) (B b) (boxes 2 acc') := by
  have leaf : ∀ (ch : List Int) (acc acc' : Acc) (b : Bool), ch.length ≤ n → Leaf p fuel n ch acc acc' b → acc.length ≤ 1024 →
      SoundCall Try.prog 33 [.agg p.enc, .sl 1 (ints ch) false, I (n : Int), I fuel, .fn 34 [.lp 0 0, .lp 2 0]] (boxes 1 acc) (B b) (boxes 2 acc') := fun ch acc acc' b hl h ha => by
    obtain ⟨s', en, v, w, hr, hc, rfl, rfl⟩ := h
    have h1 := srun_true hv hf hf2 (by omega) hr
    have h2 := say_ ⟨s'.ev, s'.used, en, v⟩ ch (rrows acc) (lrows acc) (by simpa using ha) (by simpa using ha) (by omega)
    rw [rrows_length] at h2
    obtain ⟨es, ds, mk, mn, mv, ⟨mtk, mtv, mtl⟩, ml⟩ := p
    have := all_leaf es ds mk mn mv mtk mtv mtl ml fuel n ch (rrows acc) (lrows acc) s'.ev s'.used en v w (by simpa using ha) (by simpa using ha) (by omega) hn _ h1 h2 hc
    simp only [boxes, rrows_append, lrows_append]
    exact this
  intro d
  induction d with
  | zero => intro ch acc acc' b hl hF h ha; exact leaf ch acc acc' b (by omega) h ha
  | succ d ih =>
    intro ch acc acc' b hl hF h ha
    rcases h with h | ⟨s', v, w, hr, hne, hk⟩
    · exact leaf ch acc acc' b (by omega) h ha
    · have h1 := srun_true hv hf hf2 (by omega) hr
      have hw := want_width hv hf hr
      have hQ : ∀ (c : Nat) (acc acc' : Acc) (b : Bool), (c : Int) < w → AllD p fuel n d (ch ++ [(c : Int)]) acc acc' b → acc.length ≤ 1024 →
          SoundCall Try.prog 33 [.agg p.enc, .sl 1 (List.take ch.length (ints ch) ++ [[I (c : Int)]]) false, I (n : Int), I fuel, .fn 34 [.lp 0 0, .lp 2 0]] (boxes 1 acc) (B b) (boxes 2 acc') ∧ (b = true → acc'.length ≤ 1024) := fun c acc acc' b hc hq ha => by
        have hF' := Full.next hr (show 0 ≤ (c : Int) by omega) hc
        have h2 := ih (ch ++ [(c : Int)]) acc acc' b (by simp; omega) hF' hq ha
        rw [ints_append] at h2
        rw [List.take_of_length_le (by simp)]
        exact ⟨h2, ((allD_fnd hv hf d _ acc acc' b (by simp; omega) hF' hq).1.len ha).2⟩
      obtain ⟨es, ds, mk, mn, mv, ⟨mtk, mtv, mtl⟩, ml⟩ := p
      have lp := (all_loop es ds mk mn mv mtk mtv mtl ml fuel n ch w hw.2 (by omega) hQ 0 acc acc' b hk ha)
      cases b with
      | true =>
        have lp2 := Lp0.to (s2 := ⟨lookT [], boxes 2 acc'⟩) [] lp (by kernel_rfl) (by kernel_rfl)
        exact all_node es ds mk mn mv mtk mtv mtl ml fuel n ch s'.ev s'.used v w _ _ _ _ (by omega) hn hne hw.2 h1 lp2
      | false =>
        have lp2 := Lp0.to (s2 := ⟨lookT [(10, B false)], boxes 2 acc'⟩) [10] lp (by kernel_rfl) (by kernel_rfl)
        exact all_nodef es ds mk mn mv mtk mtv mtl ml fuel n ch s'.ev s'.used v w _ _ _ _ (by omega) hn hne hw.2 h1 lp2

section
variable (es : List ByteArray) (ds : List Def) (mk mn mv mtk mtv : Int) (mtl : List Ty) (ml : List Expr) (fuel : Int) (n : Int)

theorem All_bad (hc : SoundCall Try.prog 23 [.agg (Prog.enc ⟨es, ds, .mk mk mn mv (.mk mtk mtv mtl) ml⟩)] [] (I 15) []) :
    SoundCall Try.prog 17 [.agg (Prog.enc ⟨es, ds, .mk mk mn mv (.mk mtk mtv mtl) ml⟩), I n, I fuel] [] (.tup [.nil, .nil, I 15]) [] := by
  exact Fn.go KT Try.func17 [.reg [] [], .reg [] [(1, .call (I 15) [])], .reg [] [], .reg [] []] [] [] (AV.tup [AV.nil, AV.nil, I 15]) ([]) (by kernel_rfl) (ob1 (hc) ob0)

theorem All_arg (hc : SoundCall Try.prog 23 [.agg (Prog.enc ⟨es, ds, .mk mk mn mv (.mk mtk mtv mtl) ml⟩)] [] (I 0) []) (h : n < 0 ∨ 64 < n ∨ fuel < 0 ∨ 1048576 < fuel) :
    SoundCall Try.prog 17 [.agg (Prog.enc ⟨es, ds, .mk mk mn mv (.mk mtk mtv mtl) ml⟩), I n, I fuel] [] (.tup [.nil, .nil, I 2]) [] := by
  rcases dsp (n < 0) with ⟨hb1, hb1'⟩ | ⟨hb1, hb1'⟩
  · skip
    exact Fn.go KT Try.func17 [.reg [] [], .reg [] [(1, .call (I 0) [])], .reg [] [], .reg [] [(1, .bit true)], .reg [] []] [] [] (AV.tup [AV.nil, AV.nil, I 2]) ([]) (by kernel_rfl) (ob1 (hc) (q (decide (n < 0) = true) ob0))
  · skip
    rcases dsp (64 < n) with ⟨hb2, hb2'⟩ | ⟨hb2, hb2'⟩
    · skip
      exact Fn.go KT Try.func17 [.reg [] [], .reg [] [(1, .call (I 0) [])], .reg [] [], .reg [] [(1, .bit false), (4, .bit true)], .reg [] []] [] [] (AV.tup [AV.nil, AV.nil, I 2]) ([]) (by kernel_rfl) (ob1 (hc) (q (decide (n < 0) = false) (q (decide (64 < n) = true) ob0)))
    · skip
      rcases dsp (fuel < 0) with ⟨hb3, hb3'⟩ | ⟨hb3, hb3'⟩
      · skip
        exact Fn.go KT Try.func17 [.reg [] [], .reg [] [(1, .call (I 0) [])], .reg [] [], .reg [] [(1, .bit false), (4, .bit false), (8, .bit true)], .reg [] []] [] [] (AV.tup [AV.nil, AV.nil, I 2]) ([]) (by kernel_rfl) (ob1 (hc) (q (decide (n < 0) = false) (q (decide (64 < n) = false) (q (decide (fuel < 0) = true) ob0))))
      · skip
        exact Fn.go KT Try.func17 [.reg [] [], .reg [] [(1, .call (I 0) [])], .reg [] [], .reg [] [(1, .bit false), (4, .bit false), (8, .bit false), (12, .bit true)], .reg [] []] [] [] (AV.tup [AV.nil, AV.nil, I 2]) ([]) (by kernel_rfl) (ob1 (hc) (q (decide (n < 0) = false) (q (decide (64 < n) = false) (q (decide (fuel < 0) = false) (q (decide (1048576 < fuel) = true) ob0)))))

theorem All_limit (hc : SoundCall Try.prog 23 [.agg (Prog.enc ⟨es, ds, .mk mk mn mv (.mk mtk mtv mtl) ml⟩)] [] (I 0) []) (h0 : 0 ≤ n) (h1 : n ≤ 64) (h2 : 0 ≤ fuel) (h3 : fuel ≤ 1048576) (acc' : Acc)
    (h : SoundCall Try.prog 33 [.agg (Prog.enc ⟨es, ds, .mk mk mn mv (.mk mtk mtv mtl) ml⟩), .sl 1 [] false, I n, I fuel, .fn 34 [.lp 0 0, .lp 2 0]] [.cells [.la 1 1] [], .arr 1 4 [], .cells [.la 3 1] [], .arr 1 1 []] (B false) (boxes 2 acc')) :
    SoundCall Try.prog 17 [.agg (Prog.enc ⟨es, ds, .mk mk mn mv (.mk mtk mtv mtl) ml⟩), I n, I fuel] [] (.tup [.nil, .nil, I 3]) [] := by
  exact Fn.go KT Try.func17 [.reg [] [], .reg [] [(1, .call (I 0) [])], .reg [] [], .reg [] [(1, .bit false), (4, .bit false), (8, .bit false), (12, .bit false)], .reg [] [], .reg [] [], .reg [.accO 1 0 4, .accO 2 0 1] [(4, .call (B false) [.cells [AV.la 1 2] [], .arr 2 4 (List.brecOn.go acc' rrows._f).1, .cells [AV.la 3 2] [], .arr 2 1 (List.brecOn.go acc' lrows._f).1])], .reg [] []] [] [] (AV.tup [AV.nil, AV.nil, I 3]) ([]) (by kernel_rfl) (ob1 (hc) (q (decide (n < 0) = false) (q (decide (64 < n) = false) (q (decide (fuel < 0) = false) (q (decide (1048576 < fuel) = false) (ob1 (h) ob0))))))

theorem All_fine (hc : SoundCall Try.prog 23 [.agg (Prog.enc ⟨es, ds, .mk mk mn mv (.mk mtk mtv mtl) ml⟩)] [] (I 0) []) (h0 : 0 ≤ n) (h1 : n ≤ 64) (h2 : 0 ≤ fuel) (h3 : fuel ≤ 1048576) (acc' : Acc)
    (h : SoundCall Try.prog 33 [.agg (Prog.enc ⟨es, ds, .mk mk mn mv (.mk mtk mtv mtl) ml⟩), .sl 1 [] false, I n, I fuel, .fn 34 [.lp 0 0, .lp 2 0]] [.cells [.la 1 1] [], .arr 1 4 [], .cells [.la 3 1] [], .arr 1 1 []] (B true) (boxes 2 acc')) :
    SoundCall Try.prog 17 [.agg (Prog.enc ⟨es, ds, .mk mk mn mv (.mk mtk mtv mtl) ml⟩), I n, I fuel] [] (.tup [.sl 4 (rrows acc') false, .sl 1 (lrows acc') false, I 0]) [] := by
  exact Fn.go KT Try.func17 [.reg [] [], .reg [] [(1, .call (I 0) [])], .reg [] [], .reg [] [(1, .bit false), (4, .bit false), (8, .bit false), (12, .bit false)], .reg [] [], .reg [] [], .reg [.accO 1 0 4, .accO 2 0 1] [(4, .call (B true) [.cells [AV.la 1 2] [], .arr 2 4 (rrows acc'), .cells [AV.la 3 2] [], .arr 2 1 (lrows acc')])], .reg [] []] [.frz 3, .frz 4] [] (AV.tup [AV.sl 4 (rrows acc') false, AV.sl 1 (lrows acc') false, I 0]) ([]) (by kernel_rfl) (ob1 (hc) (q (decide (n < 0) = false) (q (decide (64 < n) = false) (q (decide (fuel < 0) = false) (q (decide (1048576 < fuel) = false) (ob1 (h) ob0))))))
end

end Go.Ae

/- The law EvalEach. -/
namespace Go.Ae
open Go.Proofs

section
variable (es : List ByteArray) (ds : List Def) (mk mn mv mtk mtv : Int) (mtl : List Ty) (ml : List Expr) (fuel : Int) (n : Int)

/-- What Do says of a list. -/
def DoX (p : Prog) (fuel n : Int) (x : Rn × List Int) : Prop :=
  SoundCall Try.prog 12 [.agg p.enc, .sl 1 (ints x.2) false, I fuel] [] (.tup [.agg x.1.enc, I 0]) [] ∧ x.1.us = (x.2.length : Int) ∧ (x.1.en = 2 → n ≤ (x.2.length : Int)) ∧ x.1.ev.length ≤ 4096 ∧ x.2.length ≤ 4096

theorem each_loop (acc : Acc) (hn : acc.length ≤ 1025) (h0 : 0 ≤ n) (h1 : n ≤ 64) : ∀ (us : Acc) (i : Nat), acc.drop i = us → (∀ x ∈ us, DoX ⟨es, ds, .mk mk mn mv (.mk mtk mtv mtl) ml⟩ fuel n x) →
    Lp Try.prog 93 0 (loopN Try.f7 0)
      ⟨lookT [(1, I n), (2, I fuel), (3, .lp 0 0), (7, .sl 4 (rrows acc) false), (8, .sl 1 (lrows acc) false), (42, I (acc.length : Int)), (43, I (i : Int))], [.cells (Prog.enc ⟨es, ds, .mk mk mn mv (.mk mtk mtv mtl) ml⟩) []]⟩ (.exit 0)
      ⟨lookT [], []⟩
  | [], i, hd, hs => by
    have hi := drop_end hd
    clear hs hd
    exact Lp.last KT [.reg [] [(0, .bit false)]] [.keep []] (by kernel_rfl) (q (decide ((↑i : Int) < (↑(List.length acc) : Int)) = false) ob0) (by intro h; cases h)
  | (⟨ev, us, en, v⟩, ch) :: us', i, hd, hs => by
    have hi := drop_lt hd
    have hx : (rrows acc)[i]? = some (Rn.mk ev us en v).enc := by rw [rrows_get, drop_get hd]; rfl
    have hy : (lrows acc)[i]? = some [.sl 1 (ints ch) false] := by rw [lrows_get, drop_get hd]; rfl
    obtain ⟨g1, g2, g3, g4, g5⟩ := hs _ (List.mem_cons_self ..)
    simp only at g1 g2 g3 g4 g5
    have hsm := same_ ev us en v (by omega)
    have ih := each_loop acc hn h0 h1 us' (i + 1) (drop_next hd) (fun x hx => hs x (by simp [hx]))
    clear hs hd
    simp only [Int.natCast_add] at ih
    subst g2
    by_cases he : en = 2
    · subst he
      have g6 := g3 rfl
      clear g3
      exact Lp.next KT [.reg [] [(0, .bit true)], .reg [] [], .reg [] [(3, .row i [AV.sl 1 (ints ch) false]), (6, .call (AV.tup [AV.agg [AV.sl 1 (ints ev) false, I (↑(List.length ch) : Int), I 2, I v], I 0]) [])], .reg [] [(6, .row i (Rn.enc { ev := ev, us := (↑(List.length ch) : Int), en := 2, v := v })), (8, .call (B true) []), (16, .row i [AV.sl 1 (ints ch) false]), (18, .int (↑(List.length ch) : Int)), (19, .bit false), (28, .row i [AV.sl 1 (ints ch) false]), (30, .int (↑(List.length ch) : Int)), (32, .bit false)], .reg [] [(0, .int ((↑i : Int) + 1))]] [.keep [(1, []), (2, []), (3, []), (7, []), (8, []), (42, []), (43, [])]] (by kernel_rfl) (q (decide ((↑i : Int) < (↑(List.length acc) : Int)) = true) (q ((↑i : Int) = (↑i : Int)) (q ((lrows acc)[i]? = some [AV.sl 1 (ints ch) false]) (ob1 (g1) (q ((↑i : Int) = (↑i : Int)) (q ((rrows acc)[i]? = some (Rn.enc { ev := ev, us := (↑(List.length ch) : Int), en := 2, v := v })) (ob1 (hsm) (q ((↑i : Int) = (↑i : Int)) (q ((lrows acc)[i]? = some [AV.sl 1 (ints ch) false]) (q ((↑(List.length (ints ch)) : Int) = (↑(List.length ch) : Int)) (q (((↑(List.length ch) : Int) != (↑(List.length ch) : Int)) = false) (q ((↑i : Int) = (↑i : Int)) (q ((lrows acc)[i]? = some [AV.sl 1 (ints ch) false]) (q ((↑(List.length (ints ch)) : Int) = (↑(List.length ch) : Int)) (q (decide ((↑(List.length ch) : Int) < n) = false) (qw ((↑i : Int) + 1) ob0)))))))))))))))) (ih)
    · clear g3
      exact Lp.next KT [.reg [] [(0, .bit true)], .reg [] [], .reg [] [(3, .row i [AV.sl 1 (ints ch) false]), (6, .call (AV.tup [AV.agg [AV.sl 1 (ints ev) false, I (↑(List.length ch) : Int), I en, I v], I 0]) [])], .reg [] [(6, .row i (Rn.enc { ev := ev, us := (↑(List.length ch) : Int), en := en, v := v })), (8, .call (B true) []), (16, .row i [AV.sl 1 (ints ch) false]), (18, .int (↑(List.length ch) : Int)), (19, .bit false), (24, .bit false)], .reg [] [(0, .int ((↑i : Int) + 1))]] [.keep [(1, []), (2, []), (3, []), (7, []), (8, []), (42, []), (43, [])]] (by kernel_rfl) (q (decide ((↑i : Int) < (↑(List.length acc) : Int)) = true) (q ((↑i : Int) = (↑i : Int)) (q ((lrows acc)[i]? = some [AV.sl 1 (ints ch) false]) (ob1 (g1) (q ((↑i : Int) = (↑i : Int)) (q ((rrows acc)[i]? = some (Rn.enc { ev := ev, us := (↑(List.length ch) : Int), en := en, v := v })) (ob1 (hsm) (q ((↑i : Int) = (↑i : Int)) (q ((lrows acc)[i]? = some [AV.sl 1 (ints ch) false]) (q ((↑(List.length (ints ch)) : Int) = (↑(List.length ch) : Int)) (q (((↑(List.length ch) : Int) != (↑(List.length ch) : Int)) = false) (q ((en == 2) = false) (qw ((↑i : Int) + 1) ob0))))))))))))) (ih)

set_option maxRecDepth 20000 in
theorem each_out (hf : ir fuel) (h : fuel < 0 ∨ 300 < fuel) :
    SoundCall Try.prog 7 [.agg (Prog.enc ⟨es, ds, .mk mk mn mv (.mk mtk mtv mtl) ml⟩), I n, I fuel] [] (B true) [] := by
  have ha := alive_
  rcases dsp (fuel < 0) with ⟨hb1, hb1'⟩ | ⟨hb1, hb1'⟩
  · skip
    exact Fn.go KT Try.func7 [.reg [] [], .reg [] [(1, .bit true)], .reg [] [(0, .call (B true) [])]] [] [] (B true) ([]) (by kernel_rfl) (q (decide (fuel < 0) = true) (ob1 (ha) ob0))
  · skip
    exact Fn.go KT Try.func7 [.reg [] [], .reg [] [(1, .bit false), (4, .bit true)], .reg [] [(0, .call (B true) [])]] [] [] (B true) ([]) (by kernel_rfl) (q (decide (fuel < 0) = false) (q (decide (300 < fuel) = true) (ob1 (ha) ob0)))

theorem each_none (h0 : 0 ≤ fuel) (h1 : fuel ≤ 300) (e : Int) (he : e ≠ 0)
    (h : SoundCall Try.prog 17 [.agg (Prog.enc ⟨es, ds, .mk mk mn mv (.mk mtk mtv mtl) ml⟩), I n, I fuel] [] (.tup [.nil, .nil, I e]) []) :
    SoundCall Try.prog 7 [.agg (Prog.enc ⟨es, ds, .mk mk mn mv (.mk mtk mtv mtl) ml⟩), I n, I fuel] [] (B true) [] := by
  have ha := alive_
  exact Fn.go KT Try.func7 [.reg [] [], .reg [] [(1, .bit false), (4, .bit false)], .reg [] [(3, .call (AV.tup [AV.nil, AV.nil, I e]) [])], .reg [] [(1, .bit true)], .reg [] [(0, .call (B true) [])]] [] [] (B true) ([]) (by kernel_rfl) (q (decide (fuel < 0) = false) (q (decide (300 < fuel) = false) (ob1 (h) (q ((e != 0) = true) (ob1 (ha) ob0)))))

theorem each_fine (h0 : 0 ≤ fuel) (h1 : fuel ≤ 300) (h2 : 0 ≤ n) (h3 : n ≤ 64) (acc : Acc) (hp : 0 < acc.length) (hl : acc.length ≤ 1025)
    (h : SoundCall Try.prog 17 [.agg (Prog.enc ⟨es, ds, .mk mk mn mv (.mk mtk mtv mtl) ml⟩), I n, I fuel] [] (.tup [.sl 4 (rrows acc) false, .sl 1 (lrows acc) false, I 0]) [])
    (hs : ∀ x ∈ acc, DoX ⟨es, ds, .mk mk mn mv (.mk mtk mtv mtl) ml⟩ fuel n x) :
    SoundCall Try.prog 7 [.agg (Prog.enc ⟨es, ds, .mk mk mn mv (.mk mtk mtv mtl) ml⟩), I n, I fuel] [] (B true) [] := by
  have ha := alive_
  have lp := each_loop es ds mk mn mv mtk mtv mtl ml fuel n acc hl h2 h3 acc 0 rfl hs
  clear hs
  rcases bsp ((↑(List.length acc) : Int)) (0) with ⟨hb1, hb1'⟩ | ⟨hb1, hb1'⟩
  · skip
    exfalso; first | contradiction | omega | (simp_all; done)
  · skip
    exact Fn.go KT Try.func7 [.reg [] [], .reg [] [(1, .bit false), (4, .bit false)], .reg [] [(3, .call (AV.tup [AV.sl 4 (rrows acc) false, AV.sl 1 (lrows acc) false, I 0]) [])], .reg [] [], .reg [] [(1, .int (↑(List.length acc) : Int)), (3, .int (↑(List.length acc) : Int)), (4, .bit false), (7, .int (↑(List.length acc) : Int)), (8, .bit false)], .reg [] [(1, .int (↑(List.length acc) : Int))], .loop [.keep [(1, []), (2, []), (3, []), (7, []), (8, []), (42, []), (43, [])]] (Exit.exit 0) { tm := lookT [], st := [] }, .reg [] [(0, .call (B true) [])]] [] [] (B true) ([]) (by kernel_rfl) (q (decide (fuel < 0) = false) (q (decide (300 < fuel) = false) (ob1 (h) (q ((↑(List.length (rrows acc)) : Int) = (↑(List.length acc) : Int)) (q ((↑(List.length (lrows acc)) : Int) = (↑(List.length acc) : Int)) (q (((↑(List.length acc) : Int) != (↑(List.length acc) : Int)) = false) (q ((↑(List.length (rrows acc)) : Int) = (↑(List.length acc) : Int)) (q (((↑(List.length acc) : Int) == 0) = false) (q ((↑(List.length (rrows acc)) : Int) = (↑(List.length acc) : Int)) (ob1 (lp) (ob1 (ha) ob0)))))))))))
end

theorem elaw_ (p : Prog) (hok : p.ok) (n fuel : Int) (hif : ir fuel) :
    SoundCall Try.prog 7 [.agg p.enc, I n, I fuel] [] (B true) [] := by
  obtain ⟨hc, hc2, hv⟩ := chkE_spec p hok
  by_cases h : fuel < 0 ∨ 300 < fuel
  · obtain ⟨es, ds, mk, mn, mv, ⟨mtk, mtv, mtl⟩, ml⟩ := p
    exact each_out es ds mk mn mv mtk mtv mtl ml fuel n hif h
  · rcases hc2 with h0 | h15
    · have hval := hv h0
      by_cases hn : n < 0 ∨ 64 < n
      · rw [h0] at hc
        obtain ⟨es, ds, mk, mn, mv, ⟨mtk, mtv, mtl⟩, ml⟩ := p
        exact each_none es ds mk mn mv mtk mtv mtl ml fuel n (by omega) (by omega) 2 (by omega) (All_arg es ds mk mn mv mtk mtv mtl ml fuel n hc (by omega))
      · obtain ⟨m, rfl⟩ := Int.eq_ofNat_of_zero_le (show 0 ≤ n by omega)
        obtain ⟨acc, b, hD⟩ := allD_ex (n := m) hval (show 0 ≤ fuel by omega) m [] [] (by simp) Full.nil
        have hs := all_ hval (show 0 ≤ fuel by omega) (by omega) (by omega) m [] [] acc b (by simp) Full.nil hD (by simp)
        obtain ⟨⟨⟨t, e1, e2⟩, e3⟩, e4⟩ := allD_fnd hval (show 0 ≤ fuel by omega) m [] [] acc b (by simp) Full.nil hD
        have e5 := e3 (by simp)
        simp only [List.nil_append] at e1
        subst e1
        have hX : ∀ x ∈ acc, DoX p fuel (m : Int) x := fun x hx => by
          obtain ⟨s', en, v, w, hr, r1, r2, r3, r4⟩ := e2 x hx
          have hl2 : x.2.length ≤ 4096 := by omega
          have hd := do_ (DoR.fine (hok := hok) h0 (by omega) (by omega) hl2 hr)
          obtain ⟨k, _, _, _, hi⟩ := hval.inv (show 0 ≤ fuel by omega) x.2
          have hev := (hr.inv hval.pt hi).1.ev
          obtain ⟨r, ch⟩ := x
          simp only at r1 r2 r3 hd hl2 r4 hev
          subst r1
          exact ⟨hd, by simp only [r2], fun he => by have := r3 he; simp only; omega, hev, hl2⟩
        rw [h0] at hc
        obtain ⟨es, ds, mk, mn, mv, ⟨mtk, mtv, mtl⟩, ml⟩ := p
        cases b with
        | true => exact each_fine es ds mk mn mv mtk mtv mtl ml fuel m (by omega) (by omega) (by omega) (by omega) acc (by simpa using e4) e5.1 (All_fine es ds mk mn mv mtk mtv mtl ml fuel m hc (by omega) (by omega) (by omega) (by omega) acc hs) hX
        | false => exact each_none es ds mk mn mv mtk mtv mtl ml fuel m (by omega) (by omega) 3 (by omega) (All_limit es ds mk mn mv mtk mtv mtl ml fuel m hc (by omega) (by omega) (by omega) (by omega) acc hs)
    · rw [h15] at hc
      obtain ⟨es, ds, mk, mn, mv, ⟨mtk, mtv, mtl⟩, ml⟩ := p
      exact each_none es ds mk mn mv mtk mtv mtl ml fuel n (by omega) (by omega) 15 (by omega) (All_bad es ds mk mn mv mtk mtv mtl ml fuel n hc)

end Go.Ae

/- eval.Do. .. (AeNNM12, AeNNM13, AeNNMA, AeNNM14, AeNNM15, AeNNM16) -/
import Derived.Test.YtcmlbbgbfgikaaaDoorT10
set_option linter.unusedSimpArgs false
set_option linter.unusedVariables false
/- eval.Do. -/
namespace Go.Ae
open Go.Proofs

/-- Where a run begins. -/
def start (p : Prog) : MS := ⟨0, [], [], some p.main, [], vZ, 0, 0⟩

theorem Valid.inv {p : Prog} (hv : Valid p) {fuel : Int} (hf : 0 ≤ fuel) (ch is : List Int) : ∃ k : Int, 1 ≤ k ∧ k ≤ 4 ∧ tImp p p.main [] = (tyF k, true) ∧ Inv p (tyF k) fuel ch is (start p) := by
  obtain ⟨k, h1, h2, h3⟩ := hv.mty
  have hn : p.main.nodes ≤ 400 := by have := szC_le (by omega) hv.msz; omega
  refine ⟨k, h1, h2, h3, ⟨⟨_, ⟨[], .nil, h3, hn, hv.mok⟩, .nil⟩, by simp [start], hf, ?_, by simp [start], by simp [start], by simp [start], by simp [start]⟩⟩
  simp only [MS.psi, start, pends, nodesO]
  simp
  omega

theorem Valid.run {p : Prog} (hv : Valid p) {fuel : Int} (hf : 0 ≤ fuel) (ch is : List Int) : ∃ s' en value width wrong, MRun p fuel ch is (start p) s' en value width wrong := by
  obtain ⟨k, _, _, _, hi⟩ := hv.inv hf ch is
  exact run_ex hv.pt _ hi

theorem mrun_ {p : Prog} (hv : Valid p) {fuel : Int} (hf : 0 ≤ fuel) (hf2 : fuel ≤ 1048576) {ch is : List Int} (hc : ch.length ≤ 4294967296) (hci : is.length ≤ 4294967296) {s' : MS} {en value width : Int} {wrong : Bool} (h : MRun p fuel ch is (start p) s' en value width wrong) :
    SoundCall Tryd.prog 16 [.lp 0 0] [Mc0 fuel p 1, lists ch is (0) 0 0] (.lp 0 0) (objsR p fuel ch is s' en value width wrong) := by
  obtain ⟨k, _, _, _, hi⟩ := hv.inv hf ch is
  have lp := run_lp hv.pt hf2 hc hci h hi
  obtain ⟨es, ds, mk, mn, mv, ⟨mtk, mtv, mtl⟩, ml⟩ := p
  obtain ⟨st2, ev2, fr2, e2, env2, ⟨vn, vf, vl, ve⟩, us2, ui2⟩ := s'
  exact run0 fuel es ds mk mn mv mtk mtv mtl ml ch is (0) st2 _ _ e2 env2 vn vf vl ve us2 ch is (ui2) en value width wrong lp

theorem srun_true {p : Prog} (hv : Valid p) {fuel : Int} (hf : 0 ≤ fuel) (hf2 : fuel ≤ 1048576) {ch is : List Int} (hc : ch.length ≤ 4294967296) (hci : is.length ≤ 4294967296) {s' : MS} {en value width : Int} (h : MRun p fuel ch is (start p) s' en value width false) :
    SoundCall Tryd.prog 11 [.agg p.enc, .lp 0 0, I fuel] [lists ch is (0) 0 0] (.tup [.agg [.sl 1 (ints s'.ev) false, I s'.used, I en, I value], B true]) [lists ch is (s'.ui) s'.used width] := by
  have hm := mrun_ hv hf hf2 hc hci h
  obtain ⟨es, ds, mk, mn, mv, ⟨mtk, mtv, mtl⟩, ml⟩ := p
  obtain ⟨st2, ev2, fr2, e2, env2, ⟨vn, vf, vl, ve⟩, us2, ui2⟩ := s'
  exact srun_ok fuel es ds mk mn mv mtk mtv mtl ml ch is (0) st2 ev2 _ e2 env2 vn vf vl ve us2 ch is (ui2) en value width hm

theorem srun_false {p : Prog} (hv : Valid p) {fuel : Int} (hf : 0 ≤ fuel) (hf2 : fuel ≤ 1048576) {ch is : List Int} (hc : ch.length ≤ 4294967296) (hci : is.length ≤ 4294967296) {s' : MS} {en value width : Int} (h : MRun p fuel ch is (start p) s' en value width true) :
    SoundCall Tryd.prog 11 [.agg p.enc, .lp 0 0, I fuel] [lists ch is (0) 0 0] (.tup [.agg [.sl 1 [] false, I 0, I 0, I 0], B false]) [lists ch is (s'.ui) s'.used width] := by
  have hm := mrun_ hv hf hf2 hc hci h
  obtain ⟨es, ds, mk, mn, mv, ⟨mtk, mtv, mtl⟩, ml⟩ := p
  obtain ⟨st2, ev2, fr2, e2, env2, ⟨vn, vf, vl, ve⟩, us2, ui2⟩ := s'
  exact srun_bad fuel es ds mk mn mv mtk mtv mtl ml ch is (0) st2 _ _ e2 env2 vn vf vl ve us2 ch is (ui2) en value width hm

/-- What Check answers. -/
noncomputable def chkE (p : Prog) (hok : p.ok) : Int := Classical.choose (lcheck_ p hok)
theorem chkE_spec (p : Prog) (hok : p.ok) : SoundCall Tryd.prog 10 [.agg p.enc] [] (I (chkE p hok)) [] ∧ (chkE p hok = 0 ∨ chkE p hok = 15) ∧ (chkE p hok = 0 → Valid p) := Classical.choose_spec (lcheck_ p hok)

section
variable (es : List ByteArray) (ds : List Def) (mk mn mv mtk mtv : Int) (mtl : List Ty) (ml : List Expr) (ch is : List Int) (fuel : Int)

theorem do_bad (hc : SoundCall Tryd.prog 10 [.agg (Prog.enc ⟨es, ds, .mk mk mn mv (.mk mtk mtv mtl) ml⟩)] [] (I 15) []) :
    SoundCall Tryd.prog 6 [.agg (Prog.enc ⟨es, ds, .mk mk mn mv (.mk mtk mtv mtl) ml⟩), .sl 1 (ints ch) false, .sl 1 (ints is) false, I fuel] [] (.tup [.agg [.sl 1 [] false, I 0, I 0, I 0], I 0, I 15]) [] := by
  exact Fn.go KT Tryd.func6 [.reg [] [], .reg [] [(1, .call (I 15) [])], .reg [] [], .reg [] []] [.tidO 1 [some 1, none, none, none]] [] (AV.tup [AV.agg [AV.sl 1 [] false, I 0, I 0, I 0], I 0, I 15]) ([]) (by kernel_rfl) (ob1 (hc) ob0)

theorem do_arg (hc : SoundCall Tryd.prog 10 [.agg (Prog.enc ⟨es, ds, .mk mk mn mv (.mk mtk mtv mtl) ml⟩)] [] (I 0) []) (h : fuel < 0 ∨ 1048576 < fuel ∨ 4096 < ch.length ∨ 4096 < is.length) :
    SoundCall Tryd.prog 6 [.agg (Prog.enc ⟨es, ds, .mk mk mn mv (.mk mtk mtv mtl) ml⟩), .sl 1 (ints ch) false, .sl 1 (ints is) false, I fuel] [] (.tup [.agg [.sl 1 [] false, I 0, I 0, I 0], I 0, I 2]) [] := by
  rcases dsp (fuel < 0) with ⟨hb1, hb1'⟩ | ⟨hb1, hb1'⟩
  · skip
    exact Fn.go KT Tryd.func6 [.reg [] [], .reg [] [(1, .call (I 0) [])], .reg [] [], .reg [] [(1, .bit true)], .reg [] []] [.tidO 1 [some 1, none, none, none]] [] (AV.tup [AV.agg [AV.sl 1 [] false, I 0, I 0, I 0], I 0, I 2]) ([]) (by kernel_rfl) (ob1 (hc) (q (decide (fuel < 0) = true) ob0))
  · skip
    rcases dsp (1048576 < fuel) with ⟨hb2, hb2'⟩ | ⟨hb2, hb2'⟩
    · skip
      exact Fn.go KT Tryd.func6 [.reg [] [], .reg [] [(1, .call (I 0) [])], .reg [] [], .reg [] [(1, .bit false), (4, .bit true)], .reg [] []] [.tidO 1 [some 1, none, none, none]] [] (AV.tup [AV.agg [AV.sl 1 [] false, I 0, I 0, I 0], I 0, I 2]) ([]) (by kernel_rfl) (ob1 (hc) (q (decide (fuel < 0) = false) (q (decide (1048576 < fuel) = true) ob0)))
    · skip
      rcases dsp (4096 < (↑(List.length ch) : Int)) with ⟨hb3, hb3'⟩ | ⟨hb3, hb3'⟩
      · skip
        exact Fn.go KT Tryd.func6 [.reg [] [], .reg [] [(1, .call (I 0) [])], .reg [] [], .reg [] [(1, .bit false), (4, .bit false), (8, .int (↑(List.length ch) : Int)), (9, .bit true)], .reg [] []] [.tidO 1 [some 1, none, none, none]] [] (AV.tup [AV.agg [AV.sl 1 [] false, I 0, I 0, I 0], I 0, I 2]) ([]) (by kernel_rfl) (ob1 (hc) (q (decide (fuel < 0) = false) (q (decide (1048576 < fuel) = false) (q ((↑(List.length (ints ch)) : Int) = (↑(List.length ch) : Int)) (q (decide (4096 < (↑(List.length ch) : Int)) = true) ob0)))))
      · skip
        exact Fn.go KT Tryd.func6 [.reg [] [], .reg [] [(1, .call (I 0) [])], .reg [] [], .reg [] [(1, .bit false), (4, .bit false), (8, .int (↑(List.length ch) : Int)), (9, .bit false), (13, .int (↑(List.length is) : Int)), (14, .bit true)], .reg [] []] [.tidO 1 [some 1, none, none, none]] [] (AV.tup [AV.agg [AV.sl 1 [] false, I 0, I 0, I 0], I 0, I 2]) ([]) (by kernel_rfl) (ob1 (hc) (q (decide (fuel < 0) = false) (q (decide (1048576 < fuel) = false) (q ((↑(List.length (ints ch)) : Int) = (↑(List.length ch) : Int)) (q (decide (4096 < (↑(List.length ch) : Int)) = false) (q ((↑(List.length (ints is)) : Int) = (↑(List.length is) : Int)) (q (decide (4096 < (↑(List.length is) : Int)) = true) ob0)))))))

theorem do_wrong (hc : SoundCall Tryd.prog 10 [.agg (Prog.enc ⟨es, ds, .mk mk mn mv (.mk mtk mtv mtl) ml⟩)] [] (I 0) []) (h0 : 0 ≤ fuel) (h1 : fuel ≤ 1048576) (h2 : ch.length ≤ 4096) (h3 : is.length ≤ 4096) (us ui width : Int)
    (hr : SoundCall Tryd.prog 11 [.agg (Prog.enc ⟨es, ds, .mk mk mn mv (.mk mtk mtv mtl) ml⟩), .lp 0 0, I fuel] [lists ch is (0) 0 0] (.tup [.agg [.sl 1 [] false, I 0, I 0, I 0], B false]) [lists ch is (ui) us width]) :
    SoundCall Tryd.prog 6 [.agg (Prog.enc ⟨es, ds, .mk mk mn mv (.mk mtk mtv mtl) ml⟩), .sl 1 (ints ch) false, .sl 1 (ints is) false, I fuel] [] (.tup [.agg [.sl 1 [] false, I 0, I 0, I 0], I 0, I 2]) [] := by
  exact Fn.go KT Tryd.func6 [.reg [] [], .reg [] [(1, .call (I 0) [])], .reg [] [], .reg [] [(1, .bit false), (4, .bit false), (8, .int (↑(List.length ch) : Int)), (9, .bit false), (13, .int (↑(List.length is) : Int)), (14, .bit false)], .reg [] [], .reg [] [(3, .call (AV.tup [AV.agg [AV.sl 1 [] false, I 0, I 0, I 0], B false]) [.cells [AV.sl 1 (ints ch) false, AV.sl 1 (ints is) false, I us, I ui, I width] []])], .reg [] [], .reg [] []] [.tidO 1 [some 1, none, none, none]] [] (AV.tup [AV.agg [AV.sl 1 [] false, I 0, I 0, I 0], I 0, I 2]) ([]) (by kernel_rfl) (ob1 (hc) (q (decide (fuel < 0) = false) (q (decide (1048576 < fuel) = false) (q ((↑(List.length (ints ch)) : Int) = (↑(List.length ch) : Int)) (q (decide (4096 < (↑(List.length ch) : Int)) = false) (q ((↑(List.length (ints is)) : Int) = (↑(List.length is) : Int)) (q (decide (4096 < (↑(List.length is) : Int)) = false) (ob1 (hr) ob0))))))))

theorem do_fine (hc : SoundCall Tryd.prog 10 [.agg (Prog.enc ⟨es, ds, .mk mk mn mv (.mk mtk mtv mtl) ml⟩)] [] (I 0) []) (h0 : 0 ≤ fuel) (h1 : fuel ≤ 1048576) (h2 : ch.length ≤ 4096) (h3 : is.length ≤ 4096) (us ui width en value : Int) (ev : List Int)
    (hr : SoundCall Tryd.prog 11 [.agg (Prog.enc ⟨es, ds, .mk mk mn mv (.mk mtk mtv mtl) ml⟩), .lp 0 0, I fuel] [lists ch is (0) 0 0] (.tup [.agg [.sl 1 (ints ev) false, I us, I en, I value], B true]) [lists ch is (ui) us width]) :
    SoundCall Tryd.prog 6 [.agg (Prog.enc ⟨es, ds, .mk mk mn mv (.mk mtk mtv mtl) ml⟩), .sl 1 (ints ch) false, .sl 1 (ints is) false, I fuel] [] (.tup [.agg [.sl 1 (ints ev) false, I us, I en, I value], I ui, I 0]) [] := by
  exact Fn.go KT Tryd.func6 [.reg [] [], .reg [] [(1, .call (I 0) [])], .reg [] [], .reg [] [(1, .bit false), (4, .bit false), (8, .int (↑(List.length ch) : Int)), (9, .bit false), (13, .int (↑(List.length is) : Int)), (14, .bit false)], .reg [] [], .reg [] [(3, .call (AV.tup [AV.agg [AV.sl 1 (ints ev) false, I us, I en, I value], B true]) [.cells [AV.sl 1 (ints ch) false, AV.sl 1 (ints is) false, I us, I ui, I width] []])], .reg [] [], .reg [] []] [.tidO 1 [some 1, none, none, none]] [] (AV.tup [AV.agg [AV.sl 1 (ints ev) false, I us, I en, I value], I ui, I 0]) ([]) (by kernel_rfl) (ob1 (hc) (q (decide (fuel < 0) = false) (q (decide (1048576 < fuel) = false) (q ((↑(List.length (ints ch)) : Int) = (↑(List.length ch) : Int)) (q (decide (4096 < (↑(List.length ch) : Int)) = false) (q ((↑(List.length (ints is)) : Int) = (↑(List.length is) : Int)) (q (decide (4096 < (↑(List.length is) : Int)) = false) (ob1 (hr) ob0))))))))
end

/-- What Do answers. -/
inductive DoR (p : Prog) (hok : p.ok) (ch is : List Int) (fuel : Int) : List Int → Int → Int → Int → Int → Int → Prop
  | bad (h : chkE p hok = 15) : DoR p hok ch is fuel [] 0 0 0 0 15
  | arg (h : chkE p hok = 0) (h2 : fuel < 0 ∨ 1048576 < fuel ∨ 4096 < ch.length ∨ 4096 < is.length) : DoR p hok ch is fuel [] 0 0 0 0 2
  | wrong {s' en value width} (h : chkE p hok = 0) (h0 : 0 ≤ fuel) (h1 : fuel ≤ 1048576) (h2 : ch.length ≤ 4096) (h3 : is.length ≤ 4096) (hr : MRun p fuel ch is (start p) s' en value width true) : DoR p hok ch is fuel [] 0 0 0 0 2
  | fine {s' en value width} (h : chkE p hok = 0) (h0 : 0 ≤ fuel) (h1 : fuel ≤ 1048576) (h2 : ch.length ≤ 4096) (h3 : is.length ≤ 4096) (hr : MRun p fuel ch is (start p) s' en value width false) : DoR p hok ch is fuel s'.ev s'.used en value s'.ui 0

theorem do_ex (p : Prog) (hok : p.ok) (ch is : List Int) (fuel : Int) : ∃ ev us en value k e, DoR p hok ch is fuel ev us en value k e := by
  obtain ⟨_, h2, h3⟩ := chkE_spec p hok
  rcases h2 with h2 | h2
  · by_cases h : fuel < 0 ∨ 1048576 < fuel ∨ 4096 < ch.length ∨ 4096 < is.length
    · exact ⟨_, _, _, _, _, _, .arg h2 h⟩
    · obtain ⟨s', en, value, width, wrong, hr⟩ := (h3 h2).run (show 0 ≤ fuel by omega) ch is
      cases wrong with
      | true => exact ⟨_, _, _, _, _, _, .wrong h2 (by omega) (by omega) (by omega) (by omega) hr⟩
      | false => exact ⟨_, _, _, _, _, _, .fine h2 (by omega) (by omega) (by omega) (by omega) hr⟩
  · exact ⟨_, _, _, _, _, _, .bad h2⟩

theorem do_ {p : Prog} {hok : p.ok} {ch is : List Int} {fuel : Int} {ev : List Int} {us en value k e : Int} (h : DoR p hok ch is fuel ev us en value k e) :
    SoundCall Tryd.prog 6 [.agg p.enc, .sl 1 (ints ch) false, .sl 1 (ints is) false, I fuel] [] (.tup [.agg [.sl 1 (ints ev) false, I us, I en, I value], I k, I e]) [] := by
  obtain ⟨hc, _, hv⟩ := chkE_spec p hok
  cases h with
  | bad h =>
    rw [h] at hc
    obtain ⟨es, ds, mk, mn, mv, ⟨mtk, mtv, mtl⟩, ml⟩ := p
    exact do_bad es ds mk mn mv mtk mtv mtl ml ch is fuel hc
  | arg h h2 =>
    rw [h] at hc
    obtain ⟨es, ds, mk, mn, mv, ⟨mtk, mtv, mtl⟩, ml⟩ := p
    exact do_arg es ds mk mn mv mtk mtv mtl ml ch is fuel hc h2
  | @wrong s' en value width h h0 h1 h2 h3 hr =>
    have hs := srun_false (hv h) h0 h1 (by omega) (by omega) hr
    rw [h] at hc
    obtain ⟨es, ds, mk, mn, mv, ⟨mtk, mtv, mtl⟩, ml⟩ := p
    exact do_wrong es ds mk mn mv mtk mtv mtl ml ch is fuel hc h0 h1 h2 h3 _ _ _ hs
  | @fine s' en value width h h0 h1 h2 h3 hr =>
    have hs := srun_true (hv h) h0 h1 (by omega) (by omega) hr
    rw [h] at hc
    obtain ⟨es, ds, mk, mn, mv, ⟨mtk, mtv, mtl⟩, ml⟩ := p
    exact do_fine es ds mk mn mv mtk mtv mtl ml ch is fuel hc h0 h1 h2 h3 _ _ _ _ _ _ hs

end Go.Ae

/- The machine, plain: more fuel, more choices. -/
namespace Go.Ae

theorem Mv.mono {p : Prog} {fuel fuel2 : Int} {ch is more more2 : List Int} {s s' : MS} (h : Mv p fuel ch is s (.go s')) (hf : fuel ≤ fuel2) : Mv p fuel2 (ch ++ more) (is ++ more2) s (.go s') := by
  generalize ho : Out.go s' = o at h
  have app2 : ∀ {i : Nat} {c : Int}, is[i]? = some c → (is ++ more2)[i]? = some c := fun {i c} e => by
    rw [List.getElem?_append_left (List.getElem?_eq_some_iff.1 e).1]; exact e
  have app : ∀ {i : Nat} {c : Int}, ch[i]? = some c → (ch ++ more)[i]? = some c := fun {i c} e => by
    rw [List.getElem?_append_left (List.getElem?_eq_some_iff.1 e).1]; exact e
  cases h with
  | const => exact .const
  | var h hn => exact .var h hn
  | fn h0 h1 => exact .fn h0 h1
  | lam => exact .lam
  | app hl => exact .app hl
  | lt hl => exact .lt hl
  | cs hl => exact .cs hl
  | fine hf1 hc h0 h1 => exact .fine (by omega) (app hc) h0 h1
  | event hf1 he hl => exact .event (by omega) he hl
  | int => exact .int
  | afine hf1 hc h0 h1 => exact .afine (by omega) (app2 hc) h0 h1
  | add hl => exact .add hl
  | less hl => exact .less hl
  | badd hf1 => exact .badd (by omega)
  | bless hf1 => exact .bless (by omega)
  | arg => exact .arg
  | blet hf1 => exact .blet (by omega)
  | bcase hf1 hl hw => exact .bcase (by omega) hl hw
  | bfun hf1 hd => exact .bfun (by omega) hd
  | bclo hf1 => exact .bclo (by omega)
  | _ => cases ho

theorem Mv.grow {p : Prog} {fuel : Int} {ch is : List Int} {s s' : MS} (h : Mv p fuel ch is s (.go s')) : s.ev <+: s'.ev ∧ s.used ≤ s'.used ∧ s.ui ≤ s'.ui := by
  generalize ho : Out.go s' = o at h
  cases h with
  | event => cases ho; exact ⟨List.prefix_append .., Nat.le_refl _, Nat.le_refl _⟩
  | fine => cases ho; exact ⟨List.prefix_refl _, Nat.le_succ _, Nat.le_refl _⟩
  | afine => cases ho; exact ⟨List.prefix_refl _, Nat.le_refl _, Nat.le_succ _⟩
  | _ => first | (cases ho; done) | (cases ho; exact ⟨List.prefix_refl _, Nat.le_refl _, Nat.le_refl _⟩)

theorem MRun.grow {p : Prog} {fuel : Int} {ch is : List Int} {s s' : MS} {en v w : Int} {b : Bool} (h : MRun p fuel ch is s s' en v w b) : s.ev <+: s'.ev ∧ s.used ≤ s'.used ∧ s.ui ≤ s'.ui := by
  induction h with
  | @stop s s' en value width wrong h =>
    have : s' = s := by cases h <;> rfl
    subst this
    exact ⟨List.prefix_refl _, Nat.le_refl _, Nat.le_refl _⟩
  | more h r ih => exact ⟨h.grow.1.trans ih.1, Nat.le_trans h.grow.2.1 ih.2.1, Nat.le_trans h.grow.2.2 ih.2.2⟩

theorem run_more {p : Prog} {fuel fuel2 : Int} {ch is more more2 : List Int} (hf : fuel ≤ fuel2) {s s1 s2 : MS} {en v w en2 v2 w2 : Int} {b b2 : Bool} (h : MRun p fuel ch is s s1 en v w b) (hb : b = false) (k : MRun p fuel2 (ch ++ more) (is ++ more2) s s2 en2 v2 w2 b2) :
    s1.ev <+: s2.ev ∧ s1.used ≤ s2.used ∧ s1.ui ≤ s2.ui ∧ (en = 0 → s2 = s1 ∧ en2 = en ∧ v2 = v ∧ b2 = false) := by
  induction h generalizing s2 with
  | @stop s s' en value width wrong h =>
    subst hb
    have hs : s' = s := by cases h <;> rfl
    subst hs
    refine ⟨k.grow.1, k.grow.2.1, k.grow.2.2, fun he => ?_⟩
    subst he
    have hd : Mv p fuel2 (ch ++ more) (is ++ more2) s' (.stop s' 0 value width false) := by
      generalize ho : Out.stop s' 0 value width false = o at h
      cases h with
      | done => exact .done
      | _ => cases ho
    obtain ⟨h1, h2, h3, h4, h5⟩ := k.det (.stop hd)
    exact ⟨h1, h2, h3, h5⟩
  | more h r ih =>
    cases k with
    | stop k => have := k.det (h.mono hf); cases this
    | more k r2 =>
      have := k.det (h.mono hf)
      cases this
      exact ih hb r2

end Go.Ae

/- The chapter's example. -/
namespace Go.Ae
open Go.Proofs

set_option maxHeartbeats 0 in
theorem alive_ : SoundCall Tryd.prog 5 [] [] (.sc (.bool true)) [] := closed2 [(15, [.roO 2 18 9 7])] 400 60 (by kernel_rfl)

end Go.Ae

/- The law NumMore. -/
namespace Go.Ae
open Go.Proofs

theorem far_ (n : Int) : SoundCall Tryd.prog 4 [I n] [] (B (decide (2000 < n) && decide (n ≤ 1048576))) [] := by
  rcases dsp (2000 < n) with ⟨hb1, hb1'⟩ | ⟨hb1, hb1'⟩
  · skip
    rcases dsp (n ≤ 1048576) with ⟨hb2, hb2'⟩ | ⟨hb2, hb2'⟩
    · skip
      exact Fn.go KT Tryd.func4 [.reg [] [], .reg [] [(1, .bit true), (4, .bit true)]] [] [] (B true) ([]) (by kernel_rfl) (q (decide (2000 < n) = true) (q (decide (n ≤ 1048576) = true) ob0))
    · skip
      exact Fn.go KT Tryd.func4 [.reg [] [], .reg [] [(1, .bit true), (4, .bit false)]] [] [] (B false) ([]) (by kernel_rfl) (q (decide (2000 < n) = true) (q (decide (n ≤ 1048576) = false) ob0))
  · skip
    exact Fn.go KT Tryd.func4 [.reg [] [], .reg [] [(1, .bit false)]] [] [] (B false) ([]) (by kernel_rfl) (q (decide (2000 < n) = false) ob0)

theorem sameInts_loop (us ws : List Int) (hn : us.length ≤ 281474976710656) (hl : us.length = ws.length) : ∀ (us' ws' : List Int) (i : Nat), us.drop i = us' → ws.drop i = ws' →
    Lp Tryd.prog 26 0 (loopN Tryd.f7 0) ⟨lookT [(0, .sl 1 (ints us) false), (1, .sl 1 (ints ws) false), (12, I (us.length : Int)), (13, I (i : Int))], []⟩
      (bif decide (us' = ws') then .exit 0 else .ret) (bif decide (us' = ws') then ⟨lookT [], []⟩ else ⟨lookT [(4, B false)], []⟩)
  | [], ws', i, h1, h2 => by
    have hi := drop_end h1
    have : ws' = [] := by rw [← h2, List.drop_eq_nil_iff]; omega
    subst this
    clear h1 h2
    simp only [decide_true, cond_true]
    exact Lp.last KT [.reg [] [(0, .bit false)]] [.keep []] (by kernel_rfl) (q (decide ((↑i : Int) < (↑(List.length us) : Int)) = false) ob0) (by intro h; cases h)
  | u :: us', [], i, h1, h2 => by
    have := drop_lt h1
    have := drop_end h2
    omega
  | u :: us', w :: ws', i, h1, h2 => by
    have hi := drop_lt h1
    have hi2 := drop_lt h2
    have hx : (ints us)[i]? = some [I u] := by rw [ints_get, drop_get h1]; rfl
    have hy : (ints ws)[i]? = some [I w] := by rw [ints_get, drop_get h2]; rfl
    have ih := sameInts_loop us ws hn hl us' ws' (i + 1) (drop_next h1) (drop_next h2)
    clear h1 h2
    simp only [Int.natCast_add] at ih
    by_cases h : u = w
    · subst h
      have e : decide (u :: us' = u :: ws') = decide (us' = ws') := by simp
      rw [e]
      exact Lp.next KT [.reg [] [(0, .bit true)], .reg [] [], .reg [] [(2, .row i [I u]), (6, .row i [I u]), (8, .bit false)], .reg [] [(0, .int ((↑i : Int) + 1))]] [.keep [(0, []), (1, []), (12, []), (13, [])]] (by kernel_rfl) (q (decide ((↑i : Int) < (↑(List.length us) : Int)) = true) (q ((↑i : Int) = (↑i : Int)) (q ((ints us)[i]? = some [I u]) (q ((↑i : Int) = (↑i : Int)) (q ((ints ws)[i]? = some [I u]) (q ((u != u) = false) (qw ((↑i : Int) + 1) ob0))))))) (ih)
    · have e : decide (u :: us' = w :: ws') = false := by simp [h]
      rw [e]
      clear ih e
      simp only [cond_false]
      exact Lp.last KT [.reg [] [(0, .bit true)], .reg [] [], .reg [] [(2, .row i [I u]), (6, .row i [I w]), (8, .bit true)], .reg [] []] [.keep [(4, [])]] (by kernel_rfl) (q (decide ((↑i : Int) < (↑(List.length us) : Int)) = true) (q ((↑i : Int) = (↑i : Int)) (q ((ints us)[i]? = some [I u]) (q ((↑i : Int) = (↑i : Int)) (q ((ints ws)[i]? = some [I w]) (q ((u != w) = true) ob0)))))) (by intro h; cases h)

theorem sameInts_ (us ws : List Int) (hn : us.length ≤ 281474976710656) : SoundCall Tryd.prog 7 [.sl 1 (ints us) false, .sl 1 (ints ws) false] [] (B (decide (us = ws))) [] := by
  by_cases hl : us.length = ws.length
  · have lp := sameInts_loop us ws hn hl us ws 0 rfl rfl
    by_cases h : us = ws
    · rw [decide_eq_true h] at lp ⊢
      simp only [cond_true] at lp
      clear h
      exact Fn.go KT Tryd.func7 [.reg [] [], .reg [] [(1, .int (↑(List.length us) : Int)), (3, .int (↑(List.length ws) : Int)), (4, .bit false)], .reg [] [(1, .int (↑(List.length us) : Int))], .loop [.keep [(0, []), (1, []), (12, []), (13, [])]] (Exit.exit 0) { tm := lookT [], st := [] }, .reg [] []] [] [] (B true) ([]) (by kernel_rfl) (q ((↑(List.length (ints us)) : Int) = (↑(List.length us) : Int)) (q ((↑(List.length (ints ws)) : Int) = (↑(List.length ws) : Int)) (q (((↑(List.length us) : Int) != (↑(List.length ws) : Int)) = false) (q ((↑(List.length (ints us)) : Int) = (↑(List.length us) : Int)) (ob1 (lp) ob0)))))
    · rw [decide_eq_false h] at lp ⊢
      simp only [cond_false] at lp
      clear h
      exact Fn.go KT Tryd.func7 [.reg [] [], .reg [] [(1, .int (↑(List.length us) : Int)), (3, .int (↑(List.length ws) : Int)), (4, .bit false)], .reg [] [(1, .int (↑(List.length us) : Int))], .loop [.keep [(0, []), (1, []), (12, []), (13, [])]] Exit.ret { tm := lookT [(4, B false)], st := [] }] [] [] (B false) ([]) (by kernel_rfl) (q ((↑(List.length (ints us)) : Int) = (↑(List.length us) : Int)) (q ((↑(List.length (ints ws)) : Int) = (↑(List.length ws) : Int)) (q (((↑(List.length us) : Int) != (↑(List.length ws) : Int)) = false) (q ((↑(List.length (ints us)) : Int) = (↑(List.length us) : Int)) (ob1 (lp) ob0)))))
  · have h : us ≠ ws := fun e => hl (by rw [e])
    rw [decide_eq_false h]
    clear h
    exact Fn.go KT Tryd.func7 [.reg [] [], .reg [] [(1, .int (↑(List.length us) : Int)), (3, .int (↑(List.length ws) : Int)), (4, .bit true)], .reg [] []] [] [] (B false) ([]) (by kernel_rfl) (q ((↑(List.length (ints us)) : Int) = (↑(List.length us) : Int)) (q ((↑(List.length (ints ws)) : Int) = (↑(List.length ws) : Int)) (q (((↑(List.length us) : Int) != (↑(List.length ws) : Int)) = true) ob0)))

theorem same_ (ev : List Int) (us en v : Int) (hn : ev.length ≤ 281474976710656) :
    SoundCall Tryd.prog 8 [.agg [.sl 1 (ints ev) false, I us, I en, I v], .agg [.sl 1 (ints ev) false, I us, I en, I v]] [] (B true) [] := by
  have h := sameInts_ ev ev hn
  rw [decide_eq_true rfl] at h
  exact Fn.go KT Tryd.func8 [.reg [] [], .reg [] [(4, .call (B true) []), (10, .bit true), (17, .bit true), (24, .bit true)]] [] [] (B true) ([]) (by kernel_rfl) (ob1 (h) (q ((us == us) = true) (q ((en == en) = true) (q ((v == v) = true) ob0))))

end Go.Ae

/- The law NumMore: what it returns. -/
namespace Go.Ae
open Go.Proofs

theorem Fits.of2 {n k bytes : Nat} (h : (n + (n + 768) / 4) * bytes ≤ 281474976710656) (h2 : 512 * bytes ≤ 281474976710656) : Fits n k bytes := fun cap _ hc => by
  have key : Builtin.nextslicecap n cap ≤ n + (n + 768) / 4 ∨ Builtin.nextslicecap n cap ≤ 512 := by
    unfold Builtin.nextslicecap
    split
    · exact .inl (by omega)
    · split
      · exact .inr (by omega)
      · exact .inl (growBy_le n 4 cap (by omega))
  rcases key with k | k
  · exact Nat.le_trans (Nat.mul_le_mul_right _ k) h
  · exact Nat.le_trans (Nat.mul_le_mul_right _ k) h2

theorem more_plain {p : Prog} {hok : p.ok} {ch is more : List Int} {fuel plus : Int} {ev : List Int} {us en v k : Int} (h : DoR p hok ch is fuel ev us en v k 0) (hf : fuel ≤ 2000) (hp : 0 ≤ plus) (hp2 : plus ≤ 2000) (hl : (ch ++ more).length ≤ 4096) (hm : (is ++ more).length ≤ 4096) :
    ∃ ev2 us2 en2 v2 k2 e2, DoR p hok (ch ++ more) (is ++ more) (fuel + plus) ev2 us2 en2 v2 k2 e2 ∧ ((e2 = 2 ∧ en ≠ 0) ∨ (e2 = 0 ∧ ∃ t, ev2 = ev ++ t ∧ us ≤ us2 ∧ k ≤ k2 ∧ (en = 0 → t = [] ∧ us2 = us ∧ k2 = k ∧ en2 = en ∧ v2 = v))) := by
  obtain ⟨_, _, hv⟩ := chkE_spec p hok
  cases h with
  | @fine s' en value width hc h0 h1 h2 h3 hr =>
    obtain ⟨s2, en2, v2, w2, b2, hr2⟩ := (hv hc).run (show 0 ≤ fuel + plus by omega) (ch ++ more) (is ++ more)
    obtain ⟨⟨t, ht⟩, k2, k2i, k3⟩ := run_more (by omega : fuel ≤ fuel + plus) hr rfl hr2
    cases b2 with
    | true => exact ⟨_, _, _, _, _, _, .wrong hc (by omega) (by omega) hl hm hr2, .inl ⟨rfl, fun he => by have := (k3 he).2.2.2; cases this⟩⟩
    | false =>
      refine ⟨_, _, _, _, _, _, .fine hc (by omega) (by omega) hl hm hr2, .inr ⟨rfl, t, ht.symm, by omega, by omega, fun he => ?_⟩⟩
      obtain ⟨e1, e2, e3, _⟩ := k3 he
      subst e1
      have : t = [] := by
        have := congrArg List.length ht
        simp at this
        exact this
      exact ⟨this, rfl, rfl, e2, e3⟩

section
variable (es : List ByteArray) (ds : List Def) (mk mn mv mtk mtv : Int) (mtl : List Ty) (ml : List Expr) (ch is more : List Int) (fuel plus : Int)

theorem law_out (hf : ir fuel) (hm : more.length ≤ 281474976710656) (h : (2000 < fuel ∧ fuel ≤ 1048576) ∨ plus < 0 ∨ 2000 < plus ∨ 4096 < more.length) :
    SoundCall Tryd.prog 3 [.agg (Prog.enc ⟨es, ds, .mk mk mn mv (.mk mtk mtv mtl) ml⟩), .sl 1 (ints ch) false, .sl 1 (ints is) false, .sl 1 (ints more) false, I fuel, I plus] [] (B true) [] := by
  have ha := alive_
  have hfar := far_ fuel
  generalize hq : (decide (2000 < fuel) && decide (fuel ≤ 1048576)) = q at hfar
  cases q with
  | true => 
    clear h hq
    exact Fn.go KT Tryd.func3 [.reg [] [], .reg [] [(1, .call (B true) [])], .reg [] [(0, .call (B true) [])]] [] [] (B true) ([]) (by kernel_rfl) (ob1 (hfar) (ob1 (ha) ob0))
  | false =>
    have : ¬ (2000 < fuel ∧ fuel ≤ 1048576) := by simpa using hq
    clear hq
    rcases dsp (plus < 0) with ⟨hb1, hb1'⟩ | ⟨hb1, hb1'⟩
    · skip
      exact Fn.go KT Tryd.func3 [.reg [] [], .reg [] [(1, .call (B false) []), (4, .bit true)], .reg [] [(0, .call (B true) [])]] [] [] (B true) ([]) (by kernel_rfl) (ob1 (hfar) (q (decide (plus < 0) = true) (ob1 (ha) ob0)))
    · skip
      rcases dsp (2000 < plus) with ⟨hb2, hb2'⟩ | ⟨hb2, hb2'⟩
      · skip
        exact Fn.go KT Tryd.func3 [.reg [] [], .reg [] [(1, .call (B false) []), (4, .bit false), (8, .bit true)], .reg [] [(0, .call (B true) [])]] [] [] (B true) ([]) (by kernel_rfl) (ob1 (hfar) (q (decide (plus < 0) = false) (q (decide (2000 < plus) = true) (ob1 (ha) ob0))))
      · skip
        exact Fn.go KT Tryd.func3 [.reg [] [], .reg [] [(1, .call (B false) []), (4, .bit false), (8, .bit false), (12, .int (↑(List.length more) : Int)), (13, .bit true)], .reg [] [(0, .call (B true) [])]] [] [] (B true) ([]) (by kernel_rfl) (ob1 (hfar) (q (decide (plus < 0) = false) (q (decide (2000 < plus) = false) (q ((↑(List.length (ints more)) : Int) = (↑(List.length more) : Int)) (q (decide (4096 < (↑(List.length more) : Int)) = true) (ob1 (ha) ob0))))))

theorem law_none (hf : ¬ (2000 < fuel ∧ fuel ≤ 1048576)) (h0 : 0 ≤ plus) (h1 : plus ≤ 2000) (h2 : more.length ≤ 4096) (hc : ch.length ≤ 17592186043904) (hci : is.length ≤ 17592186043904) (ev : List Int) (us en v k e : Int)
    (hd : SoundCall Tryd.prog 6 [.agg (Prog.enc ⟨es, ds, .mk mk mn mv (.mk mtk mtv mtl) ml⟩), .sl 1 (ints ch) false, .sl 1 (ints is) false, I fuel] [] (.tup [.agg [.sl 1 (ints ev) false, I us, I en, I v], I k, I e]) [])
    (h : e ≠ 0 ∨ 4096 < ch.length + more.length ∨ 4096 < is.length + more.length) :
    SoundCall Tryd.prog 3 [.agg (Prog.enc ⟨es, ds, .mk mk mn mv (.mk mtk mtv mtl) ml⟩), .sl 1 (ints ch) false, .sl 1 (ints is) false, .sl 1 (ints more) false, I fuel, I plus] [] (B true) [] := by
  have ha := alive_
  have hfar := far_ fuel
  rw [show (decide (2000 < fuel) && decide (fuel ≤ 1048576)) = false by simpa using hf] at hfar
  have hF1 : Fits (0 + (ints ch).length) 0 8 := by apply Fits.of; simp; omega
  have hF2 : Fits ((ints ch).length + (ints more).length) (ints ch).length 8 := by apply Fits.of2 <;> simp; omega
  have hF3 : Fits (0 + (ints is).length) 0 8 := by apply Fits.of; simp; omega
  have hF4 : Fits ((ints is).length + (ints more).length) (ints is).length 8 := by apply Fits.of2 <;> simp; omega
  rcases Bool.eq_false_or_eq_true (e != 0) with hb1 | hb1
  · have hb1' := hb1
    try simp only [decide_eq_true_eq, decide_eq_false_iff_not, beq_iff_eq, bne_iff_ne, ne_eq, beq_eq_false_iff_ne, bne_eq_false_iff_eq, Bool.not_eq_true'] at hb1'
    exact Fn.go KT Tryd.func3 [.reg [] [], .reg [] [(1, .call (B false) []), (4, .bit false), (8, .bit false), (12, .int (↑(List.length more) : Int)), (13, .bit false)], .reg [] [(4, .call (AV.tup [AV.agg [AV.sl 1 (ints ev) false, I us, I en, I v], I k, I e]) [])], .reg [] [(2, .loc), (7, .loc)], .reg [] [(1, .bit true)], .reg [] [(0, .call (B true) [])]] [] [] (B true) ([]) (by kernel_rfl) (ob1 (hfar) (q (decide (plus < 0) = false) (q (decide (2000 < plus) = false) (q ((↑(List.length (ints more)) : Int) = (↑(List.length more) : Int)) (q (decide (4096 < (↑(List.length more) : Int)) = false) (ob1 (hd) (q (Fits (0 + List.length (ints ch)) 0 8) (q (Fits (List.length (ints ch) + List.length (ints more)) (List.length (ints ch)) 8) (q (Fits (0 + List.length (ints is)) 0 8) (q (Fits (List.length (ints is) + List.length (ints more)) (List.length (ints is)) 8) (q ((e != 0) = true) (ob1 (ha) ob0))))))))))))
  · have hb1' := hb1
    try simp only [decide_eq_true_eq, decide_eq_false_iff_not, beq_iff_eq, bne_iff_ne, ne_eq, beq_eq_false_iff_ne, bne_eq_false_iff_eq, Bool.not_eq_true'] at hb1'
    rcases dsp (4096 < (↑(List.length ch) : Int) + (↑(List.length more) : Int)) with ⟨hb2, hb2'⟩ | ⟨hb2, hb2'⟩
    · skip
      exact Fn.go KT Tryd.func3 [.reg [] [], .reg [] [(1, .call (B false) []), (4, .bit false), (8, .bit false), (12, .int (↑(List.length more) : Int)), (13, .bit false)], .reg [] [(4, .call (AV.tup [AV.agg [AV.sl 1 (ints ev) false, I us, I en, I v], I k, I e]) [])], .reg [] [(2, .loc), (7, .loc)], .reg [] [(1, .bit false), (4, .int ((↑(List.length ch) : Int) + (↑(List.length more) : Int))), (5, .bit true)], .reg [] [(0, .call (B true) [])]] [] [] (B true) ([]) (by kernel_rfl) (ob1 (hfar) (q (decide (plus < 0) = false) (q (decide (2000 < plus) = false) (q ((↑(List.length (ints more)) : Int) = (↑(List.length more) : Int)) (q (decide (4096 < (↑(List.length more) : Int)) = false) (ob1 (hd) (q (Fits (0 + List.length (ints ch)) 0 8) (q (Fits (List.length (ints ch) + List.length (ints more)) (List.length (ints ch)) 8) (q (Fits (0 + List.length (ints is)) 0 8) (q (Fits (List.length (ints is) + List.length (ints more)) (List.length (ints is)) 8) (q ((e != 0) = false) (q ((↑(List.length (ints ch ++ ints more)) : Int) = (↑(List.length ch) : Int) + (↑(List.length more) : Int)) (q (decide (4096 < (↑(List.length ch) : Int) + (↑(List.length more) : Int)) = true) (ob1 (ha) ob0))))))))))))))
    · skip
      exact Fn.go KT Tryd.func3 [.reg [] [], .reg [] [(1, .call (B false) []), (4, .bit false), (8, .bit false), (12, .int (↑(List.length more) : Int)), (13, .bit false)], .reg [] [(4, .call (AV.tup [AV.agg [AV.sl 1 (ints ev) false, I us, I en, I v], I k, I e]) [])], .reg [] [(2, .loc), (7, .loc)], .reg [] [(1, .bit false), (4, .int ((↑(List.length ch) : Int) + (↑(List.length more) : Int))), (5, .bit false), (9, .int ((↑(List.length is) : Int) + (↑(List.length more) : Int))), (10, .bit true)], .reg [] [(0, .call (B true) [])]] [] [] (B true) ([]) (by kernel_rfl) (ob1 (hfar) (q (decide (plus < 0) = false) (q (decide (2000 < plus) = false) (q ((↑(List.length (ints more)) : Int) = (↑(List.length more) : Int)) (q (decide (4096 < (↑(List.length more) : Int)) = false) (ob1 (hd) (q (Fits (0 + List.length (ints ch)) 0 8) (q (Fits (List.length (ints ch) + List.length (ints more)) (List.length (ints ch)) 8) (q (Fits (0 + List.length (ints is)) 0 8) (q (Fits (List.length (ints is) + List.length (ints more)) (List.length (ints is)) 8) (q ((e != 0) = false) (q ((↑(List.length (ints ch ++ ints more)) : Int) = (↑(List.length ch) : Int) + (↑(List.length more) : Int)) (q (decide (4096 < (↑(List.length ch) : Int) + (↑(List.length more) : Int)) = false) (q ((↑(List.length (ints is ++ ints more)) : Int) = (↑(List.length is) : Int) + (↑(List.length more) : Int)) (q (decide (4096 < (↑(List.length is) : Int) + (↑(List.length more) : Int)) = true) (ob1 (ha) ob0))))))))))))))))

end
end Go.Ae

/- The law NumMore: the second run. -/
namespace Go.Ae
open Go.Proofs

section
variable (es : List ByteArray) (ds : List Def) (mk mn mv mtk mtv : Int) (mtl : List Ty) (ml : List Expr) (ch is more : List Int) (fuel plus : Int)

theorem law_wrong (hf : ¬ (2000 < fuel ∧ fuel ≤ 1048576)) (hf0 : 0 ≤ fuel) (hf1 : fuel ≤ 2000) (h0 : 0 ≤ plus) (h1 : plus ≤ 2000) (h2 : more.length ≤ 4096) (hc : ch.length ≤ 17592186043904) (hci : is.length ≤ 17592186043904) (ev : List Int) (us en v k : Int)
    (hd : SoundCall Tryd.prog 6 [.agg (Prog.enc ⟨es, ds, .mk mk mn mv (.mk mtk mtv mtl) ml⟩), .sl 1 (ints ch) false, .sl 1 (ints is) false, I fuel] [] (.tup [.agg [.sl 1 (ints ev) false, I us, I en, I v], I k, I 0]) [])
    (hl : ch.length + more.length ≤ 4096) (hli : is.length + more.length ≤ 4096) (ev2 : List Int) (us2 en2 v2 k2 : Int)
    (hd2 : SoundCall Tryd.prog 6 [.agg (Prog.enc ⟨es, ds, .mk mk mn mv (.mk mtk mtv mtl) ml⟩), .sl 1 (ints ch ++ ints more) false, .sl 1 (ints is ++ ints more) false, I (fuel + plus)] [] (.tup [.agg [.sl 1 (ints ev2) false, I us2, I en2, I v2], I k2, I 2]) [])
    (he : en ≠ 0) :
    SoundCall Tryd.prog 3 [.agg (Prog.enc ⟨es, ds, .mk mk mn mv (.mk mtk mtv mtl) ml⟩), .sl 1 (ints ch) false, .sl 1 (ints is) false, .sl 1 (ints more) false, I fuel, I plus] [] (B true) [] := by
  have ha := alive_
  have hfar := far_ fuel
  rw [show (decide (2000 < fuel) && decide (fuel ≤ 1048576)) = false by simpa using hf] at hfar
  have hF1 : Fits (0 + (ints ch).length) 0 8 := by apply Fits.of; simp; omega
  have hF2 : Fits ((ints ch).length + (ints more).length) (ints ch).length 8 := by apply Fits.of2 <;> simp; omega
  have hF3 : Fits (0 + (ints is).length) 0 8 := by apply Fits.of; simp; omega
  have hF4 : Fits ((ints is).length + (ints more).length) (ints is).length 8 := by apply Fits.of2 <;> simp; omega
  exact Fn.go KT Tryd.func3 [.reg [] [], .reg [] [(1, .call (B false) []), (4, .bit false), (8, .bit false), (12, .int (↑(List.length more) : Int)), (13, .bit false)], .reg [] [(4, .call (AV.tup [AV.agg [AV.sl 1 (ints ev) false, I us, I en, I v], I k, I 0]) [])], .reg [] [(2, .loc), (7, .loc)], .reg [] [(4, .int ((↑(List.length ch) : Int) + (↑(List.length more) : Int))), (5, .bit false), (9, .int ((↑(List.length is) : Int) + (↑(List.length more) : Int))), (10, .bit false)], .reg [.frz 3, .frz 6] [(5, .int (fuel + plus)), (6, .call (AV.tup [AV.agg [AV.sl 1 (ints ev2) false, I us2, I en2, I v2], I k2, I 2]) [])], .reg [] [], .reg [] [(5, .bit true), (8, .call (B true) [])]] [] [] (B true) ([]) (by kernel_rfl) (ob1 (hfar) (q (decide (plus < 0) = false) (q (decide (2000 < plus) = false) (q ((↑(List.length (ints more)) : Int) = (↑(List.length more) : Int)) (q (decide (4096 < (↑(List.length more) : Int)) = false) (ob1 (hd) (q (Fits (0 + List.length (ints ch)) 0 8) (q (Fits (List.length (ints ch) + List.length (ints more)) (List.length (ints ch)) 8) (q (Fits (0 + List.length (ints is)) 0 8) (q (Fits (List.length (ints is) + List.length (ints more)) (List.length (ints is)) 8) (q ((↑(List.length (ints ch ++ ints more)) : Int) = (↑(List.length ch) : Int) + (↑(List.length more) : Int)) (q (decide (4096 < (↑(List.length ch) : Int) + (↑(List.length more) : Int)) = false) (q ((↑(List.length (ints is ++ ints more)) : Int) = (↑(List.length is) : Int) + (↑(List.length more) : Int)) (q (decide (4096 < (↑(List.length is) : Int) + (↑(List.length more) : Int)) = false) (qw (fuel + plus) (ob1 (hd2) (q ((en != 0) = true) (ob1 (ha) ob0))))))))))))))))))

theorem law_fine (hf : ¬ (2000 < fuel ∧ fuel ≤ 1048576)) (hf0 : 0 ≤ fuel) (hf1 : fuel ≤ 2000) (h0 : 0 ≤ plus) (h1 : plus ≤ 2000) (h2 : more.length ≤ 4096) (hc : ch.length ≤ 17592186043904) (hci : is.length ≤ 17592186043904) (ev : List Int) (us en v k : Int)
    (hd : SoundCall Tryd.prog 6 [.agg (Prog.enc ⟨es, ds, .mk mk mn mv (.mk mtk mtv mtl) ml⟩), .sl 1 (ints ch) false, .sl 1 (ints is) false, I fuel] [] (.tup [.agg [.sl 1 (ints ev) false, I us, I en, I v], I k, I 0]) [])
    (hl : ch.length + more.length ≤ 4096) (hli : is.length + more.length ≤ 4096) (t : List Int) (us2 en2 v2 k2 : Int)
    (hd2 : SoundCall Tryd.prog 6 [.agg (Prog.enc ⟨es, ds, .mk mk mn mv (.mk mtk mtv mtl) ml⟩), .sl 1 (ints ch ++ ints more) false, .sl 1 (ints is ++ ints more) false, I (fuel + plus)] [] (.tup [.agg [.sl 1 (ints (ev ++ t)) false, I us2, I en2, I v2], I k2, I 0]) [])
    (he : en ≠ 0) (hu : us ≤ us2) (hk : k ≤ k2) (hel : ev.length ≤ 4294967296) :
    SoundCall Tryd.prog 3 [.agg (Prog.enc ⟨es, ds, .mk mk mn mv (.mk mtk mtv mtl) ml⟩), .sl 1 (ints ch) false, .sl 1 (ints is) false, .sl 1 (ints more) false, I fuel, I plus] [] (B true) [] := by
  have ha := alive_
  have hfar := far_ fuel
  rw [show (decide (2000 < fuel) && decide (fuel ≤ 1048576)) = false by simpa using hf] at hfar
  have hF1 : Fits (0 + (ints ch).length) 0 8 := by apply Fits.of; simp; omega
  have hF2 : Fits ((ints ch).length + (ints more).length) (ints ch).length 8 := by apply Fits.of2 <;> simp; omega
  have hF3 : Fits (0 + (ints is).length) 0 8 := by apply Fits.of; simp; omega
  have hF4 : Fits ((ints is).length + (ints more).length) (ints is).length 8 := by apply Fits.of2 <;> simp; omega
  have hS : SoundCall Tryd.prog 7 [.sl 1 (List.take ev.length (ints (ev ++ t))) false, .sl 1 (ints ev) false] [] (B true) [] := by
    have e : List.take ev.length (ints (ev ++ t)) = ints ev := by rw [ints_append]; exact List.take_left' (by simp)
    rw [e]
    have := sameInts_ ev ev (by omega)
    rwa [decide_eq_true rfl] at this
  have htl : (ev ++ t).length = ev.length + t.length := by simp
  exact Fn.go KT Tryd.func3 [.reg [] [], .reg [] [(1, .call (B false) []), (4, .bit false), (8, .bit false), (12, .int (↑(List.length more) : Int)), (13, .bit false)], .reg [] [(4, .call (AV.tup [AV.agg [AV.sl 1 (ints ev) false, I us, I en, I v], I k, I 0]) [])], .reg [] [(2, .loc), (7, .loc)], .reg [] [(4, .int ((↑(List.length ch) : Int) + (↑(List.length more) : Int))), (5, .bit false), (9, .int ((↑(List.length is) : Int) + (↑(List.length more) : Int))), (10, .bit false)], .reg [.frz 3, .frz 6] [(5, .int (fuel + plus)), (6, .call (AV.tup [AV.agg [AV.sl 1 (ints (ev ++ t)) false, I us2, I en2, I v2], I k2, I 0]) [])], .reg [] [], .reg [] [(2, .int ((↑(List.length ev) : Int) + (↑(List.length t) : Int))), (5, .int (↑(List.length ev) : Int)), (6, .bit false), (12, .int (↑(List.length ev) : Int)), (13, .rows (List.take (List.length ev) (ints (ev ++ t)))), (16, .call (B true) []), (24, .bit false), (29, .bit false)], .reg [] [(2, .bit true), (14, .call (B true) [])]] [] [] (B true) ([]) (by kernel_rfl) (ob1 (hfar) (q (decide (plus < 0) = false) (q (decide (2000 < plus) = false) (q ((↑(List.length (ints more)) : Int) = (↑(List.length more) : Int)) (q (decide (4096 < (↑(List.length more) : Int)) = false) (ob1 (hd) (q (Fits (0 + List.length (ints ch)) 0 8) (q (Fits (List.length (ints ch) + List.length (ints more)) (List.length (ints ch)) 8) (q (Fits (0 + List.length (ints is)) 0 8) (q (Fits (List.length (ints is) + List.length (ints more)) (List.length (ints is)) 8) (q ((↑(List.length (ints ch ++ ints more)) : Int) = (↑(List.length ch) : Int) + (↑(List.length more) : Int)) (q (decide (4096 < (↑(List.length ch) : Int) + (↑(List.length more) : Int)) = false) (q ((↑(List.length (ints is ++ ints more)) : Int) = (↑(List.length is) : Int) + (↑(List.length more) : Int)) (q (decide (4096 < (↑(List.length is) : Int) + (↑(List.length more) : Int)) = false) (qw (fuel + plus) (ob1 (hd2) (q ((↑(List.length (ints (ev ++ t))) : Int) = (↑(List.length ev) : Int) + (↑(List.length t) : Int)) (q ((↑(List.length (ints ev)) : Int) = (↑(List.length ev) : Int)) (q (decide ((↑(List.length ev) : Int) + (↑(List.length t) : Int) < (↑(List.length ev) : Int)) = false) (q ((↑(List.length (ints ev)) : Int) = (↑(List.length ev) : Int)) (q ((0 : Int) ≤ Option.getD none (0 : Int)) (q (Option.getD none (0 : Int) ≤ Option.getD (some (↑(List.length ev) : Int)) (↑(List.length (ints (ev ++ t))) : Int)) (q (Option.getD (some (↑(List.length ev) : Int)) (↑(List.length (ints (ev ++ t))) : Int) ≤ (↑(List.length (ints (ev ++ t))) : Int)) (q (List.drop (Int.toNat (Option.getD none (0 : Int))) (List.take (Int.toNat (Option.getD (some (↑(List.length ev) : Int)) (↑(List.length (ints (ev ++ t))) : Int))) (ints (ev ++ t))) = List.take (List.length ev) (ints (ev ++ t))) (ob1 (hS) (q (decide (us2 < us) = false) (q (decide (k2 < k) = false) (q ((en != 0) = true) (ob1 (ha) ob0)))))))))))))))))))))))))))))

theorem law_done (hf : ¬ (2000 < fuel ∧ fuel ≤ 1048576)) (hf0 : 0 ≤ fuel) (hf1 : fuel ≤ 2000) (h0 : 0 ≤ plus) (h1 : plus ≤ 2000) (h2 : more.length ≤ 4096) (hc : ch.length ≤ 17592186043904) (hci : is.length ≤ 17592186043904) (ev : List Int) (us v k : Int)
    (hd : SoundCall Tryd.prog 6 [.agg (Prog.enc ⟨es, ds, .mk mk mn mv (.mk mtk mtv mtl) ml⟩), .sl 1 (ints ch) false, .sl 1 (ints is) false, I fuel] [] (.tup [.agg [.sl 1 (ints ev) false, I us, I 0, I v], I k, I 0]) [])
    (hl : ch.length + more.length ≤ 4096) (hli : is.length + more.length ≤ 4096)
    (hd2 : SoundCall Tryd.prog 6 [.agg (Prog.enc ⟨es, ds, .mk mk mn mv (.mk mtk mtv mtl) ml⟩), .sl 1 (ints ch ++ ints more) false, .sl 1 (ints is ++ ints more) false, I (fuel + plus)] [] (.tup [.agg [.sl 1 (ints ev) false, I us, I 0, I v], I k, I 0]) [])
    (hel : ev.length ≤ 4294967296) :
    SoundCall Tryd.prog 3 [.agg (Prog.enc ⟨es, ds, .mk mk mn mv (.mk mtk mtv mtl) ml⟩), .sl 1 (ints ch) false, .sl 1 (ints is) false, .sl 1 (ints more) false, I fuel, I plus] [] (B true) [] := by
  have ha := alive_
  have hfar := far_ fuel
  rw [show (decide (2000 < fuel) && decide (fuel ≤ 1048576)) = false by simpa using hf] at hfar
  have hF1 : Fits (0 + (ints ch).length) 0 8 := by apply Fits.of; simp; omega
  have hF2 : Fits ((ints ch).length + (ints more).length) (ints ch).length 8 := by apply Fits.of2 <;> simp; omega
  have hF3 : Fits (0 + (ints is).length) 0 8 := by apply Fits.of; simp; omega
  have hF4 : Fits ((ints is).length + (ints more).length) (ints is).length 8 := by apply Fits.of2 <;> simp; omega
  have hS : SoundCall Tryd.prog 7 [.sl 1 (List.take ev.length (ints ev)) false, .sl 1 (ints ev) false] [] (B true) [] := by
    have e : List.take ev.length (ints ev) = ints ev := List.take_of_length_le (by simp)
    rw [e]
    have := sameInts_ ev ev (by omega)
    rwa [decide_eq_true rfl] at this
  have hsm := same_ ev us 0 v (by omega)
  exact Fn.go KT Tryd.func3 [.reg [] [], .reg [] [(1, .call (B false) []), (4, .bit false), (8, .bit false), (12, .int (↑(List.length more) : Int)), (13, .bit false)], .reg [] [(4, .call (AV.tup [AV.agg [AV.sl 1 (ints ev) false, I us, I 0, I v], I k, I 0]) [])], .reg [] [(2, .loc), (7, .loc)], .reg [] [(4, .int ((↑(List.length ch) : Int) + (↑(List.length more) : Int))), (5, .bit false), (9, .int ((↑(List.length is) : Int) + (↑(List.length more) : Int))), (10, .bit false)], .reg [.frz 3, .frz 6] [(5, .int (fuel + plus)), (6, .call (AV.tup [AV.agg [AV.sl 1 (ints ev) false, I us, I 0, I v], I k, I 0]) [])], .reg [] [], .reg [] [(2, .int (↑(List.length ev) : Int)), (5, .int (↑(List.length ev) : Int)), (6, .bit false), (12, .int (↑(List.length ev) : Int)), (13, .rows (List.take (List.length ev) (ints ev))), (16, .call (B true) []), (24, .bit false), (29, .bit false)], .reg [] [(6, .call (B true) []), (10, .bit true), (14, .call (B true) [])]] [] [] (B true) ([]) (by kernel_rfl) (ob1 (hfar) (q (decide (plus < 0) = false) (q (decide (2000 < plus) = false) (q ((↑(List.length (ints more)) : Int) = (↑(List.length more) : Int)) (q (decide (4096 < (↑(List.length more) : Int)) = false) (ob1 (hd) (q (Fits (0 + List.length (ints ch)) 0 8) (q (Fits (List.length (ints ch) + List.length (ints more)) (List.length (ints ch)) 8) (q (Fits (0 + List.length (ints is)) 0 8) (q (Fits (List.length (ints is) + List.length (ints more)) (List.length (ints is)) 8) (q ((↑(List.length (ints ch ++ ints more)) : Int) = (↑(List.length ch) : Int) + (↑(List.length more) : Int)) (q (decide (4096 < (↑(List.length ch) : Int) + (↑(List.length more) : Int)) = false) (q ((↑(List.length (ints is ++ ints more)) : Int) = (↑(List.length is) : Int) + (↑(List.length more) : Int)) (q (decide (4096 < (↑(List.length is) : Int) + (↑(List.length more) : Int)) = false) (qw (fuel + plus) (ob1 (hd2) (q ((↑(List.length (ints ev)) : Int) = (↑(List.length ev) : Int)) (q ((↑(List.length (ints ev)) : Int) = (↑(List.length ev) : Int)) (q (decide ((↑(List.length ev) : Int) < (↑(List.length ev) : Int)) = false) (q ((↑(List.length (ints ev)) : Int) = (↑(List.length ev) : Int)) (q ((0 : Int) ≤ Option.getD none (0 : Int)) (q (Option.getD none (0 : Int) ≤ Option.getD (some (↑(List.length ev) : Int)) (↑(List.length (ints ev)) : Int)) (q (Option.getD (some (↑(List.length ev) : Int)) (↑(List.length (ints ev)) : Int) ≤ (↑(List.length (ints ev)) : Int)) (q (List.drop (Int.toNat (Option.getD none (0 : Int))) (List.take (Int.toNat (Option.getD (some (↑(List.length ev) : Int)) (↑(List.length (ints ev)) : Int))) (ints ev)) = List.take (List.length ev) (ints ev)) (ob1 (hS) (q (decide (us < us) = false) (q (decide (k < k) = false) (ob1 (hsm) (q ((k == k) = true) (ob1 (ha) ob0))))))))))))))))))))))))))))))
end

theorem law_ (p : Prog) (hok : p.ok) (ch is more : List Int) (fuel plus : Int) (hif : ir fuel) (hc : ch.length ≤ 17592186043904) (hci : is.length ≤ 17592186043904) (hm : more.length ≤ 17592186043904) :
    SoundCall Tryd.prog 3 [.agg p.enc, .sl 1 (ints ch) false, .sl 1 (ints is) false, .sl 1 (ints more) false, I fuel, I plus] [] (B true) [] := by
  obtain ⟨ev, us, en, v, k, e, hr⟩ := do_ex p hok ch is fuel
  by_cases h : (2000 < fuel ∧ fuel ≤ 1048576) ∨ plus < 0 ∨ 2000 < plus ∨ 4096 < more.length
  · obtain ⟨es, ds, mk, mn, mv, ⟨mtk, mtv, mtl⟩, ml⟩ := p
    exact law_out es ds mk mn mv mtk mtv mtl ml ch is more fuel plus hif (by omega) h
  · have hnf : ¬ (2000 < fuel ∧ fuel ≤ 1048576) := by omega
    have hd := do_ hr
    by_cases h2 : e ≠ 0 ∨ 4096 < ch.length + more.length ∨ 4096 < is.length + more.length
    · obtain ⟨es, ds, mk, mn, mv, ⟨mtk, mtv, mtl⟩, ml⟩ := p
      exact law_none es ds mk mn mv mtk mtv mtl ml ch is more fuel plus hnf (by omega) (by omega) (by omega) hc hci ev us en v k e hd h2
    · obtain rfl : e = 0 := by omega
      have hfr : 0 ≤ fuel ∧ fuel ≤ 1048576 ∧ ev.length ≤ 4096 := by
        generalize hz : (0 : Int) = z at hr
        cases hr with
        | bad h => omega
        | arg => omega
        | wrong => omega
        | @fine s' en value width h h0 h1 h2 h3 hrun =>
          obtain ⟨k, _, _, _, hi⟩ := ((chkE_spec p hok).2.2 h).inv h0 ch is
          exact ⟨h0, h1, (hrun.inv ((chkE_spec p hok).2.2 h).pt hi).1.ev⟩
      obtain ⟨ev2, us2, en2, v2, k2, e2, hr2, hres⟩ := more_plain (plus := plus) (more := more) hr (by omega) (by omega) (by omega) (by simp; omega) (by simp; omega)
      have hd2 := do_ hr2
      rw [ints_append, ints_append] at hd2
      rcases hres with ⟨rfl, hen⟩ | ⟨rfl, t, rfl, hu, hku, hdn⟩
      · obtain ⟨es, ds, mk, mn, mv, ⟨mtk, mtv, mtl⟩, ml⟩ := p
        exact law_wrong es ds mk mn mv mtk mtv mtl ml ch is more fuel plus hnf hfr.1 (by omega) (by omega) (by omega) (by omega) hc hci ev us en v k hd (by omega) (by omega) ev2 us2 en2 v2 k2 hd2 hen
      · by_cases hen : en = 0
        · obtain ⟨rfl, rfl, rfl, rfl, rfl⟩ := hdn hen
          subst hen
          rw [List.append_nil] at hd2
          obtain ⟨es, ds, mk, mn, mv, ⟨mtk, mtv, mtl⟩, ml⟩ := p
          exact law_done es ds mk mn mv mtk mtv mtl ml ch is more fuel plus hnf hfr.1 (by omega) (by omega) (by omega) (by omega) hc hci ev _ _ _ hd (by omega) (by omega) hd2 (by omega)
        · obtain ⟨es, ds, mk, mn, mv, ⟨mtk, mtv, mtl⟩, ml⟩ := p
          exact law_fine es ds mk mn mv mtk mtv mtl ml ch is more fuel plus hnf hfr.1 (by omega) (by omega) (by omega) (by omega) hc hci ev us en v k hd (by omega) (by omega) t us2 en2 v2 k2 hd2 hen hu hku (by omega)

end Go.Ae

/- The machine: a move of the program is one of the rules. .. (AeNNM6, AeNNM7, AeNNM8, AeNNM9, AeNNM10, AeNNM11) -/
import Derived.Test.YtcmlbbgbfgikaaaDoorT9
set_option linter.unusedSimpArgs false
set_option linter.unusedVariables false
/- The machine: a move of the program is one of the rules. -/
namespace Go.Ae
open Go.Proofs

/-- A machine's objects. -/
def objs (p : Prog) (fuel : Int) (ch is : List Int) (s : MS) (g1 g3 : Nat) (en value width : Int) (wrong : Bool) : List AObj :=
  [Mc fuel p s.steps g1 g3 en value wrong s.expr s.env s.val, .arr g1 1 (ints s.ev), lists ch is (s.ui) s.used width, .arr g3 7 (Fr.encs s.fr.reverse)]

theorem encs_top (f : Fr) (l : List Fr) : Fr.encs (f :: l).reverse = Fr.encs l.reverse ++ [f.enc] := by
  rw [List.reverse_cons, Fr.encs_append]; rfl

/-- What is small enough. -/
structure Small (p : Prog) (fuel : Int) (ch is : List Int) (s : MS) : Prop where
  s0 : 0 ≤ s.steps
  s1 : s.steps ≤ 10000000
  fr : s.fr.length ≤ 4294967296
  ev : s.ev.length ≤ 4096
  ch : ch.length ≤ 4294967296
  is : is.length ≤ 4294967296
  ds : p.defs.length ≤ 4294967296

theorem move_go {p : Prog} {fuel : Int} {ch is : List Int} {s s' : MS} (h : Mv p fuel ch is s (.go s')) (hb : Small p fuel ch is s) :
    SoundCall Tryd.prog 24 [.lp 0 0] (objs p fuel ch is s 1 1 0 0 0 false) (B true) (objs p fuel ch is s' 1 1 0 0 0 false) ∨
    SoundCall Tryd.prog 24 [.lp 0 0] (objs p fuel ch is s 1 1 0 0 0 false) (B true) (objs p fuel ch is s' 2 1 0 0 0 false) ∨
    SoundCall Tryd.prog 24 [.lp 0 0] (objs p fuel ch is s 1 1 0 0 0 false) (B true) (objs p fuel ch is s' 1 2 0 0 0 false) := by
  obtain ⟨es, ds, mk, mn, mv, ⟨mtk, mtv, mtl⟩, ml⟩ := p
  obtain ⟨b1, b2, b3, b4, b5, b5i, b6⟩ := hb
  have hrl : ∀ fr : List Fr, (Fr.encs fr.reverse).length = fr.length := fun fr => by simp
  generalize ho : Out.go s' = o at h
  cases h with
  | @const st ev fr n v ty l env val us ui =>
    obtain ⟨tk, tv, tl⟩ := ty; obtain ⟨wn, wf, wl, we⟩ := val
    cases ho
    exact .inl (by apply move_const <;> first | assumption | exact ⟨b1, b2⟩)
  | @var st ev fr n v ty l env val us ui w h hn =>
    obtain ⟨tk, tv, tl⟩ := ty; obtain ⟨wn, wf, wl, we⟩ := val; obtain ⟨vn, vf, vl, ve⟩ := w
    cases ho
    exact .inl (by apply move_var <;> first | assumption | exact ⟨b1, b2⟩)
  | @fn st ev fr n v ty l env val us ui h0 h1 =>
    obtain ⟨tk, tv, tl⟩ := ty; obtain ⟨wn, wf, wl, we⟩ := val
    cases ho
    exact .inl (by apply move_fun <;> first | assumption | exact ⟨b1, b2⟩)
  | @lam st ev fr n v ty l env val us ui =>
    obtain ⟨tk, tv, tl⟩ := ty; obtain ⟨wn, wf, wl, we⟩ := val
    cases ho
    exact .inl (by apply move_lam <;> first | assumption | exact ⟨b1, b2⟩)
  | @app st ev fr n v ty a l env val us ui hl =>
    obtain ⟨tk, tv, tl⟩ := ty; obtain ⟨wn, wf, wl, we⟩ := val; obtain ⟨ak, an, av, ⟨atk, atv, atl⟩, al⟩ := a
    cases ho
    have := move_push3 fuel st es ds mk mn mv mtk mtv mtl ml (ints ev) (Fr.encs fr.reverse) ch is (ui) env wn wf wl we us n v tk tv tl ak an av atk atv atl al l (by rw [hrl]; exact b3) (by omega)
    rw [← encs_top] at this
    exact .inr (.inr this)
  | @lt st ev fr n v ty a l env val us ui hl =>
    obtain ⟨tk, tv, tl⟩ := ty; obtain ⟨wn, wf, wl, we⟩ := val; obtain ⟨ak, an, av, ⟨atk, atv, atl⟩, al⟩ := a
    cases ho
    have := move_push5 fuel st es ds mk mn mv mtk mtv mtl ml (ints ev) (Fr.encs fr.reverse) ch is (ui) env wn wf wl we us n v tk tv tl ak an av atk atv atl al l (by rw [hrl]; exact b3) (by omega)
    rw [← encs_top] at this
    exact .inr (.inr this)
  | @cs st ev fr n v ty a l env val us ui hl =>
    obtain ⟨tk, tv, tl⟩ := ty; obtain ⟨wn, wf, wl, we⟩ := val; obtain ⟨ak, an, av, ⟨atk, atv, atl⟩, al⟩ := a
    cases ho
    have := move_push6 fuel st es ds mk mn mv mtk mtv mtl ml (ints ev) (Fr.encs fr.reverse) ch is (ui) env wn wf wl we us n v tk tv tl ak an av atk atv atl al l (by rw [hrl]; exact b3) (by omega)
    rw [← encs_top] at this
    exact .inr (.inr this)
  | @fine st ev fr n v ty l env val us ui c hf hc h0 h1 =>
    obtain ⟨tk, tv, tl⟩ := ty; obtain ⟨wn, wf, wl, we⟩ := val
    cases ho
    exact .inl (by apply move_fine <;> first | assumption | exact ⟨b1, b2⟩)
  | @event st ev fr n v ty a l env val us ui hf he hl =>
    obtain ⟨tk, tv, tl⟩ := ty; obtain ⟨wn, wf, wl, we⟩ := val; obtain ⟨ak, an, av, ⟨atk, atv, atl⟩, al⟩ := a
    cases ho
    have := move_event fuel st es ds mk mn mv mtk mtv mtl ml (ints ev) (Fr.encs fr.reverse) ch is (ui) env wn wf wl we us n v tk tv tl ak an av atk atv atl al l hf ⟨b1, b2⟩ (by simpa using he) (by omega)
    rw [show ints ev ++ [[I n]] = ints (ev ++ [n]) by rw [ints_append]; rfl] at this
    exact .inr (.inl this)
  | @arg st ev fr n v ty a b env fn env' val us ui =>
    obtain ⟨tk, tv, tl⟩ := ty; obtain ⟨wn, wf, wl, we⟩ := val; obtain ⟨bk, bn, bv, ⟨btk, btv, btl⟩, bl⟩ := b; obtain ⟨gn, gf, gl, ge⟩ := fn
    cases ho
    have := back_arg fuel st es ds mk mn mv mtk mtv mtl ml (ints ev) (Fr.encs fr.reverse) ch is (ui) us 0 env' wn wf wl we n v tk tv tl a bk bn bv btk btv btl bl env gn gf gl ge (by rw [hrl]; simp at b3; omega)
    have := move_back1 (h := this)
    rw [← encs_top, ← encs_top] at this
    exact .inl this
  | @blet st ev fr n v ty a b env fn env' val us ui hf =>
    obtain ⟨tk, tv, tl⟩ := ty; obtain ⟨wn, wf, wl, we⟩ := val; obtain ⟨bk, bn, bv, ⟨btk, btv, btl⟩, bl⟩ := b; obtain ⟨gn, gf, gl, ge⟩ := fn
    cases ho
    have := back_let fuel st es ds mk mn mv mtk mtv mtl ml (ints ev) (Fr.encs fr.reverse) ch is (ui) us 0 env' wn wf wl we n v tk tv tl a bk bn bv btk btv btl bl env gn gf gl ge (by rw [hrl]; simp at b3; omega) hf ⟨b1, b2⟩
    have := move_back2 (h := this)
    rw [← encs_top] at this
    exact .inr (.inr this)
  | @bcase st ev fr n v ty l env fn env' w wf wl we us ui b hf hl hw =>
    obtain ⟨tk, tv, tl⟩ := ty; obtain ⟨bk, bn, bv, ⟨btk, btv, btl⟩, bl⟩ := b; obtain ⟨gn, gf, gl, ge⟩ := fn
    cases ho
    have := back_case fuel st es ds mk mn mv mtk mtv mtl ml (ints ev) (Fr.encs fr.reverse) ch is (ui) us 0 env' wf wl we w n v tk tv tl l bk bn bv btk btv btl bl env gn gf gl ge (by rw [hrl]; simp at b3; omega) hf ⟨b1, b2⟩ (by omega) hw
    have := move_back2 (h := this)
    rw [← encs_top] at this
    exact .inr (.inr this)
  | @bfun st ev fr i gl ge env' val us ui d hf hd =>
    obtain ⟨nm, ⟨pk, pv, pl⟩, ⟨rk, rv, rl⟩, ⟨bk, bn, bv, ⟨btk, btv, btl⟩, bl⟩⟩ := d; obtain ⟨wn, wf, wl, we⟩ := val
    cases ho
    have := back_fun fuel st es ds mk mn mv mtk mtv mtl ml (ints ev) (Fr.encs fr.reverse) ch is (ui) us 0 env' wn wf wl we i nm pk pv pl rk rv rl bk bn bv btk btv btl bl gl ge (by rw [hrl]; simp at b3; omega) hf ⟨b1, b2⟩ b6 hd
    have := move_back2 (h := this)
    rw [← encs_top] at this
    exact .inr (.inr this)
  | @bclo st ev fr n v ty b ge env' val us ui hf =>
    obtain ⟨tk, tv, tl⟩ := ty; obtain ⟨wn, wf, wl, we⟩ := val; obtain ⟨bk, bn, bv, ⟨btk, btv, btl⟩, bl⟩ := b
    cases ho
    have := back_clo fuel st es ds mk mn mv mtk mtv mtl ml (ints ev) (Fr.encs fr.reverse) ch is (ui) us 0 env' wn wf wl we n v tk tv tl bk bn bv btk btv btl bl ge (by rw [hrl]; simp at b3; omega) hf ⟨b1, b2⟩
    have := move_back2 (h := this)
    rw [← encs_top] at this
    exact .inr (.inr this)
  | @int st ev fr n v ty l env val us ui =>
    obtain ⟨tk, tv, tl⟩ := ty; obtain ⟨wn, wf, wl, we⟩ := val
    cases ho
    exact .inl (by apply move_int <;> first | assumption | exact ⟨b1, b2⟩)
  | @afine st ev fr n v ty l env val us ui x hf hc h0 h1 =>
    obtain ⟨tk, tv, tl⟩ := ty; obtain ⟨wn, wf, wl, we⟩ := val
    cases ho
    exact .inl (by apply move_afine <;> first | assumption | exact ⟨b1, b2⟩)
  | @add st ev fr n v ty a l env val us ui hl =>
    obtain ⟨tk, tv, tl⟩ := ty; obtain ⟨wn, wf, wl, we⟩ := val; obtain ⟨ak, an, av, ⟨atk, atv, atl⟩, al⟩ := a
    cases ho
    have := move_push11 fuel st es ds mk mn mv mtk mtv mtl ml (ints ev) (Fr.encs fr.reverse) ch is (ui) env wn wf wl we us n v tk tv tl ak an av atk atv atl al l (by rw [hrl]; exact b3) (by omega)
    rw [← encs_top] at this
    exact .inr (.inr this)
  | @less st ev fr n v ty a l env val us ui hl =>
    obtain ⟨tk, tv, tl⟩ := ty; obtain ⟨wn, wf, wl, we⟩ := val; obtain ⟨ak, an, av, ⟨atk, atv, atl⟩, al⟩ := a
    cases ho
    have := move_push12 fuel st es ds mk mn mv mtk mtv mtl ml (ints ev) (Fr.encs fr.reverse) ch is (ui) env wn wf wl we us n v tk tv tl ak an av atk atv atl al l (by rw [hrl]; exact b3) (by omega)
    rw [← encs_top] at this
    exact .inr (.inr this)
  | @badd st ev fr n v ty l env fn env' w wf wl we us ui hf =>
    obtain ⟨tk, tv, tl⟩ := ty; obtain ⟨gn, gf, gl, ge⟩ := fn
    cases ho
    have := back_add fuel st es ds mk mn mv mtk mtv mtl ml (ints ev) (Fr.encs fr.reverse) ch is (ui) us 0 env' w wf wl we 11 n v tk tv tl l env gn gf gl ge (by rw [hrl]; simp at b3; omega) hf ⟨b1, b2⟩
    have := move_back2 (h := this)
    rw [← encs_top] at this
    exact .inr (.inr this)
  | @bless st ev fr n v ty l env fn env' w wf wl we us ui hf =>
    obtain ⟨tk, tv, tl⟩ := ty; obtain ⟨gn, gf, gl, ge⟩ := fn
    cases ho
    have := back_less fuel st es ds mk mn mv mtk mtv mtl ml (ints ev) (Fr.encs fr.reverse) ch is (ui) us 0 env' w wf wl we 12 n v tk tv tl l env gn gf gl ge (by rw [hrl]; simp at b3; omega) hf ⟨b1, b2⟩
    have := move_back2 (h := this)
    rw [← encs_top] at this
    exact .inr (.inr this)
  | _ => cases ho

theorem move_stop {p : Prog} {fuel : Int} {ch is : List Int} {s s' : MS} {en value width : Int} {wrong : Bool} (h : Mv p fuel ch is s (.stop s' en value width wrong)) (hb : Small p fuel ch is s) :
    SoundCall Tryd.prog 24 [.lp 0 0] (objs p fuel ch is s 1 1 0 0 0 false) (B false) (objs p fuel ch is s' 1 1 en value width wrong) := by
  obtain ⟨es, ds, mk, mn, mv, ⟨mtk, mtv, mtl⟩, ml⟩ := p
  obtain ⟨b1, b2, b3, b4, b5, b5i, b6⟩ := hb
  have hrl : ∀ fr : List Fr, (Fr.encs fr.reverse).length = fr.length := fun fr => by simp
  generalize ho : Out.stop s' en value width wrong = o at h
  cases h with
  | @more st ev fr k n v ty l env val us ui hk hf =>
    obtain ⟨tk, tv, tl⟩ := ty; obtain ⟨wn, wf, wl, we⟩ := val
    cases ho
    apply move_more <;> assumption
  | @want st ev fr n v ty l env val us ui hf hu =>
    obtain ⟨tk, tv, tl⟩ := ty; obtain ⟨wn, wf, wl, we⟩ := val
    cases ho
    apply move_want <;> assumption
  | @wrong st ev fr n v ty l env val us ui c hf hc hw =>
    obtain ⟨tk, tv, tl⟩ := ty; obtain ⟨wn, wf, wl, we⟩ := val
    cases ho
    apply move_wrong <;> assumption
  | @full st ev fr n v ty l env val us ui hf he =>
    obtain ⟨tk, tv, tl⟩ := ty; obtain ⟨wn, wf, wl, we⟩ := val
    cases ho
    have he1 : 4096 ≤ (ints ev).length := by simpa using he
    have he2 : (ints ev).length ≤ 100000 := by simp only [ints_length]; simp only at b4; omega
    apply move_full <;> assumption
  | @awant st ev fr n v ty l env val us ui hf hu =>
    obtain ⟨tk, tv, tl⟩ := ty; obtain ⟨wn, wf, wl, we⟩ := val
    cases ho
    apply move_awant <;> assumption
  | @awrong st ev fr n v ty l env val us ui x hf hc hw =>
    obtain ⟨tk, tv, tl⟩ := ty; obtain ⟨wn, wf, wl, we⟩ := val
    cases ho
    apply move_awrong <;> assumption
  | @done st ev env val us ui =>
    obtain ⟨wn, wf, wl, we⟩ := val
    cases ho
    apply move_back1; apply back_done
  | @bmore st ev fr k e env fn env' val us ui hk hf =>
    obtain ⟨wn, wf, wl, we⟩ := val; obtain ⟨gn, gf, gl, ge⟩ := fn
    cases ho
    have := back_more fuel st es ds mk mn mv mtk mtv mtl ml (ints ev) (Fr.encs fr.reverse) ch is (ui) us 0 env' wn wf wl we k hk e env gn gf gl ge (by rw [hrl]; simp at b3; omega) hf
    have := move_back1 (h := this)
    rw [← encs_top] at this
    exact this
  | _ => cases ho

end Go.Ae

/- The machine: Run. -/
namespace Go.Ae
open Go.Proofs

/-- A machine in its loop: object 0; its world 1, its events 2, its frames 3. -/
def McR (fuel : Int) (p : Prog) (steps : Int) (en value : Int) (wrong : Bool) (e : Option Expr) (env : List Vl) (v : Vl) : AObj :=
  .cells ([I fuel, B false, I steps, .la 2 1, I en, I value, B wrong] ++ (p.enc ++ ([.ifc 46 (.lp 1 0), .la 3 1, .ip (lamC e) 0, .ip (envC env) 0] ++ v.enc))) [9, 10, 11, 12, 13, 14, 15]

def objsR (p : Prog) (fuel : Int) (ch is : List Int) (s : MS) (en value width : Int) (wrong : Bool) : List AObj :=
  [McR fuel p s.steps en value wrong s.expr s.env s.val, lists ch is (s.ui) s.used width, .arr 1 1 (ints s.ev), .arr 1 7 (Fr.encs s.fr.reverse)]

section
variable (fuel : Int) (es : List ByteArray) (ds : List Def) (mk mn mv mtk mtv : Int) (mtl : List Ty) (ml : List Expr) (cc ci : List Int) (cu : Int)
  (st : Int) (E : List (List AV)) (R : List (List AV)) (e : Option Expr) (env : List Vl) (wn wf : Int) (wl : Option Expr) (we : List Vl) (us : Int)
  (st2 : Int) (E2 : List (List AV)) (R2 : List (List AV)) (e2 : Option Expr) (env2 : List Vl) (vn vf : Int) (vl : Option Expr) (ve : List Vl) (us2 : Int) (cc2 ci2 : List Int) (cu2 : Int)

theorem round_go0 (x : Exit) (s' : ASt)
    (h : SoundCall Tryd.prog 24 [.lp 0 0]
      [Mc fuel ⟨es, ds, .mk mk mn mv (.mk mtk mtv mtl) ml⟩ st 1 1 0 0 false e env (.mk wn wf wl we), .arr 1 1 E, lists cc ci cu us 0, .arr 1 7 R]
      (B true) [Mc fuel ⟨es, ds, .mk mk mn mv (.mk mtk mtv mtl) ml⟩ st2 1 1 0 0 false e2 env2 (.mk vn vf vl ve), .arr 1 1 E2, lists cc2 ci2 cu2 us2 0, .arr 1 7 R2])
    (k : Lp Tryd.prog 6 2 (loopN Tryd.f16 0)
      ⟨lookT [(0, .lp 0 0)], [McR fuel ⟨es, ds, .mk mk mn mv (.mk mtk mtv mtl) ml⟩ st2 0 0 false e2 env2 (.mk vn vf vl ve), lists cc2 ci2 cu2 us2 0, .arr 1 1 E2, .arr 1 7 R2]⟩ x s') :
    Lp Tryd.prog 6 2 (loopN Tryd.f16 0)
      ⟨lookT [(0, .lp 0 0)], [McR fuel ⟨es, ds, .mk mk mn mv (.mk mtk mtv mtl) ml⟩ st 0 0 false e env (.mk wn wf wl we), lists cc ci cu us 0, .arr 1 1 E, .arr 1 7 R]⟩ x s' := by
  exact Lp.next KT [.reg [] [(1, .call (B true) [.cells [I fuel, B false, I st2, AV.la 1 1, I 0, I 0, B false, AV.sl 1 (strs es) false, AV.sl 14 (Def.encs ds) false, I mk, I mn, I mv, I mtk, I mtv, AV.sl 3 (Ty.encs mtl) false, AV.sl 7 (Expr.encs ml) false, AV.ifc 46 (AV.lp 2 0), AV.la 3 1, AV.ip (lamC e2) 0, AV.ip (envC env2) 0, I vn, I vf, AV.ip (lamC vl) 0, AV.ip (envC ve) 0] [9, 10, 11, 12, 13, 14, 15], .arr 1 1 E2, .cells [AV.sl 1 (ints cc2) false, AV.sl 1 (ints ci2) false, I us2, I cu2, I 0] [], .arr 1 7 R2])]] [.keep [(0, [])]] (by kernel_rfl) (ob1 (h) ob0) (k)

theorem round_go1 (x : Exit) (s' : ASt)
    (h : SoundCall Tryd.prog 24 [.lp 0 0]
      [Mc fuel ⟨es, ds, .mk mk mn mv (.mk mtk mtv mtl) ml⟩ st 1 1 0 0 false e env (.mk wn wf wl we), .arr 1 1 E, lists cc ci cu us 0, .arr 1 7 R]
      (B true) [Mc fuel ⟨es, ds, .mk mk mn mv (.mk mtk mtv mtl) ml⟩ st2 2 1 0 0 false e2 env2 (.mk vn vf vl ve), .arr 2 1 E2, lists cc2 ci2 cu2 us2 0, .arr 1 7 R2])
    (k : Lp Tryd.prog 6 2 (loopN Tryd.f16 0)
      ⟨lookT [(0, .lp 0 0)], [McR fuel ⟨es, ds, .mk mk mn mv (.mk mtk mtv mtl) ml⟩ st2 0 0 false e2 env2 (.mk vn vf vl ve), lists cc2 ci2 cu2 us2 0, .arr 1 1 E2, .arr 1 7 R2]⟩ x s') :
    Lp Tryd.prog 6 2 (loopN Tryd.f16 0)
      ⟨lookT [(0, .lp 0 0)], [McR fuel ⟨es, ds, .mk mk mn mv (.mk mtk mtv mtl) ml⟩ st 0 0 false e env (.mk wn wf wl we), lists cc ci cu us 0, .arr 1 1 E, .arr 1 7 R]⟩ x s' := by
  exact Lp.next KT [.reg [] [(1, .call (B true) [.cells [I fuel, B false, I st2, AV.la 1 2, I 0, I 0, B false, AV.sl 1 (strs es) false, AV.sl 14 (Def.encs ds) false, I mk, I mn, I mv, I mtk, I mtv, AV.sl 3 (Ty.encs mtl) false, AV.sl 7 (Expr.encs ml) false, AV.ifc 46 (AV.lp 2 0), AV.la 3 1, AV.ip (lamC e2) 0, AV.ip (envC env2) 0, I vn, I vf, AV.ip (lamC vl) 0, AV.ip (envC ve) 0] [9, 10, 11, 12, 13, 14, 15], .arr 2 1 E2, .cells [AV.sl 1 (ints cc2) false, AV.sl 1 (ints ci2) false, I us2, I cu2, I 0] [], .arr 1 7 R2])]] [.keep [(0, [])]] (by kernel_rfl) (ob1 (h) ob0) (k)

theorem round_go2 (x : Exit) (s' : ASt)
    (h : SoundCall Tryd.prog 24 [.lp 0 0]
      [Mc fuel ⟨es, ds, .mk mk mn mv (.mk mtk mtv mtl) ml⟩ st 1 1 0 0 false e env (.mk wn wf wl we), .arr 1 1 E, lists cc ci cu us 0, .arr 1 7 R]
      (B true) [Mc fuel ⟨es, ds, .mk mk mn mv (.mk mtk mtv mtl) ml⟩ st2 1 2 0 0 false e2 env2 (.mk vn vf vl ve), .arr 1 1 E2, lists cc2 ci2 cu2 us2 0, .arr 2 7 R2])
    (k : Lp Tryd.prog 6 2 (loopN Tryd.f16 0)
      ⟨lookT [(0, .lp 0 0)], [McR fuel ⟨es, ds, .mk mk mn mv (.mk mtk mtv mtl) ml⟩ st2 0 0 false e2 env2 (.mk vn vf vl ve), lists cc2 ci2 cu2 us2 0, .arr 1 1 E2, .arr 1 7 R2]⟩ x s') :
    Lp Tryd.prog 6 2 (loopN Tryd.f16 0)
      ⟨lookT [(0, .lp 0 0)], [McR fuel ⟨es, ds, .mk mk mn mv (.mk mtk mtv mtl) ml⟩ st 0 0 false e env (.mk wn wf wl we), lists cc ci cu us 0, .arr 1 1 E, .arr 1 7 R]⟩ x s' := by
  exact Lp.next KT [.reg [] [(1, .call (B true) [.cells [I fuel, B false, I st2, AV.la 1 1, I 0, I 0, B false, AV.sl 1 (strs es) false, AV.sl 14 (Def.encs ds) false, I mk, I mn, I mv, I mtk, I mtv, AV.sl 3 (Ty.encs mtl) false, AV.sl 7 (Expr.encs ml) false, AV.ifc 46 (AV.lp 2 0), AV.la 3 2, AV.ip (lamC e2) 0, AV.ip (envC env2) 0, I vn, I vf, AV.ip (lamC vl) 0, AV.ip (envC ve) 0] [9, 10, 11, 12, 13, 14, 15], .arr 1 1 E2, .cells [AV.sl 1 (ints cc2) false, AV.sl 1 (ints ci2) false, I us2, I cu2, I 0] [], .arr 2 7 R2])]] [.keep [(0, [])]] (by kernel_rfl) (ob1 (h) ob0) (k)

theorem round_stop (en value width : Int) (wrong : Bool)
    (h : SoundCall Tryd.prog 24 [.lp 0 0]
      [Mc fuel ⟨es, ds, .mk mk mn mv (.mk mtk mtv mtl) ml⟩ st 1 1 0 0 false e env (.mk wn wf wl we), .arr 1 1 E, lists cc ci cu us 0, .arr 1 7 R]
      (B false) [Mc fuel ⟨es, ds, .mk mk mn mv (.mk mtk mtv mtl) ml⟩ st2 1 1 en value wrong e2 env2 (.mk vn vf vl ve), .arr 1 1 E2, lists cc2 ci2 cu2 us2 width, .arr 1 7 R2]) :
    Lp Tryd.prog 6 2 (loopN Tryd.f16 0)
      ⟨lookT [(0, .lp 0 0)], [McR fuel ⟨es, ds, .mk mk mn mv (.mk mtk mtv mtl) ml⟩ st 0 0 false e env (.mk wn wf wl we), lists cc ci cu us 0, .arr 1 1 E, .arr 1 7 R]⟩ (.exit 0)
      ⟨lookT [(0, .lp 0 0)], [McR fuel ⟨es, ds, .mk mk mn mv (.mk mtk mtv mtl) ml⟩ st2 en value wrong e2 env2 (.mk vn vf vl ve), lists cc2 ci2 cu2 us2 width, .arr 1 1 E2, .arr 1 7 R2]⟩ := by
  exact Lp.last KT [.reg [] [(1, .call (B false) [.cells [I fuel, B false, I st2, AV.la 1 1, I en, I value, B wrong, AV.sl 1 (strs es) false, AV.sl 14 (Def.encs ds) false, I mk, I mn, I mv, I mtk, I mtv, AV.sl 3 (Ty.encs mtl) false, AV.sl 7 (Expr.encs ml) false, AV.ifc 46 (AV.lp 2 0), AV.la 3 1, AV.ip (lamC e2) 0, AV.ip (envC env2) 0, I vn, I vf, AV.ip (lamC vl) 0, AV.ip (envC ve) 0] [9, 10, 11, 12, 13, 14, 15], .arr 1 1 E2, .cells [AV.sl 1 (ints cc2) false, AV.sl 1 (ints ci2) false, I us2, I cu2, I width] [], .arr 1 7 R2])]] [.keep [(0, [])]] (by kernel_rfl) (ob1 (h) ob0) (by intro h; cases h)
end

end Go.Ae

/- The machine, plain: runs. -/
namespace Go.Ae

def mback (p : Prog) (fuel : Int) (s : MS) : Out :=
  match s.fr with
  | [] => .stop s 0 (match s.val with | .mk n _ _ _ => n) 0 false
  | ⟨k, e, env, fn⟩ :: r =>
    if k = 0 then (match e with
      | some (.mk _ _ _ _ [_, b]) => .go ⟨s.steps, s.ev, ⟨1, none, [], s.val⟩ :: r, some b, env, s.val, s.used, s.ui⟩
      | _ => .go s)
    else if fuel ≤ s.steps then .stop s 1 0 0 false
    else if k = 2 then (match e with
      | some (.mk _ _ _ _ [_, b]) => .go ⟨s.steps + 1, s.ev, r, some b, s.val :: env, s.val, s.used, s.ui⟩
      | _ => .go s)
    else if k = 3 then (match e, s.val with
      | some (.mk _ _ _ _ l), .mk w _ _ _ => .go ⟨s.steps + 1, s.ev, r, l[1 + w.toNat]?, env, s.val, s.used, s.ui⟩
      | _, _ => .go s)
    else if k = 4 then (match e, s.val with
      | some (.mk _ n _ _ _), .mk w _ _ _ => .go ⟨s.steps + 1, s.ev, r, none, [], .mk (IntKind.wrap .i64 (w + n)) 0 none [], s.used, s.ui⟩
      | _, _ => .go s)
    else if k = 5 then (match e, s.val with
      | some (.mk _ n _ _ _), .mk w _ _ _ => .go ⟨s.steps + 1, s.ev, r, none, [], .mk (if w < n then 1 else 0) 0 none [], s.used, s.ui⟩
      | _, _ => .go s)
    else (match fn with
      | .mk _ f gl ge => if 0 < f then .go ⟨s.steps + 1, s.ev, r, (p.defs[f.toNat - 1]?).map (·.body), [s.val], s.val, s.used, s.ui⟩
        else (match gl with
          | some (.mk _ _ _ _ [b]) => .go ⟨s.steps + 1, s.ev, r, some b, s.val :: ge, s.val, s.used, s.ui⟩
          | _ => .go s))

def mmove (p : Prog) (fuel : Int) (ch is : List Int) (s : MS) : Out :=
  match s.expr with
  | none => mback p fuel s
  | some (.mk k n v ty l) =>
    if k = 0 then .go ⟨s.steps, s.ev, s.fr, none, [], .mk n 0 none [], s.used, s.ui⟩
    else if k = 1 then .go ⟨s.steps, s.ev, s.fr, none, [], s.env.getD n.toNat vZ, s.used, s.ui⟩
    else if k = 2 then .go ⟨s.steps, s.ev, s.fr, none, [], .mk 0 (n + 1) none [], s.used, s.ui⟩
    else if k = 4 then .go ⟨s.steps, s.ev, s.fr, none, [], .mk 0 0 (some (.mk k n v ty l)) s.env, s.used, s.ui⟩
    else if k = 3 then .go ⟨s.steps, s.ev, ⟨0, some (.mk k n v ty l), s.env, vZ⟩ :: s.fr, l[0]?, s.env, s.val, s.used, s.ui⟩
    else if k = 5 then .go ⟨s.steps, s.ev, ⟨2, some (.mk k n v ty l), s.env, vZ⟩ :: s.fr, l[0]?, s.env, s.val, s.used, s.ui⟩
    else if k = 6 then .go ⟨s.steps, s.ev, ⟨3, some (.mk k n v ty l), s.env, vZ⟩ :: s.fr, l[0]?, s.env, s.val, s.used, s.ui⟩
    else if k = 9 then .go ⟨s.steps, s.ev, s.fr, none, [], .mk n 0 none [], s.used, s.ui⟩
    else if k = 11 then .go ⟨s.steps, s.ev, ⟨4, some (.mk k n v ty l), s.env, vZ⟩ :: s.fr, l[0]?, s.env, s.val, s.used, s.ui⟩
    else if k = 12 then .go ⟨s.steps, s.ev, ⟨5, some (.mk k n v ty l), s.env, vZ⟩ :: s.fr, l[0]?, s.env, s.val, s.used, s.ui⟩
    else if fuel ≤ s.steps then .stop s 1 0 0 false
    else if k = 10 then
      (match is[s.ui]? with
      | none => .stop s 2 0 0 false
      | some x => if x < -1099511627776 ∨ 1099511627776 < x then .stop s 0 0 0 true else .go ⟨s.steps + 1, s.ev, s.fr, none, [], .mk x 0 none [], s.used, s.ui + 1⟩)
    else if k = 8 then
      (match ch[s.used]? with
      | none => .stop s 2 0 v false
      | some c => if c < 0 ∨ v ≤ c then .stop s 0 0 0 true else .go ⟨s.steps + 1, s.ev, s.fr, none, [], .mk c 0 none [], s.used + 1, s.ui⟩)
    else if 4096 ≤ s.ev.length then .stop s 1 0 0 false
    else .go ⟨s.steps + 1, s.ev ++ [n], s.fr, l[0]?, s.env, s.val, s.used, s.ui⟩

theorem Mv.eq {p : Prog} {fuel : Int} {ch is : List Int} {s : MS} {o : Out} (h : Mv p fuel ch is s o) : mmove p fuel ch is s = o := by
  cases h with
  | @more st ev fr k n v ty l env val us ui hk hf => rcases hk with rfl | rfl | rfl <;> simp [mmove, hf]
  | @want st ev fr n v ty l env val us ui hf hu => simp [mmove, show ¬ fuel ≤ st by omega, hu]
  | @wrong st ev fr n v ty l env val us ui c hf hc hw => simp [mmove, show ¬ fuel ≤ st by omega, hc, hw]
  | @fine st ev fr n v ty l env val us ui c hf hc h0 h1 => simp [mmove, show ¬ fuel ≤ st by omega, hc, show ¬ (c < 0 ∨ v ≤ c) by omega]
  | @full st ev fr n v ty l env val us ui hf he => simp [mmove, show ¬ fuel ≤ st by omega, he]
  | @event st ev fr n v ty a l env val us ui hf he hl => simp [mmove, show ¬ fuel ≤ st by omega, show ¬ 4096 ≤ ev.length by omega]
  | @awant st ev fr n v ty l env val us ui hf hu => simp [mmove, show ¬ fuel ≤ st by omega, hu]
  | @awrong st ev fr n v ty l env val us ui x hf hc hw => simp [mmove, show ¬ fuel ≤ st by omega, hc, hw]
  | @afine st ev fr n v ty l env val us ui x hf hc h0 h1 => simp [mmove, show ¬ fuel ≤ st by omega, hc, show ¬ (x < -1099511627776 ∨ 1099511627776 < x) by omega]
  | @badd st ev fr n v ty l env fn env' w wf wl we us ui hf => simp [mmove, mback, show ¬ fuel ≤ st by omega]
  | @bless st ev fr n v ty l env fn env' w wf wl we us ui hf => simp [mmove, mback, show ¬ fuel ≤ st by omega]
  | @bmore st ev fr k e env fn env' val us ui hk hf => simp [mmove, mback, hk, hf]
  | @blet st ev fr n v ty a b env fn env' val us ui hf => simp [mmove, mback, show ¬ fuel ≤ st by omega]
  | @bcase st ev fr n v ty l env fn env' w wf wl we us ui b hf hl hw => simp [mmove, mback, show ¬ fuel ≤ st by omega, hw]
  | @bfun st ev fr i gl ge env' val us ui d hf hd =>
    have h1 : ((i : Int) + 1).toNat - 1 = i := by omega
    have h2 : (0 : Int) < (i : Int) + 1 := by omega
    simp [mmove, mback, show ¬ fuel ≤ st by omega, h2, hd]
  | @done st ev env val us ui => cases val; rfl
  | @bclo st ev fr n v ty b ge env' val us ui hf => simp [mmove, mback, show ¬ fuel ≤ st by omega]
  | @var st ev fr n v ty l env val us ui w h hn => simp [mmove, List.getD_eq_getElem?_getD, h]
  | _ => simp [mmove, mback]

theorem Mv.det {p : Prog} {fuel : Int} {ch is : List Int} {s : MS} {o o' : Out} (h : Mv p fuel ch is s o) (h' : Mv p fuel ch is s o') : o = o' := h.eq.symm.trans h'.eq

inductive MRun (p : Prog) (fuel : Int) (ch is : List Int) : MS → MS → Int → Int → Int → Bool → Prop
  | stop {s s' en value width wrong} (h : Mv p fuel ch is s (.stop s' en value width wrong)) : MRun p fuel ch is s s' en value width wrong
  | more {s s1 s' en value width wrong} (h : Mv p fuel ch is s (.go s1)) (r : MRun p fuel ch is s1 s' en value width wrong) : MRun p fuel ch is s s' en value width wrong

theorem MRun.det {p : Prog} {fuel : Int} {ch is : List Int} {s s1 s2 : MS} {en1 v1 w1 en2 v2 w2 : Int} {b1 b2 : Bool} (h : MRun p fuel ch is s s1 en1 v1 w1 b1) (k : MRun p fuel ch is s s2 en2 v2 w2 b2) :
    s1 = s2 ∧ en1 = en2 ∧ v1 = v2 ∧ w1 = w2 ∧ b1 = b2 := by
  induction h generalizing s2 with
  | stop h =>
    cases k with
    | stop k => have := h.det k; cases this; exact ⟨rfl, rfl, rfl, rfl, rfl⟩
    | more k r => have := h.det k; cases this
  | more h r ih =>
    cases k with
    | stop k => have := h.det k; cases this
    | more k r2 => have := h.det k; cases this; exact ih r2

structure Inv (p : Prog) (T : Ty) (fuel : Int) (ch is : List Int) (s : MS) : Prop where
  wt : WT p T s
  s0 : 0 ≤ s.steps
  s1 : s.steps ≤ fuel
  psi : s.psi ≤ 1200 * (s.steps.toNat + 1)
  ev : s.ev.length ≤ 4096
  evr : ∀ m ∈ s.ev, 0 ≤ m ∧ m < (p.events.length : Int)
  us : s.used ≤ ch.length
  ui : s.ui ≤ is.length

theorem Inv.next {p : Prog} (hp : PT p) {T : Ty} {fuel : Int} {ch is : List Int} {s : MS} (h : Inv p T fuel ch is s) :
    ∃ o, Mv p fuel ch is s o ∧ ∀ s', o = .go s' → Inv p T fuel ch is s' ∧ Dec fuel s s' := by
  obtain ⟨o, h1, h2⟩ := h.wt.step hp fuel ch is h.us h.ui
  refine ⟨o, h1, fun s' e => ?_⟩
  obtain ⟨k1, k2, k3, k3u, k4, k5⟩ := h2 s' e
  obtain ⟨q1, q2, q3, q4, q5, q6, q7, q8⟩ := h
  refine ⟨⟨k1, ?_, ?_, ?_, k4 q5, fun m hm => ?_, k3, k3u⟩, k2⟩
  · rcases k2 with k2 | k2 <;> omega
  · rcases k2 with k2 | k2 <;> omega
  · rcases k2 with k2 | k2
    · rw [k2.1]; omega
    · rw [k2.1]; omega
  · rcases k5 m hm with h | h
    · exact q6 m h
    · exact h

theorem Inv.go {p : Prog} (hp : PT p) {T : Ty} {fuel : Int} {ch is : List Int} {s s' : MS} (h : Inv p T fuel ch is s) (hm : Mv p fuel ch is s (.go s')) : Inv p T fuel ch is s' := by
  obtain ⟨o, h1, h2⟩ := h.next hp
  exact (h2 s' (h1.det hm)).1

theorem run_ex {p : Prog} (hp : PT p) {T : Ty} {fuel : Int} {ch is : List Int} (s : MS) (h : Inv p T fuel ch is s) : ∃ s' en value width wrong, MRun p fuel ch is s s' en value width wrong := by
  obtain ⟨o, h1, h2⟩ := h.next hp
  cases o with
  | stop s' en value width wrong => exact ⟨_, _, _, _, _, .stop h1⟩
  | go s' =>
    obtain ⟨h3, h4⟩ := h2 s' rfl
    obtain ⟨_, _, _, _, _, r⟩ := run_ex hp s' h3
    exact ⟨_, _, _, _, _, .more h1 r⟩
termination_by ((fuel - s.steps).toNat, s.psi)
decreasing_by
  rcases h4 with h4 | h4
  · rw [h4.1]; exact Prod.Lex.right _ h4.2
  · exact Prod.Lex.left _ _ (by have := h.s1; omega)

/-- What holds at the end. -/
theorem MRun.inv {p : Prog} (hp : PT p) {T : Ty} {fuel : Int} {ch is : List Int} {s s' : MS} {en value width : Int} {wrong : Bool} (h : MRun p fuel ch is s s' en value width wrong) (hi : Inv p T fuel ch is s) :
    Inv p T fuel ch is s' ∧ Mv p fuel ch is s' (.stop s' en value width wrong) := by
  induction h with
  | @stop s s' en value width wrong h =>
    have : s' = s := by cases h <;> rfl
    subst this
    exact ⟨hi, h⟩
  | more h r ih => exact ih (hi.go hp h)

theorem Inv.val {p : Prog} {k : Int} {fuel : Int} {ch is : List Int} {s s' : MS} {en value width : Int} {wrong : Bool} (hk : 1 ≤ k) (hi : Inv p (tyF k) fuel ch is s) (h : Mv p fuel ch is s (.stop s' en value width wrong)) :
    0 ≤ value ∧ value < k ∧ (en ≠ 0 → value = 0) := by
  have hw := hi.wt
  generalize ho : Out.stop s' en value width wrong = o at h
  cases h with
  | done =>
    cases ho
    obtain ⟨t, h1, h2⟩ := hw
    simp only at h1 h2
    generalize hT : tyF k = T at h2
    cases h2
    subst hT
    generalize hk2 : tyF k = T at h1
    cases h1 with
    | num h0 h1 => unfold tyF at hk2; cases hk2; exact ⟨h0, h1, fun h => absurd rfl h⟩
    | int => simp [tyF, tyI] at hk2
    | fn => simp [tyF] at hk2
    | clo => simp [tyF] at hk2
  | more => cases ho; exact ⟨by omega, by omega, fun _ => rfl⟩
  | want => cases ho; exact ⟨by omega, by omega, fun _ => rfl⟩
  | wrong => cases ho; exact ⟨by omega, by omega, fun _ => rfl⟩
  | awant => cases ho; exact ⟨by omega, by omega, fun _ => rfl⟩
  | awrong => cases ho; exact ⟨by omega, by omega, fun _ => rfl⟩
  | full => cases ho; exact ⟨by omega, by omega, fun _ => rfl⟩
  | bmore => cases ho; exact ⟨by omega, by omega, fun _ => rfl⟩
  | _ => cases ho

end Go.Ae

/- The machine: Run, New; source.Run. -/
namespace Go.Ae
open Go.Proofs

theorem Inv.small {p : Prog} {T : Ty} {fuel : Int} {ch is : List Int} {s : MS} (hp : PT p) (hf : fuel ≤ 1048576) (hc : ch.length ≤ 4294967296) (hi : is.length ≤ 4294967296) (h : Inv p T fuel ch is s) : Small p fuel ch is s where
  s0 := h.s0
  s1 := by have := h.s1; omega
  fr := by
    have h1 := pends_len s.fr
    have h2 := h.psi
    have h3 := h.s0
    have h4 := h.s1
    unfold MS.psi at h2
    omega
  ev := h.ev
  ch := hc
  is := hi
  ds := by have := hp.len; omega

theorem run_lp {p : Prog} {T : Ty} {fuel : Int} {ch is : List Int} {s s' : MS} {en value width : Int} {wrong : Bool} (hp : PT p) (hf : fuel ≤ 1048576) (hc : ch.length ≤ 4294967296) (hci : is.length ≤ 4294967296)
    (h : MRun p fuel ch is s s' en value width wrong) (hi : Inv p T fuel ch is s) :
    Lp Tryd.prog 6 2 (loopN Tryd.f16 0) ⟨lookT [(0, .lp 0 0)], objsR p fuel ch is s 0 0 0 false⟩ (.exit 0) ⟨lookT [(0, .lp 0 0)], objsR p fuel ch is s' en value width wrong⟩ := by
  induction h with
  | @stop s s' en value width wrong h =>
    have hm := move_stop h (hi.small hp hf hc hci)
    obtain ⟨es, ds, mk, mn, mv, ⟨mtk, mtv, mtl⟩, ml⟩ := p
    obtain ⟨st, ev, fr, e, env, ⟨wn, wf, wl, we⟩, us, ui⟩ := s
    obtain ⟨st2, ev2, fr2, e2, env2, ⟨vn, vf, vl, ve⟩, us2, ui2⟩ := s'
    exact round_stop fuel es ds mk mn mv mtk mtv mtl ml ch is (ui) st _ _ e env wn wf wl we us st2 _ _ e2 env2 vn vf vl ve us2 ch is (ui2) en value width wrong hm
  | @more s s1 s' en value width wrong h r ih =>
    have hm := move_go h (hi.small hp hf hc hci)
    have ih := ih (hi.go hp h)
    obtain ⟨es, ds, mk, mn, mv, ⟨mtk, mtv, mtl⟩, ml⟩ := p
    obtain ⟨st, ev, fr, e, env, ⟨wn, wf, wl, we⟩, us, ui⟩ := s
    obtain ⟨st2, ev2, fr2, e2, env2, ⟨vn, vf, vl, ve⟩, us2, ui2⟩ := s1
    rcases hm with hm | hm | hm
    · exact round_go0 fuel es ds mk mn mv mtk mtv mtl ml ch is (ui) st _ _ e env wn wf wl we us st2 _ _ e2 env2 vn vf vl ve us2 ch is (ui2) _ _ hm ih
    · exact round_go1 fuel es ds mk mn mv mtk mtv mtl ml ch is (ui) st _ _ e env wn wf wl we us st2 _ _ e2 env2 vn vf vl ve us2 ch is (ui2) _ _ hm ih
    · exact round_go2 fuel es ds mk mn mv mtk mtv mtl ml ch is (ui) st _ _ e env wn wf wl we us st2 _ _ e2 env2 vn vf vl ve us2 ch is (ui2) _ _ hm ih

section
variable (fuel : Int) (es : List ByteArray) (ds : List Def) (mk mn mv mtk mtv : Int) (mtl : List Ty) (ml : List Expr) (cc ci : List Int) (cu : Int)

/-- A new machine. -/
def Mc0 (fuel : Int) (p : Prog) (l : Nat) : AObj :=
  .cells ([I fuel, B false, I 0, .nil, I 0, I 0, B false] ++ (p.enc ++ ([.ifc 46 (.lp l 0), .nil, .ip p.main.enc 0, .ip [] 0] ++ vZ.enc))) [9, 10, 11, 12, 13, 14, 15]

theorem new_ (used width : Int) :
    SoundCall Tryd.prog 15 [.agg (Prog.enc ⟨es, ds, .mk mk mn mv (.mk mtk mtv mtl) ml⟩), .ifc 46 (.lp 0 0), I fuel] [lists cc ci cu used width]
      (.lp 1 0) [lists cc ci cu used width, Mc0 fuel ⟨es, ds, .mk mk mn mv (.mk mtk mtv mtl) ml⟩ 0] := by
  exact Fn.go KT Tryd.func15 [.reg [] [], .reg [] [], .reg [] [], .reg [] []] [.roO 2 18 9 7] [] (AV.lp 1 0) ([.cells [AV.sl 1 (ints cc) false, AV.sl 1 (ints ci) false, I used, I cu, I width] [], .cells [I fuel, B false, I 0, AV.nil, I 0, I 0, B false, AV.sl 1 (strs es) false, AV.sl 14 (Def.encs ds) false, I mk, I mn, I mv, I mtk, I mtv, AV.sl 3 (Ty.encs mtl) false, AV.sl 7 (Expr.encs ml) false, AV.ifc 46 (AV.lp 0 0), AV.nil, AV.ip [I mk, I mn, I mv, I mtk, I mtv, AV.sl 3 (Ty.encs mtl) false, AV.sl 7 (Expr.encs ml) false] 0, AV.ip [] 0, I 0, I 0, AV.ip [] 0, AV.ip [] 0] [9, 10, 11, 12, 13, 14, 15]]) (by kernel_rfl) ob0

theorem run0 (st2 : Int) (E2 : List (List AV)) (R2 : List (List AV)) (e2 : Option Expr) (env2 : List Vl) (vn vf : Int) (vl : Option Expr) (ve : List Vl) (us2 : Int) (cc2 ci2 : List Int) (cu2 : Int) (en value width : Int) (wrong : Bool)
    (lp : Lp Tryd.prog 6 2 (loopN Tryd.f16 0)
      ⟨lookT [(0, .lp 0 0)], [McR fuel ⟨es, ds, .mk mk mn mv (.mk mtk mtv mtl) ml⟩ 0 0 0 false (some (.mk mk mn mv (.mk mtk mtv mtl) ml)) [] vZ, lists cc ci cu 0 0, .arr 1 1 [], .arr 1 7 []]⟩ (.exit 0)
      ⟨lookT [(0, .lp 0 0)], [McR fuel ⟨es, ds, .mk mk mn mv (.mk mtk mtv mtl) ml⟩ st2 en value wrong e2 env2 (.mk vn vf vl ve), lists cc2 ci2 cu2 us2 width, .arr 1 1 E2, .arr 1 7 R2]⟩) :
    SoundCall Tryd.prog 16 [.lp 0 0] [Mc0 fuel ⟨es, ds, .mk mk mn mv (.mk mtk mtv mtl) ml⟩ 1, lists cc ci cu 0 0]
      (.lp 0 0) [McR fuel ⟨es, ds, .mk mk mn mv (.mk mtk mtv mtl) ml⟩ st2 en value wrong e2 env2 (.mk vn vf vl ve), lists cc2 ci2 cu2 us2 width, .arr 1 1 E2, .arr 1 7 R2] := by
  exact Fn.go KT Tryd.func16 [.reg [] [], .loop [.accO 0 3 1, .accO 0 17 7, .keep [(0, [])]] (.exit 0)
    ⟨lookT [(0, .lp 0 0)], [McR fuel ⟨es, ds, .mk mk mn mv (.mk mtk mtv mtl) ml⟩ st2 en value wrong e2 env2 (.mk vn vf vl ve), lists cc2 ci2 cu2 us2 width, .arr 1 1 E2, .arr 1 7 R2]⟩, .reg [] []] [] []
    (.lp 0 0) ([McR fuel ⟨es, ds, .mk mk mn mv (.mk mtk mtv mtl) ml⟩ st2 en value wrong e2 env2 (.mk vn vf vl ve), lists cc2 ci2 cu2 us2 width, .arr 1 1 E2, .arr 1 7 R2]) (by kernel_rfl) (ob1 lp ob0)

theorem srun_bad (st2 : Int) (E2 : List (List AV)) (R2 : List (List AV)) (e2 : Option Expr) (env2 : List Vl) (vn vf : Int) (vl : Option Expr) (ve : List Vl) (us2 : Int) (cc2 ci2 : List Int) (cu2 : Int) (en value width : Int)
    (h : SoundCall Tryd.prog 16 [.lp 0 0] [Mc0 fuel ⟨es, ds, .mk mk mn mv (.mk mtk mtv mtl) ml⟩ 1, lists cc ci cu 0 0]
      (.lp 0 0) [McR fuel ⟨es, ds, .mk mk mn mv (.mk mtk mtv mtl) ml⟩ st2 en value true e2 env2 (.mk vn vf vl ve), lists cc2 ci2 cu2 us2 width, .arr 1 1 E2, .arr 1 7 R2]) :
    SoundCall Tryd.prog 11 [.agg (Prog.enc ⟨es, ds, .mk mk mn mv (.mk mtk mtv mtl) ml⟩), .lp 0 0, I fuel] [lists cc ci cu 0 0]
      (.tup [.agg [.sl 1 [] false, I 0, I 0, I 0], B false]) [lists cc2 ci2 cu2 us2 width] := by
  have hn := new_ fuel es ds mk mn mv mtk mtv mtl ml cc ci cu 0 0
  exact Fn.go KT Tryd.func11 [.reg [] [], .reg [] [(4, .call (AV.lp 1 0) [.cells [AV.sl 1 (ints cc) false, AV.sl 1 (ints ci) false, I 0, I cu, I 0] [], .cells [I fuel, B false, I 0, AV.nil, I 0, I 0, B false, AV.sl 1 (strs es) false, AV.sl 14 (Def.encs ds) false, I mk, I mn, I mv, I mtk, I mtv, AV.sl 3 (Ty.encs mtl) false, AV.sl 7 (Expr.encs ml) false, AV.ifc 46 (AV.lp 0 0), AV.nil, AV.ip [I mk, I mn, I mv, I mtk, I mtv, AV.sl 3 (Ty.encs mtl) false, AV.sl 7 (Expr.encs ml) false] 0, AV.ip [] 0, I 0, I 0, AV.ip [] 0, AV.ip [] 0] [9, 10, 11, 12, 13, 14, 15]]), (5, .call (AV.lp 0 0) [.cells [I fuel, B false, I st2, AV.la 2 1, I en, I value, B true, AV.sl 1 (strs es) false, AV.sl 14 (Def.encs ds) false, I mk, I mn, I mv, I mtk, I mtv, AV.sl 3 (Ty.encs mtl) false, AV.sl 7 (Expr.encs ml) false, AV.ifc 46 (AV.lp 1 0), AV.la 3 1, AV.ip (lamC e2) 0, AV.ip (envC env2) 0, I vn, I vf, AV.ip (lamC vl) 0, AV.ip (envC ve) 0] [9, 10, 11, 12, 13, 14, 15], .cells [AV.sl 1 (ints cc2) false, AV.sl 1 (ints ci2) false, I us2, I cu2, I width] [], .arr 1 1 E2, .arr 1 7 R2])], .reg [] [], .reg [] []] [.tidO 2 [some 1, none, none, none]] [] (AV.tup [AV.agg [AV.sl 1 [] false, I 0, I 0, I 0], B false]) ([.cells [AV.sl 1 (ints cc2) false, AV.sl 1 (ints ci2) false, I us2, I cu2, I width] []]) (by kernel_rfl) (ob1 (hn) (ob1 (h) ob0))

theorem srun_ok (st2 : Int) (ev : List Int) (R2 : List (List AV)) (e2 : Option Expr) (env2 : List Vl) (vn vf : Int) (vl : Option Expr) (ve : List Vl) (us2 : Int) (cc2 ci2 : List Int) (cu2 : Int) (en value width : Int)
    (h : SoundCall Tryd.prog 16 [.lp 0 0] [Mc0 fuel ⟨es, ds, .mk mk mn mv (.mk mtk mtv mtl) ml⟩ 1, lists cc ci cu 0 0]
      (.lp 0 0) [McR fuel ⟨es, ds, .mk mk mn mv (.mk mtk mtv mtl) ml⟩ st2 en value false e2 env2 (.mk vn vf vl ve), lists cc2 ci2 cu2 us2 width, .arr 1 1 (ints ev), .arr 1 7 R2]) :
    SoundCall Tryd.prog 11 [.agg (Prog.enc ⟨es, ds, .mk mk mn mv (.mk mtk mtv mtl) ml⟩), .lp 0 0, I fuel] [lists cc ci cu 0 0]
      (.tup [.agg [.sl 1 (ints ev) false, I us2, I en, I value], B true]) [lists cc2 ci2 cu2 us2 width] := by
  have hn := new_ fuel es ds mk mn mv mtk mtv mtl ml cc ci cu 0 0
  exact Fn.go KT Tryd.func11 [.reg [] [], .reg [] [(4, .call (AV.lp 1 0) [.cells [AV.sl 1 (ints cc) false, AV.sl 1 (ints ci) false, I 0, I cu, I 0] [], .cells [I fuel, B false, I 0, AV.nil, I 0, I 0, B false, AV.sl 1 (strs es) false, AV.sl 14 (Def.encs ds) false, I mk, I mn, I mv, I mtk, I mtv, AV.sl 3 (Ty.encs mtl) false, AV.sl 7 (Expr.encs ml) false, AV.ifc 46 (AV.lp 0 0), AV.nil, AV.ip [I mk, I mn, I mv, I mtk, I mtv, AV.sl 3 (Ty.encs mtl) false, AV.sl 7 (Expr.encs ml) false] 0, AV.ip [] 0, I 0, I 0, AV.ip [] 0, AV.ip [] 0] [9, 10, 11, 12, 13, 14, 15]]), (5, .call (AV.lp 0 0) [.cells [I fuel, B false, I st2, AV.la 2 1, I en, I value, B false, AV.sl 1 (strs es) false, AV.sl 14 (Def.encs ds) false, I mk, I mn, I mv, I mtk, I mtv, AV.sl 3 (Ty.encs mtl) false, AV.sl 7 (Expr.encs ml) false, AV.ifc 46 (AV.lp 1 0), AV.la 3 1, AV.ip (lamC e2) 0, AV.ip (envC env2) 0, I vn, I vf, AV.ip (lamC vl) 0, AV.ip (envC ve) 0] [9, 10, 11, 12, 13, 14, 15], .cells [AV.sl 1 (ints cc2) false, AV.sl 1 (ints ci2) false, I us2, I cu2, I width] [], .arr 1 1 (ints ev), .arr 1 7 R2])], .reg [] [], .reg [] []] [.frz 4] [] (AV.tup [AV.agg [AV.sl 1 (ints ev) false, I us2, I en, I value], B true]) ([.cells [AV.sl 1 (ints cc2) false, AV.sl 1 (ints ci2) false, I us2, I cu2, I width] []]) (by kernel_rfl) (ob1 (hn) (ob1 (h) ob0))

end
end Go.Ae

/- source.Lang.Check. -/
namespace Go.Ae
open Go.Proofs

/-- A set of names. -/
def SetM (m : List (ByteArray × AV)) : Prop := ∀ s, findM s m = none ∨ findM s m = some (B true)

theorem SetM.nil : SetM [] := fun s => .inl rfl
theorem findM_append (s : ByteArray) : ∀ (m r : List (ByteArray × AV)), findM s (m ++ r) = (findM s m).or (findM s r)
  | [], r => by simp [findM]
  | (k, a) :: m, r => by
    simp only [List.cons_append, findM]
    split
    · rfl
    · exact findM_append s m r
theorem SetM.add {m : List (ByteArray × AV)} (h : SetM m) (s : ByteArray) : SetM (m ++ [(s, B true)]) := fun t => by
  rw [findM_append]
  rcases h t with h | h
  · rw [h]
    simp only [Option.none_or, findM]
    split
    · exact .inr rfl
    · exact .inl rfl
  · rw [h]; exact .inr rfl

theorem Lp.eqs {P : Program} {N m : Nat} {c : Code} {s s' s2 : ASt} {e e2 : Exit} (h : Lp P N m c s e s') (he : e = e2) (hs : s' = s2) : Lp P N m c s e2 s2 := by
  subst he; subst hs; exact h

section
variable (es : List ByteArray) (ds : List Def) (mk mn mv mtk mtv : Int) (mtl : List Ty) (ml : List Expr)

theorem check_loop0 (hn : es.length ≤ 16) (left : Int) : ∀ (us : List ByteArray) (i : Nat) (m : List (ByteArray × AV)), es.drop i = us → (∀ s ∈ us, s.size ≤ 281474976710656) → SetM m →
    (∃ m', SetM m' ∧ Lp Tryd.prog 136 0 (loopN Tryd.f14 0)
      ⟨lookT [(2, .lp 0 0), (3, .lp 1 0), (5, .lp 2 0), (6, .mp 3), (35, .sl 1 (strs es) false), (36, I (es.length : Int)), (37, I (i : Int))], [.cells [B true] [], .cells (Prog.enc ⟨es, ds, .mk mk mn mv (.mk mtk mtv mtl) ml⟩) [], .cells [I left] [], .map m]⟩
      (.exit 0) ⟨lookT [(2, .lp 0 0), (3, .lp 1 0), (5, .lp 2 0), (6, .mp 3)], [.cells [B true] [], .cells (Prog.enc ⟨es, ds, .mk mk mn mv (.mk mtk mtv mtl) ml⟩) [], .cells [I left] [], .map m']⟩) ∨
    Lp Tryd.prog 136 0 (loopN Tryd.f14 0)
      ⟨lookT [(2, .lp 0 0), (3, .lp 1 0), (5, .lp 2 0), (6, .mp 3), (35, .sl 1 (strs es) false), (36, I (es.length : Int)), (37, I (i : Int))], [.cells [B true] [], .cells (Prog.enc ⟨es, ds, .mk mk mn mv (.mk mtk mtv mtl) ml⟩) [], .cells [I left] [], .map m]⟩
      .ret ⟨lookT [(4, B false)], []⟩
  | [], i, m, hd, hs, hm => by
    have hi := drop_end hd
    refine .inl ⟨m, hm, ?_⟩
    clear hs hm hd
    exact Lp.last KT [.reg [] [(0, .bit false)]] [.keep [(2, []), (3, []), (5, []), (6, [])]] (by kernel_rfl) (q (decide ((↑i : Int) < (↑(List.length es) : Int)) = false) ob0) (by intro h; cases h)
  | s :: us, i, m, hd, hs, hm => by
    have hi := drop_lt hd
    have hx : (strs es)[i]? = some [S s] := by rw [strs_get, drop_get hd]; rfl
    have hc := isName_ s (hs s (by simp))
    have ih := check_loop0 hn left us (i + 1) (m ++ [(s, B true)]) (drop_next hd) (fun x hx => hs x (by simp [hx])) (hm.add s)
    have hf := hm s
    clear hs hm hd
    simp only [Int.natCast_add] at ih
    generalize nameC s.data.toList = b at hc
    cases b with
    | false =>
      clear ih hf
      refine .inr ?_
      exact Lp.last KT [.reg [] [(0, .bit true)], .reg [] [(0, .row i [S s])], .reg [] [(1, .call (B false) [])], .reg [] []] [.keep [(4, [])]] (by kernel_rfl) (q (decide ((↑i : Int) < (↑(List.length es) : Int)) = true) (q ((↑i : Int) = (↑i : Int)) (q ((strs es)[i]? = some [S s]) (ob1 (hc) ob0)))) (by intro h; cases h)
    | true =>
      rcases hf with hf | hf
      · rcases ih with ⟨m', hm', ih⟩ | ih
        · refine .inl ⟨m', hm', ?_⟩
          clear hm'
          exact Lp.next KT [.reg [] [(0, .bit true)], .reg [] [(0, .row i [S s])], .reg [] [(1, .call (B true) []), (6, .look none)], .reg [] [(2, .look none)], .reg [] [(0, .int ((↑i : Int) + 1))]] [.keep [(2, []), (3, []), (5, []), (6, []), (35, []), (36, []), (37, [])]] (by kernel_rfl) (q (decide ((↑i : Int) < (↑(List.length es) : Int)) = true) (q ((↑i : Int) = (↑i : Int)) (q ((strs es)[i]? = some [S s]) (ob1 (hc) (q (findM s m = none) (q (findM s m = none) (qw ((↑i : Int) + 1) ob0))))))) (ih)
        · refine .inr ?_
          exact Lp.next KT [.reg [] [(0, .bit true)], .reg [] [(0, .row i [S s])], .reg [] [(1, .call (B true) []), (6, .look none)], .reg [] [(2, .look none)], .reg [] [(0, .int ((↑i : Int) + 1))]] [.keep [(2, []), (3, []), (5, []), (6, []), (35, []), (36, []), (37, [])]] (by kernel_rfl) (q (decide ((↑i : Int) < (↑(List.length es) : Int)) = true) (q ((↑i : Int) = (↑i : Int)) (q ((strs es)[i]? = some [S s]) (ob1 (hc) (q (findM s m = none) (q (findM s m = none) (qw ((↑i : Int) + 1) ob0))))))) (ih)
      · clear ih
        refine .inr ?_
        exact Lp.last KT [.reg [] [(0, .bit true)], .reg [] [(0, .row i [S s])], .reg [] [(1, .call (B true) []), (6, .look (some (B true)))], .reg [] []] [.keep [(4, [])]] (by kernel_rfl) (q (decide ((↑i : Int) < (↑(List.length es) : Int)) = true) (q ((↑i : Int) = (↑i : Int)) (q ((strs es)[i]? = some [S s]) (ob1 (hc) (q (findM s m = some (B true)) ob0))))) (by intro h; cases h)

theorem check_loop1 (hn : ds.length ≤ 16) : ∀ (us : List Def) (i : Nat) (left : Int) (m : List (ByteArray × AV)), ds.drop i = us → (∀ d ∈ us, d.ok) → 0 ≤ left → left ≤ 400 → SetM m →
    ((∀ d ∈ us, d.param.V ∧ d.result.V ∧ ∃ n, 0 ≤ n ∧ n ≤ 400 ∧ (szC d.body 30 n).1 = true) ∧ Lp Tryd.prog 136 0 (loopN Tryd.f14 1)
      ⟨lookT [(2, .lp 0 0), (3, .lp 1 0), (5, .lp 2 0), (6, .mp 3), (54, .sl 14 (Def.encs ds) false), (55, I (ds.length : Int)), (56, I (i : Int))], [.cells [B true] [], .cells (Prog.enc ⟨es, ds, .mk mk mn mv (.mk mtk mtv mtl) ml⟩) [], .cells [I left] [], .map m]⟩
      (.exit 2) ⟨lookT [(2, .lp 0 0), (3, .lp 1 0)], [.cells [B true] [], .cells (Prog.enc ⟨es, ds, .mk mk mn mv (.mk mtk mtv mtl) ml⟩) []]⟩) ∨
    Lp Tryd.prog 136 0 (loopN Tryd.f14 1)
      ⟨lookT [(2, .lp 0 0), (3, .lp 1 0), (5, .lp 2 0), (6, .mp 3), (54, .sl 14 (Def.encs ds) false), (55, I (ds.length : Int)), (56, I (i : Int))], [.cells [B true] [], .cells (Prog.enc ⟨es, ds, .mk mk mn mv (.mk mtk mtv mtl) ml⟩) [], .cells [I left] [], .map m]⟩
      .ret ⟨lookT [(4, B false)], []⟩
  | [], i, left, m, hd, hs, h0, h1, hm => by
    have hi := drop_end hd
    refine .inl ⟨by simp, ?_⟩
    clear hs hm hd
    exact Lp.last KT [.reg [] [(0, .bit false)]] [.keep [(2, []), (3, [])]] (by kernel_rfl) (q (decide ((↑i : Int) < (↑(List.length ds) : Int)) = false) ob0) (by intro h; cases h)
  | d :: us, i, left, m, hd, hs, h0, h1, hm => by
    obtain ⟨nm, ⟨pk, pv, pl⟩, ⟨rk, rv, rl⟩, ⟨bk, bn, bv, ⟨btk, btv, btl⟩, bl⟩⟩ := d
    have hi := drop_lt hd
    have hx : (Def.encs ds)[i]? = some (Def.mk nm (.mk pk pv pl) (.mk rk rv rl) (.mk bk bn bv (.mk btk btv btl) bl)).enc := by rw [Def.encs_get, drop_get hd]; rfl
    have hok := hs _ (List.mem_cons_self ..)
    have hc := isName_ nm hok.1
    have ht1 := isTy_ (.mk pk pv pl) hok.2.1
    have ht2 := isTy_ (.mk rk rv rl) hok.2.2.1
    have hz := size_ (.mk bk bn bv (.mk btk btv btl) bl) 30 left hok.2.2.2 (by omega) (by omega) h0 (by omega)
    have hzb := szC_bound (.mk bk bn bv (.mk btk btv btl) bl) 30 left h0
    have hV : ∀ t : Ty, t.V ↔ (tyC t 20).1 = true := fun t => Iff.rfl
    have hf := hm nm
    have ih := fun h2 => check_loop1 hn us (i + 1) (szC (.mk bk bn bv (.mk btk btv btl) bl) 30 left).2 (m ++ [(nm, B true)]) (drop_next hd) (fun x hx => hs x (by simp [hx])) (hzb.2.2 h2) (by omega) (hm.add nm)
    clear hs hm hd hok
    simp only [Int.natCast_add] at ih
    generalize nameC nm.data.toList = b at hc
    have hv1 := hV (.mk pk pv pl)
    have hv2 := hV (.mk rk rv rl)
    clear hV
    generalize (tyC (.mk pk pv pl) 20).1 = b1 at ht1 hv1
    generalize (tyC (.mk rk rv rl) 20).1 = b2 at ht2 hv2
    cases b with
    | false =>
      clear ih hf hv1 hv2 hzb
      refine .inr ?_
      exact Lp.last KT [.reg [] [(0, .bit true)], .reg [] [(0, .row i (Def.enc { name := nm, param := Ty.mk pk pv pl, result := Ty.mk rk rv rl, body := Expr.mk bk bn bv (Ty.mk btk btv btl) bl }))], .reg [] [(2, .call (B false) [])], .reg [] []] [.keep [(4, [])]] (by kernel_rfl) (q (decide ((↑i : Int) < (↑(List.length ds) : Int)) = true) (q ((↑i : Int) = (↑i : Int)) (q ((Def.encs ds)[i]? = some (Def.enc { name := nm, param := Ty.mk pk pv pl, result := Ty.mk rk rv rl, body := Expr.mk bk bn bv (Ty.mk btk btv btl) bl })) (ob1 (hc) ob0)))) (by intro h; cases h)
    | true =>
      rcases hf with hf | hf
      · cases b1 with
        | false =>
          clear ih hv1 hv2 hzb
          refine .inr ?_
          exact Lp.last KT [.reg [] [(0, .bit true)], .reg [] [(0, .row i (Def.enc { name := nm, param := Ty.mk pk pv pl, result := Ty.mk rk rv rl, body := Expr.mk bk bn bv (Ty.mk btk btv btl) bl }))], .reg [] [(2, .call (B true) []), (8, .look none), (14, .call (B false) [])], .reg [] []] [.keep [(4, [])]] (by kernel_rfl) (q (decide ((↑i : Int) < (↑(List.length ds) : Int)) = true) (q ((↑i : Int) = (↑i : Int)) (q ((Def.encs ds)[i]? = some (Def.enc { name := nm, param := Ty.mk pk pv pl, result := Ty.mk rk rv rl, body := Expr.mk bk bn bv (Ty.mk btk btv btl) bl })) (ob1 (hc) (q (findM (Def.name { name := nm, param := Ty.mk pk pv pl, result := Ty.mk rk rv rl, body := Expr.mk bk bn bv (Ty.mk btk btv btl) bl }) m = none) (ob1 (ht1) ob0)))))) (by intro h; cases h)
        | true =>
          cases b2 with
          | false =>
            clear ih hv1 hv2 hzb
            refine .inr ?_
            exact Lp.last KT [.reg [] [(0, .bit true)], .reg [] [(0, .row i (Def.enc { name := nm, param := Ty.mk pk pv pl, result := Ty.mk rk rv rl, body := Expr.mk bk bn bv (Ty.mk btk btv btl) bl }))], .reg [] [(2, .call (B true) []), (8, .look none), (14, .call (B true) []), (21, .call (B false) [])], .reg [] []] [.keep [(4, [])]] (by kernel_rfl) (q (decide ((↑i : Int) < (↑(List.length ds) : Int)) = true) (q ((↑i : Int) = (↑i : Int)) (q ((Def.encs ds)[i]? = some (Def.enc { name := nm, param := Ty.mk pk pv pl, result := Ty.mk rk rv rl, body := Expr.mk bk bn bv (Ty.mk btk btv btl) bl })) (ob1 (hc) (q (findM (Def.name { name := nm, param := Ty.mk pk pv pl, result := Ty.mk rk rv rl, body := Expr.mk bk bn bv (Ty.mk btk btv btl) bl }) m = none) (ob1 (ht1) (ob1 (ht2) ob0))))))) (by intro h; cases h)
          | true =>
            generalize hzz : szC (.mk bk bn bv (.mk btk btv btl) bl) 30 left = Z at hz ih hzb
            obtain ⟨zb, zn⟩ := Z
            cases zb with
            | false =>
              clear ih hv1 hv2 hzb hzz
              refine .inr ?_
              exact Lp.last KT [.reg [] [(0, .bit true)], .reg [] [(0, .row i (Def.enc { name := nm, param := Ty.mk pk pv pl, result := Ty.mk rk rv rl, body := Expr.mk bk bn bv (Ty.mk btk btv btl) bl }))], .reg [] [(2, .call (B true) []), (8, .look none), (14, .call (B true) []), (21, .call (B true) []), (27, .call (B false) [.cells [I (Prod.snd (false, zn))] []])], .reg [] []] [.keep [(4, [])]] (by kernel_rfl) (q (decide ((↑i : Int) < (↑(List.length ds) : Int)) = true) (q ((↑i : Int) = (↑i : Int)) (q ((Def.encs ds)[i]? = some (Def.enc { name := nm, param := Ty.mk pk pv pl, result := Ty.mk rk rv rl, body := Expr.mk bk bn bv (Ty.mk btk btv btl) bl })) (ob1 (hc) (q (findM (Def.name { name := nm, param := Ty.mk pk pv pl, result := Ty.mk rk rv rl, body := Expr.mk bk bn bv (Ty.mk btk btv btl) bl }) m = none) (ob1 (ht1) (ob1 (ht2) (ob1 (hz) ob0)))))))) (by intro h; cases h)
            | true =>
              rcases ih rfl with ⟨hq, ih⟩ | ih
              · refine .inl ⟨fun d hd => ?_, ?_⟩
                · rcases List.mem_cons.1 hd with rfl | hd
                  · exact ⟨hv1.2 rfl, hv2.2 rfl, left, h0, h1, by rw [hzz]⟩
                  · exact hq d hd
                · clear hq hv1 hv2 hzb hzz
                  exact Lp.next KT [.reg [] [(0, .bit true)], .reg [] [(0, .row i (Def.enc { name := nm, param := Ty.mk pk pv pl, result := Ty.mk rk rv rl, body := Expr.mk bk bn bv (Ty.mk btk btv btl) bl }))], .reg [] [(2, .call (B true) []), (8, .look none), (14, .call (B true) []), (21, .call (B true) []), (27, .call (B true) [.cells [I (Prod.snd (true, zn))] []])], .reg [] [(3, .look none)], .reg [] [(0, .int ((↑i : Int) + 1))]] [.keep [(2, []), (3, []), (5, []), (6, []), (54, []), (55, []), (56, [])]] (by kernel_rfl) (q (decide ((↑i : Int) < (↑(List.length ds) : Int)) = true) (q ((↑i : Int) = (↑i : Int)) (q ((Def.encs ds)[i]? = some (Def.enc { name := nm, param := Ty.mk pk pv pl, result := Ty.mk rk rv rl, body := Expr.mk bk bn bv (Ty.mk btk btv btl) bl })) (ob1 (hc) (q (findM (Def.name { name := nm, param := Ty.mk pk pv pl, result := Ty.mk rk rv rl, body := Expr.mk bk bn bv (Ty.mk btk btv btl) bl }) m = none) (ob1 (ht1) (ob1 (ht2) (ob1 (hz) (q (findM (Def.name { name := nm, param := Ty.mk pk pv pl, result := Ty.mk rk rv rl, body := Expr.mk bk bn bv (Ty.mk btk btv btl) bl }) m = none) (qw ((↑i : Int) + 1) ob0)))))))))) (ih)
              · refine .inr ?_
                clear hv1 hv2 hzb hzz
                exact Lp.next KT [.reg [] [(0, .bit true)], .reg [] [(0, .row i (Def.enc { name := nm, param := Ty.mk pk pv pl, result := Ty.mk rk rv rl, body := Expr.mk bk bn bv (Ty.mk btk btv btl) bl }))], .reg [] [(2, .call (B true) []), (8, .look none), (14, .call (B true) []), (21, .call (B true) []), (27, .call (B true) [.cells [I (Prod.snd (true, zn))] []])], .reg [] [(3, .look none)], .reg [] [(0, .int ((↑i : Int) + 1))]] [.keep [(2, []), (3, []), (5, []), (6, []), (54, []), (55, []), (56, [])]] (by kernel_rfl) (q (decide ((↑i : Int) < (↑(List.length ds) : Int)) = true) (q ((↑i : Int) = (↑i : Int)) (q ((Def.encs ds)[i]? = some (Def.enc { name := nm, param := Ty.mk pk pv pl, result := Ty.mk rk rv rl, body := Expr.mk bk bn bv (Ty.mk btk btv btl) bl })) (ob1 (hc) (q (findM (Def.name { name := nm, param := Ty.mk pk pv pl, result := Ty.mk rk rv rl, body := Expr.mk bk bn bv (Ty.mk btk btv btl) bl }) m = none) (ob1 (ht1) (ob1 (ht2) (ob1 (hz) (q (findM (Def.name { name := nm, param := Ty.mk pk pv pl, result := Ty.mk rk rv rl, body := Expr.mk bk bn bv (Ty.mk btk btv btl) bl }) m = none) (qw ((↑i : Int) + 1) ob0)))))))))) (ih)
      · clear ih hv1 hv2 hzb
        refine .inr ?_
        exact Lp.last KT [.reg [] [(0, .bit true)], .reg [] [(0, .row i (Def.enc { name := nm, param := Ty.mk pk pv pl, result := Ty.mk rk rv rl, body := Expr.mk bk bn bv (Ty.mk btk btv btl) bl }))], .reg [] [(2, .call (B true) []), (8, .look (some (B true)))], .reg [] []] [.keep [(4, [])]] (by kernel_rfl) (q (decide ((↑i : Int) < (↑(List.length ds) : Int)) = true) (q ((↑i : Int) = (↑i : Int)) (q ((Def.encs ds)[i]? = some (Def.enc { name := nm, param := Ty.mk pk pv pl, result := Ty.mk rk rv rl, body := Expr.mk bk bn bv (Ty.mk btk btv btl) bl })) (ob1 (hc) (q (findM (Def.name { name := nm, param := Ty.mk pk pv pl, result := Ty.mk rk rv rl, body := Expr.mk bk bn bv (Ty.mk btk btv btl) bl }) m = some (B true)) ob0))))) (by intro h; cases h)

theorem check_loop2 (hn : ds.length ≤ 16) (hd0 : ∀ d ∈ ds, d.ok) : ∀ (us : List Def) (i : Nat), ds.drop i = us → (∀ d ∈ us, TypeOk ⟨es, ds, .mk mk mn mv (.mk mtk mtv mtl) ml⟩ d.body [d.param] ∧ (tImp ⟨es, ds, .mk mk mn mv (.mk mtk mtv mtl) ml⟩ d.body [d.param]).1.ok) →
    ((∀ d ∈ us, tImp ⟨es, ds, .mk mk mn mv (.mk mtk mtv mtl) ml⟩ d.body [d.param] = (d.result, true)) ∧ Lp Tryd.prog 136 0 (loopN Tryd.f14 2)
      ⟨lookT [(2, .lp 0 0), (3, .lp 1 0), (95, .sl 14 (Def.encs ds) false), (96, I (ds.length : Int)), (97, I (i : Int))], [.cells [B true] [], .cells (Prog.enc ⟨es, ds, .mk mk mn mv (.mk mtk mtv mtl) ml⟩) []]⟩
      (.exit 4) ⟨lookT [(2, .lp 0 0), (3, .lp 1 0)], [.cells [B true] [], .cells (Prog.enc ⟨es, ds, .mk mk mn mv (.mk mtk mtv mtl) ml⟩) []]⟩) ∨
    Lp Tryd.prog 136 0 (loopN Tryd.f14 2)
      ⟨lookT [(2, .lp 0 0), (3, .lp 1 0), (95, .sl 14 (Def.encs ds) false), (96, I (ds.length : Int)), (97, I (i : Int))], [.cells [B true] [], .cells (Prog.enc ⟨es, ds, .mk mk mn mv (.mk mtk mtv mtl) ml⟩) []]⟩
      .ret ⟨lookT [(4, B false)], []⟩
  | [], i, hd, hs => by
    have hi := drop_end hd
    refine .inl ⟨by simp, ?_⟩
    clear hs hd0 hd
    exact Lp.last KT [.reg [] [(0, .bit false)]] [.keep [(2, []), (3, [])]] (by kernel_rfl) (q (decide ((↑i : Int) < (↑(List.length ds) : Int)) = false) ob0) (by intro h; cases h)
  | d :: us, i, hd, hs => by
    obtain ⟨nm, ⟨pk, pv, pl⟩, ⟨rk, rv, rl⟩, ⟨bk, bn, bv, ⟨btk, btv, btl⟩, bl⟩⟩ := d
    have hi := drop_lt hd
    have hx : (Def.encs ds)[i]? = some (Def.mk nm (.mk pk pv pl) (.mk rk rv rl) (.mk bk bn bv (.mk btk btv btl) bl)).enc := by rw [Def.encs_get, drop_get hd]; rfl
    obtain ⟨ht, ho⟩ := hs _ (List.mem_cons_self ..)
    have ih := check_loop2 hn hd0 us (i + 1) (drop_next hd) (fun x hx => hs x (by simp [hx]))
    clear hs hd hd0
    simp only [Int.natCast_add] at ih
    unfold TypeOk at ht
    simp only at ht ho
    generalize hT : tImp ⟨es, ds, .mk mk mn mv (.mk mtk mtv mtl) ml⟩ (.mk bk bn bv (.mk btk btv btl) bl) [.mk pk pv pl] = T at ht ho
    obtain ⟨⟨tk, tv, tl⟩, tb⟩ := T
    have he := eqTy_0 (.mk tk tv tl) (.mk rk rv rl) ho
    clear ho
    cases tb with
    | false =>
      clear ih hT
      refine .inr ?_
      exact Lp.last KT [.reg [] [(0, .bit true)], .reg [] [(0, .row i (Def.enc { name := nm, param := Ty.mk pk pv pl, result := Ty.mk rk rv rl, body := Expr.mk bk bn bv (Ty.mk btk btv btl) bl }))], .reg [] [(7, .call (AV.tup [AV.agg [I tk, I tv, AV.sl 3 (Ty.encs tl) false], B false]) [])], .reg [] [], .reg [] []] [.keep [(4, [])]] (by kernel_rfl) (q (decide ((↑i : Int) < (↑(List.length ds) : Int)) = true) (q ((↑i : Int) = (↑i : Int)) (q ((Def.encs ds)[i]? = some (Def.enc { name := nm, param := Ty.mk pk pv pl, result := Ty.mk rk rv rl, body := Expr.mk bk bn bv (Ty.mk btk btv btl) bl })) (ob1 (ht) ob0)))) (by intro h; cases h)
    | true =>
      by_cases hq : Ty.mk tk tv tl = Ty.mk rk rv rl
      · rw [decide_eq_true hq] at he
        rcases ih with ⟨h1, ih⟩ | ih
        · refine .inl ⟨fun d hd => ?_, ?_⟩
          · rcases List.mem_cons.1 hd with rfl | hd
            · simp only [hT, hq]
            · exact h1 d hd
          · clear h1 hT hq
            exact Lp.next KT [.reg [] [(0, .bit true)], .reg [] [(0, .row i (Def.enc { name := nm, param := Ty.mk pk pv pl, result := Ty.mk rk rv rl, body := Expr.mk bk bn bv (Ty.mk btk btv btl) bl }))], .reg [] [(7, .call (AV.tup [AV.agg [I tk, I tv, AV.sl 3 (Ty.encs tl) false], B true]) [])], .reg [] [(6, .call (B true) [])], .reg [] [(0, .int ((↑i : Int) + 1))]] [.keep [(2, []), (3, []), (95, []), (96, []), (97, [])]] (by kernel_rfl) (q (decide ((↑i : Int) < (↑(List.length ds) : Int)) = true) (q ((↑i : Int) = (↑i : Int)) (q ((Def.encs ds)[i]? = some (Def.enc { name := nm, param := Ty.mk pk pv pl, result := Ty.mk rk rv rl, body := Expr.mk bk bn bv (Ty.mk btk btv btl) bl })) (ob1 (ht) (ob1 (he) (qw ((↑i : Int) + 1) ob0)))))) (ih)
        · clear hT hq
          refine .inr ?_
          exact Lp.next KT [.reg [] [(0, .bit true)], .reg [] [(0, .row i (Def.enc { name := nm, param := Ty.mk pk pv pl, result := Ty.mk rk rv rl, body := Expr.mk bk bn bv (Ty.mk btk btv btl) bl }))], .reg [] [(7, .call (AV.tup [AV.agg [I tk, I tv, AV.sl 3 (Ty.encs tl) false], B true]) [])], .reg [] [(6, .call (B true) [])], .reg [] [(0, .int ((↑i : Int) + 1))]] [.keep [(2, []), (3, []), (95, []), (96, []), (97, [])]] (by kernel_rfl) (q (decide ((↑i : Int) < (↑(List.length ds) : Int)) = true) (q ((↑i : Int) = (↑i : Int)) (q ((Def.encs ds)[i]? = some (Def.enc { name := nm, param := Ty.mk pk pv pl, result := Ty.mk rk rv rl, body := Expr.mk bk bn bv (Ty.mk btk btv btl) bl })) (ob1 (ht) (ob1 (he) (qw ((↑i : Int) + 1) ob0)))))) (ih)
      · rw [decide_eq_false hq] at he
        clear ih hT hq
        refine .inr ?_
        exact Lp.last KT [.reg [] [(0, .bit true)], .reg [] [(0, .row i (Def.enc { name := nm, param := Ty.mk pk pv pl, result := Ty.mk rk rv rl, body := Expr.mk bk bn bv (Ty.mk btk btv btl) bl }))], .reg [] [(7, .call (AV.tup [AV.agg [I tk, I tv, AV.sl 3 (Ty.encs tl) false], B true]) [])], .reg [] [(6, .call (B false) [])], .reg [] []] [.keep [(4, [])]] (by kernel_rfl) (q (decide ((↑i : Int) < (↑(List.length ds) : Int)) = true) (q ((↑i : Int) = (↑i : Int)) (q ((Def.encs ds)[i]? = some (Def.enc { name := nm, param := Ty.mk pk pv pl, result := Ty.mk rk rv rl, body := Expr.mk bk bn bv (Ty.mk btk btv btl) bl })) (ob1 (ht) (ob1 (he) ob0))))) (by intro h; cases h)

end
end Go.Ae

/- source.Lang.Check, whole; lang.Check. -/
namespace Go.Ae
open Go.Proofs

mutual
theorem szC_nodes : ∀ (e : Expr) (d n : Int), (szC e d n).1 = true → (szC e d n).2 = n - e.nodes
  | .mk _ _ _ _ l, d, n, h => by
    simp only [szC] at h ⊢
    split at h
    · simp at h
    · rename_i h1
      rw [if_neg h1]
      split at h
      · simp at h
      · rename_i h2
        rw [if_neg h2]
        have := szCs_nodes l (d - 1) (n - 1) h
        simp only [Expr.nodes]
        omega
theorem szCs_nodes : ∀ (l : List Expr) (d n : Int), (szCs l d n).1 = true → (szCs l d n).2 = n - Expr.nodesL l
  | [], d, n, h => by simp [szCs, Expr.nodesL]
  | t :: l, d, n, h => by
    rw [szCs_cons] at h ⊢
    split at h
    · rename_i h1
      rw [if_pos h1]
      have e1 := szC_nodes t d n h1
      have e2 := szCs_nodes l d _ h
      simp only [Expr.nodesL]
      omega
    · simp at h
end

theorem szC_le {e : Expr} {d n : Int} (h0 : 0 ≤ n) (h : (szC e d n).1 = true) : (e.nodes : Int) ≤ n := by
  have := szC_nodes e d n h
  have := (szC_bound e d n h0).2.2 h
  omega

/-- What Check has made sure of. -/
structure Valid (p : Prog) : Prop where
  ev : p.events.length ≤ 16
  ds : p.defs.length ≤ 16
  pt : PT p
  dok : ∀ d ∈ p.defs, d.ok
  mok : p.main.ok
  msz : (szC p.main 30 400).1 = true
  mty : ∃ k : Int, 1 ≤ k ∧ k ≤ 4 ∧ tImp p p.main [] = (tyF k, true)

theorem check_ (p : Prog) (hok : p.ok) : ∃ b, SoundCall Tryd.prog 14 [.agg [B true], .agg p.enc] [] (B b) [] ∧ (b = true → Valid p) := by
  obtain ⟨es, ds, mk, mn, mv, ⟨mtk, mtv, mtl⟩, ml⟩ := p
  obtain ⟨o1, o2, o3, o4, o5⟩ := hok
  simp only at o1 o2 o3 o4 o5
  by_cases h1 : es.length ≤ 16
  · by_cases h2 : ds.length ≤ 16
    · have hz := size_ (.mk mk mn mv (.mk mtk mtv mtl) ml) 30 400 o5 (by omega) (by omega) (by omega) (by omega)
      have hzb := szC_bound (.mk mk mn mv (.mk mtk mtv mtl) ml) 30 400 (by omega)
      generalize hzz : szC (.mk mk mn mv (.mk mtk mtv mtl) ml) 30 400 = Z at hz hzb
      obtain ⟨zb, zn⟩ := Z
      cases zb with
      | false =>
        refine ⟨false, ?_, fun h => by cases h⟩
        clear hzb hzz o2 o4 o5 o1 o3
        exact Fn.go KT Tryd.func14 [.reg [] [], .reg [] [], .reg [] [(2, .int (↑(List.length es) : Int)), (3, .bit false), (7, .int (↑(List.length ds) : Int)), (8, .bit false), (13, .call (B false) [.cells [I (Prod.snd (false, zn))] []])], .reg [] []] [] [] (B false) ([]) (by kernel_rfl) (q ((↑(List.length (strs es)) : Int) = (↑(List.length es) : Int)) (q (decide (16 < (↑(List.length es) : Int)) = false) (q ((↑(List.length (Def.encs ds)) : Int) = (↑(List.length ds) : Int)) (q (decide (16 < (↑(List.length ds) : Int)) = false) (ob1 (hz) ob0)))))
      | true =>
        have l0 := check_loop0 es ds mk mn mv mtk mtv mtl ml h1 zn es 0 [] rfl o2 .nil
        have l1 := check_loop1 es ds mk mn mv mtk mtv mtl ml h2 ds 0 zn [] rfl o4 (hzb.2.2 rfl) hzb.2.1 .nil
        rcases l0 with ⟨m', hm', l0⟩ | l0
        · clear hm'
          rcases l1 with ⟨hV, l1⟩ | l1
          · have hd : ∀ d ∈ ds, d.ok ∧ d.param.V ∧ d.result.V := fun d hd => ⟨o4 d hd, (hV d hd).1, (hV d hd).2.1⟩
            have hall := type_all es ds mk mn mv mtk mtv mtl ml (by omega) (by omega) hd
            have hT := fun d (hd' : d ∈ ds) => (show TypeOk ⟨es, ds, .mk mk mn mv (.mk mtk mtv mtl) ml⟩ d.body [d.param] from by
              obtain ⟨n, n0, n1, n2⟩ := (hV d hd').2.2
              exact hall d.body [d.param] 30 n (o4 d hd').2.2.2 n2 (by omega) (by omega) (by simp) (fun t ht => by
                simp only [List.mem_singleton] at ht; subst ht; exact ⟨(o4 d hd').2.1, (hV d hd').1⟩))
            have l2 := check_loop2 es ds mk mn mv mtk mtv mtl ml h2 o4 ds 0 rfl (fun d hd' => ⟨hT d hd', tImp_ok _ (fun d h => (hd d h).1) d.body _ (o4 d hd').2.2.2 (fun t ht => by
              simp only [List.mem_singleton] at ht; subst ht; exact (o4 d hd').2.1)⟩)
            have hM : TypeOk ⟨es, ds, .mk mk mn mv (.mk mtk mtv mtl) ml⟩ (.mk mk mn mv (.mk mtk mtv mtl) ml) [] :=
              hall _ [] 30 400 o5 (by rw [hzz]) (by omega) (by omega) (by simp) (by simp)
            have hMV := tImp_V ⟨es, ds, .mk mk mn mv (.mk mtk mtv mtl) ml⟩ (fun d h => (hd d h).2) (.mk mk mn mv (.mk mtk mtv mtl) ml) [] (by simp)
            unfold TypeOk at hM
            rcases l2 with ⟨hB, l2⟩ | l2
            · have hval : ∀ k w l, tImp ⟨es, ds, .mk mk mn mv (.mk mtk mtv mtl) ml⟩ (.mk mk mn mv (.mk mtk mtv mtl) ml) [] = (.mk k w l, true) → k = 0 → Valid ⟨es, ds, .mk mk mn mv (.mk mtk mtv mtl) ml⟩ := fun k w l e hk => by
                rw [e] at hMV
                have hv := V_kd0 (hMV rfl) hk
                refine ⟨h1, h2, ⟨fun d hd' => ⟨hB d hd', ?_, (o4 d hd').2.2.2⟩, fun d hd' => (hd d hd').2, by simp only; omega⟩, o4, o5, by rw [hzz], w, hv.1, hv.2.1, ?_⟩
                · obtain ⟨n, n0, n1, n2⟩ := (hV d hd').2.2
                  have := szC_le n0 n2
                  omega
                · rw [e, hk, hv.2.2]; rfl
              clear hB hMV hT hall hd hV o2 o4 o5 o1 o3 hzz hzb
              generalize tImp ⟨es, ds, .mk mk mn mv (.mk mtk mtv mtl) ml⟩ (.mk mk mn mv (.mk mtk mtv mtl) ml) [] = T at hM hval
              obtain ⟨⟨tk, tv, tl⟩, tb⟩ := T
              cases tb with
              | false =>
                refine ⟨false, ?_, fun h => by cases h⟩
                clear hval
                exact Fn.go KT Tryd.func14 [.reg [] [], .reg [] [], .reg [] [(2, .int (↑(List.length es) : Int)), (3, .bit false), (7, .int (↑(List.length ds) : Int)), (8, .bit false), (13, .call (B true) [.cells [I (Prod.snd (true, zn))] []])], .reg [] [], .reg [] [(2, .int (↑(List.length es) : Int))], .loop [.keep [(2, []), (3, []), (5, []), (6, []), (35, []), (36, []), (37, [])]] (Exit.exit 0) { tm := lookT [(2, AV.lp 0 0), (3, AV.lp 1 0), (5, AV.lp 2 0), (6, AV.mp 3)], st := [.cells [B true] [], .cells (Prog.enc { events := es, defs := ds, main := Expr.mk mk mn mv (Ty.mk mtk mtv mtl) ml }) [], .cells [I zn] [], .map m'] }, .reg [] [], .reg [] [(2, .int (↑(List.length ds) : Int))], .loop [.keep [(2, []), (3, []), (5, []), (6, []), (54, []), (55, []), (56, [])]] (Exit.exit 2) { tm := lookT [(2, AV.lp 0 0), (3, AV.lp 1 0)], st := [.cells [B true] [], .cells (Prog.enc { events := es, defs := ds, main := Expr.mk mk mn mv (Ty.mk mtk mtv mtl) ml }) []] }, .reg [] [(2, .int (↑(List.length ds) : Int))], .loop [.keep [(2, []), (3, []), (95, []), (96, []), (97, [])]] (Exit.exit 4) { tm := lookT [(2, AV.lp 0 0), (3, AV.lp 1 0)], st := [.cells [B true] [], .cells (Prog.enc { events := es, defs := ds, main := Expr.mk mk mn mv (Ty.mk mtk mtv mtl) ml }) []] }, .reg [] [(4, .call (AV.tup [AV.agg [I tk, I tv, AV.sl 3 (Ty.encs tl) false], B false]) [])], .reg [] []] [] [] (B false) ([]) (by kernel_rfl) (q ((↑(List.length (strs es)) : Int) = (↑(List.length es) : Int)) (q (decide (16 < (↑(List.length es) : Int)) = false) (q ((↑(List.length (Def.encs ds)) : Int) = (↑(List.length ds) : Int)) (q (decide (16 < (↑(List.length ds) : Int)) = false) (ob1 (hz) (q ((↑(List.length (strs es)) : Int) = (↑(List.length es) : Int)) (ob1 (l0) (q ((↑(List.length (Def.encs ds)) : Int) = (↑(List.length ds) : Int)) (ob1 (l1) (q ((↑(List.length (Def.encs ds)) : Int) = (↑(List.length ds) : Int)) (ob1 (l2) (ob1 (hM) ob0))))))))))))
              | true =>
                by_cases hk : tk = 0
                · refine ⟨true, ?_, fun _ => hval _ _ _ rfl hk⟩
                  clear hval
                  exact Fn.go KT Tryd.func14 [.reg [] [], .reg [] [], .reg [] [(2, .int (↑(List.length es) : Int)), (3, .bit false), (7, .int (↑(List.length ds) : Int)), (8, .bit false), (13, .call (B true) [.cells [I (Prod.snd (true, zn))] []])], .reg [] [], .reg [] [(2, .int (↑(List.length es) : Int))], .loop [.keep [(2, []), (3, []), (5, []), (6, []), (35, []), (36, []), (37, [])]] (Exit.exit 0) { tm := lookT [(2, AV.lp 0 0), (3, AV.lp 1 0), (5, AV.lp 2 0), (6, AV.mp 3)], st := [.cells [B true] [], .cells (Prog.enc { events := es, defs := ds, main := Expr.mk mk mn mv (Ty.mk mtk mtv mtl) ml }) [], .cells [I zn] [], .map m'] }, .reg [] [], .reg [] [(2, .int (↑(List.length ds) : Int))], .loop [.keep [(2, []), (3, []), (5, []), (6, []), (54, []), (55, []), (56, [])]] (Exit.exit 2) { tm := lookT [(2, AV.lp 0 0), (3, AV.lp 1 0)], st := [.cells [B true] [], .cells (Prog.enc { events := es, defs := ds, main := Expr.mk mk mn mv (Ty.mk mtk mtv mtl) ml }) []] }, .reg [] [(2, .int (↑(List.length ds) : Int))], .loop [.keep [(2, []), (3, []), (95, []), (96, []), (97, [])]] (Exit.exit 4) { tm := lookT [(2, AV.lp 0 0), (3, AV.lp 1 0)], st := [.cells [B true] [], .cells (Prog.enc { events := es, defs := ds, main := Expr.mk mk mn mv (Ty.mk mtk mtv mtl) ml }) []] }, .reg [] [(4, .call (AV.tup [AV.agg [I tk, I tv, AV.sl 3 (Ty.encs tl) false], B true]) [])], .reg [] [(4, .bit true)]] [] [] (B true) ([]) (by kernel_rfl) (q ((↑(List.length (strs es)) : Int) = (↑(List.length es) : Int)) (q (decide (16 < (↑(List.length es) : Int)) = false) (q ((↑(List.length (Def.encs ds)) : Int) = (↑(List.length ds) : Int)) (q (decide (16 < (↑(List.length ds) : Int)) = false) (ob1 (hz) (q ((↑(List.length (strs es)) : Int) = (↑(List.length es) : Int)) (ob1 (l0) (q ((↑(List.length (Def.encs ds)) : Int) = (↑(List.length ds) : Int)) (ob1 (l1) (q ((↑(List.length (Def.encs ds)) : Int) = (↑(List.length ds) : Int)) (ob1 (l2) (ob1 (hM) (q ((tk == 0) = true) ob0)))))))))))))
                · refine ⟨false, ?_, fun h => by cases h⟩
                  clear hval
                  exact Fn.go KT Tryd.func14 [.reg [] [], .reg [] [], .reg [] [(2, .int (↑(List.length es) : Int)), (3, .bit false), (7, .int (↑(List.length ds) : Int)), (8, .bit false), (13, .call (B true) [.cells [I (Prod.snd (true, zn))] []])], .reg [] [], .reg [] [(2, .int (↑(List.length es) : Int))], .loop [.keep [(2, []), (3, []), (5, []), (6, []), (35, []), (36, []), (37, [])]] (Exit.exit 0) { tm := lookT [(2, AV.lp 0 0), (3, AV.lp 1 0), (5, AV.lp 2 0), (6, AV.mp 3)], st := [.cells [B true] [], .cells (Prog.enc { events := es, defs := ds, main := Expr.mk mk mn mv (Ty.mk mtk mtv mtl) ml }) [], .cells [I zn] [], .map m'] }, .reg [] [], .reg [] [(2, .int (↑(List.length ds) : Int))], .loop [.keep [(2, []), (3, []), (5, []), (6, []), (54, []), (55, []), (56, [])]] (Exit.exit 2) { tm := lookT [(2, AV.lp 0 0), (3, AV.lp 1 0)], st := [.cells [B true] [], .cells (Prog.enc { events := es, defs := ds, main := Expr.mk mk mn mv (Ty.mk mtk mtv mtl) ml }) []] }, .reg [] [(2, .int (↑(List.length ds) : Int))], .loop [.keep [(2, []), (3, []), (95, []), (96, []), (97, [])]] (Exit.exit 4) { tm := lookT [(2, AV.lp 0 0), (3, AV.lp 1 0)], st := [.cells [B true] [], .cells (Prog.enc { events := es, defs := ds, main := Expr.mk mk mn mv (Ty.mk mtk mtv mtl) ml }) []] }, .reg [] [(4, .call (AV.tup [AV.agg [I tk, I tv, AV.sl 3 (Ty.encs tl) false], B true]) [])], .reg [] [(4, .bit false)]] [] [] (B false) ([]) (by kernel_rfl) (q ((↑(List.length (strs es)) : Int) = (↑(List.length es) : Int)) (q (decide (16 < (↑(List.length es) : Int)) = false) (q ((↑(List.length (Def.encs ds)) : Int) = (↑(List.length ds) : Int)) (q (decide (16 < (↑(List.length ds) : Int)) = false) (ob1 (hz) (q ((↑(List.length (strs es)) : Int) = (↑(List.length es) : Int)) (ob1 (l0) (q ((↑(List.length (Def.encs ds)) : Int) = (↑(List.length ds) : Int)) (ob1 (l1) (q ((↑(List.length (Def.encs ds)) : Int) = (↑(List.length ds) : Int)) (ob1 (l2) (ob1 (hM) (q ((tk == 0) = false) ob0)))))))))))))
            · refine ⟨false, ?_, fun h => by cases h⟩
              clear hMV hT hall hd hV o2 o4 o5 o1 o3 hzz hzb hM
              exact Fn.go KT Tryd.func14 [.reg [] [], .reg [] [], .reg [] [(2, .int (↑(List.length es) : Int)), (3, .bit false), (7, .int (↑(List.length ds) : Int)), (8, .bit false), (13, .call (B true) [.cells [I (Prod.snd (true, zn))] []])], .reg [] [], .reg [] [(2, .int (↑(List.length es) : Int))], .loop [.keep [(2, []), (3, []), (5, []), (6, []), (35, []), (36, []), (37, [])]] (Exit.exit 0) { tm := lookT [(2, AV.lp 0 0), (3, AV.lp 1 0), (5, AV.lp 2 0), (6, AV.mp 3)], st := [.cells [B true] [], .cells (Prog.enc { events := es, defs := ds, main := Expr.mk mk mn mv (Ty.mk mtk mtv mtl) ml }) [], .cells [I zn] [], .map m'] }, .reg [] [], .reg [] [(2, .int (↑(List.length ds) : Int))], .loop [.keep [(2, []), (3, []), (5, []), (6, []), (54, []), (55, []), (56, [])]] (Exit.exit 2) { tm := lookT [(2, AV.lp 0 0), (3, AV.lp 1 0)], st := [.cells [B true] [], .cells (Prog.enc { events := es, defs := ds, main := Expr.mk mk mn mv (Ty.mk mtk mtv mtl) ml }) []] }, .reg [] [(2, .int (↑(List.length ds) : Int))], .loop [.keep [(2, []), (3, []), (95, []), (96, []), (97, [])]] Exit.ret { tm := lookT [(4, B false)], st := [] }] [] [] (B false) ([]) (by kernel_rfl) (q ((↑(List.length (strs es)) : Int) = (↑(List.length es) : Int)) (q (decide (16 < (↑(List.length es) : Int)) = false) (q ((↑(List.length (Def.encs ds)) : Int) = (↑(List.length ds) : Int)) (q (decide (16 < (↑(List.length ds) : Int)) = false) (ob1 (hz) (q ((↑(List.length (strs es)) : Int) = (↑(List.length es) : Int)) (ob1 (l0) (q ((↑(List.length (Def.encs ds)) : Int) = (↑(List.length ds) : Int)) (ob1 (l1) (q ((↑(List.length (Def.encs ds)) : Int) = (↑(List.length ds) : Int)) (ob1 (l2) ob0)))))))))))
          · refine ⟨false, ?_, fun h => by cases h⟩
            clear o2 o4 o5 o1 o3 hzz hzb
            exact Fn.go KT Tryd.func14 [.reg [] [], .reg [] [], .reg [] [(2, .int (↑(List.length es) : Int)), (3, .bit false), (7, .int (↑(List.length ds) : Int)), (8, .bit false), (13, .call (B true) [.cells [I (Prod.snd (true, zn))] []])], .reg [] [], .reg [] [(2, .int (↑(List.length es) : Int))], .loop [.keep [(2, []), (3, []), (5, []), (6, []), (35, []), (36, []), (37, [])]] (Exit.exit 0) { tm := lookT [(2, AV.lp 0 0), (3, AV.lp 1 0), (5, AV.lp 2 0), (6, AV.mp 3)], st := [.cells [B true] [], .cells (Prog.enc { events := es, defs := ds, main := Expr.mk mk mn mv (Ty.mk mtk mtv mtl) ml }) [], .cells [I zn] [], .map m'] }, .reg [] [], .reg [] [(2, .int (↑(List.length ds) : Int))], .loop [.keep [(2, []), (3, []), (5, []), (6, []), (54, []), (55, []), (56, [])]] Exit.ret { tm := lookT [(4, B false)], st := [] }] [] [] (B false) ([]) (by kernel_rfl) (q ((↑(List.length (strs es)) : Int) = (↑(List.length es) : Int)) (q (decide (16 < (↑(List.length es) : Int)) = false) (q ((↑(List.length (Def.encs ds)) : Int) = (↑(List.length ds) : Int)) (q (decide (16 < (↑(List.length ds) : Int)) = false) (ob1 (hz) (q ((↑(List.length (strs es)) : Int) = (↑(List.length es) : Int)) (ob1 (l0) (q ((↑(List.length (Def.encs ds)) : Int) = (↑(List.length ds) : Int)) (ob1 (l1) ob0)))))))))
        · refine ⟨false, ?_, fun h => by cases h⟩
          clear l1 o2 o4 o5 o1 o3 hzz hzb
          exact Fn.go KT Tryd.func14 [.reg [] [], .reg [] [], .reg [] [(2, .int (↑(List.length es) : Int)), (3, .bit false), (7, .int (↑(List.length ds) : Int)), (8, .bit false), (13, .call (B true) [.cells [I (Prod.snd (true, zn))] []])], .reg [] [], .reg [] [(2, .int (↑(List.length es) : Int))], .loop [.keep [(2, []), (3, []), (5, []), (6, []), (35, []), (36, []), (37, [])]] Exit.ret { tm := lookT [(4, B false)], st := [] }] [] [] (B false) ([]) (by kernel_rfl) (q ((↑(List.length (strs es)) : Int) = (↑(List.length es) : Int)) (q (decide (16 < (↑(List.length es) : Int)) = false) (q ((↑(List.length (Def.encs ds)) : Int) = (↑(List.length ds) : Int)) (q (decide (16 < (↑(List.length ds) : Int)) = false) (ob1 (hz) (q ((↑(List.length (strs es)) : Int) = (↑(List.length es) : Int)) (ob1 (l0) ob0)))))))
    · refine ⟨false, ?_, fun h => by cases h⟩
      clear o2 o4 o5
      exact Fn.go KT Tryd.func14 [.reg [] [], .reg [] [], .reg [] [(2, .int (↑(List.length es) : Int)), (3, .bit false), (7, .int (↑(List.length ds) : Int)), (8, .bit true)], .reg [] []] [] [] (B false) ([]) (by kernel_rfl) (q ((↑(List.length (strs es)) : Int) = (↑(List.length es) : Int)) (q (decide (16 < (↑(List.length es) : Int)) = false) (q ((↑(List.length (Def.encs ds)) : Int) = (↑(List.length ds) : Int)) (q (decide (16 < (↑(List.length ds) : Int)) = true) ob0))))
  · refine ⟨false, ?_, fun h => by cases h⟩
    clear o2 o4 o5
    exact Fn.go KT Tryd.func14 [.reg [] [], .reg [] [], .reg [] [(2, .int (↑(List.length es) : Int)), (3, .bit true)], .reg [] []] [] [] (B false) ([]) (by kernel_rfl) (q ((↑(List.length (strs es)) : Int) = (↑(List.length es) : Int)) (q (decide (16 < (↑(List.length es) : Int)) = true) ob0))

theorem lplain_ : SoundCall Tryd.prog 12 [] [] (.agg [B true]) [] := by
  exact Fn.go KT Tryd.func12 [.reg [] [], .reg [] []] [] [] (AV.agg [B true]) ([]) (by kernel_rfl) ob0

theorem lcheck_ (p : Prog) (hok : p.ok) : ∃ e : Int, SoundCall Tryd.prog 10 [.agg p.enc] [] (I e) [] ∧ (e = 0 ∨ e = 15) ∧ (e = 0 → Valid p) := by
  obtain ⟨b, h, hv⟩ := check_ p hok
  obtain ⟨es, ds, mk, mn, mv, ⟨mtk, mtv, mtl⟩, ml⟩ := p
  have hp := lplain_
  cases b with
  | false =>
    refine ⟨15, ?_, .inr rfl, fun h => by omega⟩
    clear hv hok
    exact Fn.go KT Tryd.func10 [.reg [] [], .reg [] [(0, .call (AV.agg [B true]) []), (2, .call (B false) [])], .reg [] []] [] [] (I 15) ([]) (by kernel_rfl) (ob1 (hp) (ob1 (h) ob0))
  | true =>
    refine ⟨0, ?_, .inl rfl, fun _ => hv rfl⟩
    clear hv hok
    exact Fn.go KT Tryd.func10 [.reg [] [], .reg [] [(0, .call (AV.agg [B true]) []), (2, .call (B true) [])], .reg [] []] [] [] (I 0) ([]) (by kernel_rfl) (ob1 (hp) (ob1 (h) ob0))

end Go.Ae

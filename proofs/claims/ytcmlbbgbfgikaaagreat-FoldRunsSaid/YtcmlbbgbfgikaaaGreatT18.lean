/- Part 18 of the proof: AeRLM6, AeRLM7, AeRLM9, AeRLMF, AeRRG2. -/
import Derived.Test.YtcmlbbgbfgikaaaGreatT17
set_option linter.unusedSimpArgs false
set_option linter.unusedVariables false
namespace Go.Ae.N.L
open Go.Proofs
def objs (p : Prog) (fuel : Int) (ch is cuts : List Int) (s : MS) (o : List Int) (g1 g3 g4 : Nat) (en value width : Int) (wrong : Bool) : List AObj :=
 [Mc fuel p s.steps g1 g3 en value wrong s.expr s.env s.val, .arr g1 1 (ints s.ev), fol ch is s.ui s.used width cuts 3 g4, .arr g4 1 (ints o), .arr g3 7 (Fr.encs s.fr.reverse)]
theorem move_go {p : Prog} {fuel : Int} {ch is cuts : List Int} {s s' : MS} (h : Mv p fuel ch is s (.go s')) (hb : Small p fuel ch is s) {o o' : List Int} (ho' : o' = o ++ outs cuts ch is s) (hO0 : o.length ≤ 4294967296) (hk : cuts.length ≤ 3) (hr : ∀ x ∈ cuts, -2000 ≤ x ∧ x ≤ 2000) :
  SC 37 [.lp 0 0] (objs p fuel ch is cuts s o 1 1 1 0 0 0 false) (B true) (objs p fuel ch is cuts s' o' 1 1 1 0 0 0 false) ∨
  SC 37 [.lp 0 0] (objs p fuel ch is cuts s o 1 1 1 0 0 0 false) (B true) (objs p fuel ch is cuts s' o' 2 1 1 0 0 0 false) ∨
  SC 37 [.lp 0 0] (objs p fuel ch is cuts s o 1 1 1 0 0 0 false) (B true) (objs p fuel ch is cuts s' o' 1 2 1 0 0 0 false) ∨
  SC 37 [.lp 0 0] (objs p fuel ch is cuts s o 1 1 1 0 0 0 false) (B true) (objs p fuel ch is cuts s' o' 1 1 2 0 0 0 false) ∨
  SC 37 [.lp 0 0] (objs p fuel ch is cuts s o 1 1 1 0 0 0 false) (B true) (objs p fuel ch is cuts s' o' 1 2 2 0 0 0 false) := by
 have hO : (ints o).length ≤ 4294967296 := by simpa using hO0
 obtain ⟨es, ds, mk, mn, mv, ⟨mtk, mtv, mtl⟩, ml⟩ := p
 obtain ⟨b1, b2, b3, b4, b5, b5i, b6⟩ := hb
 have hrl : ∀ fr : List Fr, (Fr.encs fr.reverse).length = fr.length := fun fr => by simp
 generalize ho : Out.go s' = o at h
 cases h with
 | @const st ev fr n v ty l env val us ui =>
  obtain ⟨tk, tv, tl⟩ := ty; obtain ⟨wn, wf, wl, we⟩ := val
  cases ho
  obtain rfl : o = o' := by rw [ho']; simp [outs]
  exact .inl (by apply move_const <;> first | assumption | exact ⟨b1, b2⟩)
 | @var st ev fr n v ty l env val us ui w h hn =>
  obtain ⟨tk, tv, tl⟩ := ty; obtain ⟨wn, wf, wl, we⟩ := val; obtain ⟨vn, vf, vl, ve⟩ := w
  cases ho
  obtain rfl : o = o' := by rw [ho']; simp [outs]
  exact .inl (by apply move_var <;> first | assumption | exact ⟨b1, b2⟩)
 | @fn st ev fr n v ty l env val us ui h0 h1 =>
  obtain ⟨tk, tv, tl⟩ := ty; obtain ⟨wn, wf, wl, we⟩ := val
  cases ho
  obtain rfl : o = o' := by rw [ho']; simp [outs]
  exact .inl (by apply move_fun <;> first | assumption | exact ⟨b1, b2⟩)
 | @lam st ev fr n v ty l env val us ui =>
  obtain ⟨tk, tv, tl⟩ := ty; obtain ⟨wn, wf, wl, we⟩ := val
  cases ho
  obtain rfl : o = o' := by rw [ho']; simp [outs]
  exact .inl (by apply move_lam <;> first | assumption | exact ⟨b1, b2⟩)
 | @app st ev fr n v ty a l env val us ui hl =>
  obtain ⟨tk, tv, tl⟩ := ty; obtain ⟨wn, wf, wl, we⟩ := val; obtain ⟨ak, an, av, ⟨atk, atv, atl⟩, al⟩ := a
  cases ho
  obtain rfl : o = o' := by rw [ho']; simp [outs]
  have := move_push3 fuel st es ds mk mn mv mtk mtv mtl ml (ints ev) (Fr.encs fr.reverse) ch is (ui) cuts (ints o) env wn wf wl we us n v tk tv tl ak an av atk atv atl al l (by rw [hrl]; exact b3) (by omega)
  rw [← encs_top] at this
  exact .inr (.inr (.inl this))
 | @lt st ev fr n v ty a l env val us ui hl =>
  obtain ⟨tk, tv, tl⟩ := ty; obtain ⟨wn, wf, wl, we⟩ := val; obtain ⟨ak, an, av, ⟨atk, atv, atl⟩, al⟩ := a
  cases ho
  obtain rfl : o = o' := by rw [ho']; simp [outs]
  have := move_push5 fuel st es ds mk mn mv mtk mtv mtl ml (ints ev) (Fr.encs fr.reverse) ch is (ui) cuts (ints o) env wn wf wl we us n v tk tv tl ak an av atk atv atl al l (by rw [hrl]; exact b3) (by omega)
  rw [← encs_top] at this
  exact .inr (.inr (.inl this))
 | @cs st ev fr n v ty a l env val us ui hl =>
  obtain ⟨tk, tv, tl⟩ := ty; obtain ⟨wn, wf, wl, we⟩ := val; obtain ⟨ak, an, av, ⟨atk, atv, atl⟩, al⟩ := a
  cases ho
  obtain rfl : o = o' := by rw [ho']; simp [outs]
  have := move_push6 fuel st es ds mk mn mv mtk mtv mtl ml (ints ev) (Fr.encs fr.reverse) ch is (ui) cuts (ints o) env wn wf wl we us n v tk tv tl ak an av atk atv atl al l (by rw [hrl]; exact b3) (by omega)
  rw [← encs_top] at this
  exact .inr (.inr (.inl this))
 | @fine st ev fr n v ty l env val us ui c hf hc h0 h1 =>
  obtain ⟨tk, tv, tl⟩ := ty; obtain ⟨wn, wf, wl, we⟩ := val
  cases ho
  obtain rfl : o ++ [c] = o' := by rw [ho']; simp [outs, hc]
  have := move_fine fuel st es ds mk mn mv mtk mtv mtl ml (ints ev) (Fr.encs fr.reverse) ch is (ui) cuts (ints o) env wn wf wl we us n v c tk tv tl l hf ⟨b1, b2⟩ hc b5 h0 h1 hO
  rw [show ints o ++ [[I (c)]] = ints (o ++ [c]) by rw [ints_append]; rfl] at this
  exact .inr (.inr (.inr (.inl this)))
 | @event st ev fr n v ty a l env val us ui hf he hl =>
  obtain ⟨tk, tv, tl⟩ := ty; obtain ⟨wn, wf, wl, we⟩ := val; obtain ⟨ak, an, av, ⟨atk, atv, atl⟩, al⟩ := a
  cases ho
  obtain rfl : o = o' := by rw [ho']; simp [outs]
  have := move_event fuel st es ds mk mn mv mtk mtv mtl ml (ints ev) (Fr.encs fr.reverse) ch is (ui) cuts (ints o) env wn wf wl we us n v tk tv tl ak an av atk atv atl al l hf ⟨b1, b2⟩ (by simpa using he) (by omega)
  rw [show ints ev ++ [[I n]] = ints (ev ++ [n]) by rw [ints_append]; rfl] at this
  exact .inr (.inl this)
 | @arg st ev fr n v ty a b env fn env' val us ui =>
  obtain ⟨tk, tv, tl⟩ := ty; obtain ⟨wn, wf, wl, we⟩ := val; obtain ⟨bk, bn, bv, ⟨btk, btv, btl⟩, bl⟩ := b; obtain ⟨gn, gf, gl, ge⟩ := fn
  cases ho
  obtain rfl : o = o' := by rw [ho']; simp [outs]
  have := back_arg fuel st es ds mk mn mv mtk mtv mtl ml (ints ev) (Fr.encs fr.reverse) ch is (ui) cuts (ints o) us 0 env' wn wf wl we n v tk tv tl a bk bn bv btk btv btl bl env gn gf gl ge (by rw [hrl]; simp at b3; omega)
  have := move_back1 (h := this)
  rw [← encs_top, ← encs_top] at this
  exact .inl this
 | @blet st ev fr n v ty a b env fn env' val us ui hf =>
  obtain ⟨tk, tv, tl⟩ := ty; obtain ⟨wn, wf, wl, we⟩ := val; obtain ⟨bk, bn, bv, ⟨btk, btv, btl⟩, bl⟩ := b; obtain ⟨gn, gf, gl, ge⟩ := fn
  cases ho
  obtain rfl : o = o' := by rw [ho']; simp [outs]
  have := back_let fuel st es ds mk mn mv mtk mtv mtl ml (ints ev) (Fr.encs fr.reverse) ch is (ui) cuts (ints o) us 0 env' wn wf wl we n v tk tv tl a bk bn bv btk btv btl bl env gn gf gl ge (by rw [hrl]; simp at b3; omega) hf ⟨b1, b2⟩
  have := move_back2 (h := this)
  rw [← encs_top] at this
  exact .inr (.inr (.inl this))
 | @bcase st ev fr n v ty l env fn env' w wf wl we us ui b hf hl hw =>
  obtain ⟨tk, tv, tl⟩ := ty; obtain ⟨bk, bn, bv, ⟨btk, btv, btl⟩, bl⟩ := b; obtain ⟨gn, gf, gl, ge⟩ := fn
  cases ho
  obtain rfl : o = o' := by rw [ho']; simp [outs]
  have := back_case fuel st es ds mk mn mv mtk mtv mtl ml (ints ev) (Fr.encs fr.reverse) ch is (ui) cuts (ints o) us 0 env' wf wl we w n v tk tv tl l bk bn bv btk btv btl bl env gn gf gl ge (by rw [hrl]; simp at b3; omega) hf ⟨b1, b2⟩ (by omega) hw
  have := move_back2 (h := this)
  rw [← encs_top] at this
  exact .inr (.inr (.inl this))
 | @bfun st ev fr i gl ge env' val us ui d hf hd =>
  obtain ⟨nm, ⟨pk, pv, pl⟩, ⟨rk, rv, rl⟩, ⟨bk, bn, bv, ⟨btk, btv, btl⟩, bl⟩⟩ := d; obtain ⟨wn, wf, wl, we⟩ := val
  cases ho
  obtain rfl : o = o' := by rw [ho']; simp [outs]
  have := back_fun fuel st es ds mk mn mv mtk mtv mtl ml (ints ev) (Fr.encs fr.reverse) ch is (ui) cuts (ints o) us 0 env' wn wf wl we i nm pk pv pl rk rv rl bk bn bv btk btv btl bl gl ge (by rw [hrl]; simp at b3; omega) hf ⟨b1, b2⟩ b6 hd
  have := move_back2 (h := this)
  rw [← encs_top] at this
  exact .inr (.inr (.inl this))
 | @bclo st ev fr n v ty b ge env' val us ui hf =>
  obtain ⟨tk, tv, tl⟩ := ty; obtain ⟨wn, wf, wl, we⟩ := val; obtain ⟨bk, bn, bv, ⟨btk, btv, btl⟩, bl⟩ := b
  cases ho
  obtain rfl : o = o' := by rw [ho']; simp [outs]
  have := back_clo fuel st es ds mk mn mv mtk mtv mtl ml (ints ev) (Fr.encs fr.reverse) ch is (ui) cuts (ints o) us 0 env' wn wf wl we n v tk tv tl bk bn bv btk btv btl bl ge (by rw [hrl]; simp at b3; omega) hf ⟨b1, b2⟩
  have := move_back2 (h := this)
  rw [← encs_top] at this
  exact .inr (.inr (.inl this))
 | @int st ev fr n v ty l env val us ui =>
  obtain ⟨tk, tv, tl⟩ := ty; obtain ⟨wn, wf, wl, we⟩ := val
  cases ho
  obtain rfl : o = o' := by rw [ho']; simp [outs]
  exact .inl (by apply move_int <;> first | assumption | exact ⟨b1, b2⟩)
 | @afine st ev fr n v ty l env val us ui x hf hc h0 h1 =>
  obtain ⟨tk, tv, tl⟩ := ty; obtain ⟨wn, wf, wl, we⟩ := val
  cases ho
  obtain rfl : o ++ [clC x cuts 0] = o' := by rw [ho']; simp [outs, hc]
  have := move_afine fuel st es ds mk mn mv mtk mtv mtl ml (ints ev) (Fr.encs fr.reverse) cuts (ints o) env wn wf wl we ch is ui us n v x tk tv tl l hf ⟨b1, b2⟩ hc b5i h0 h1 hO (by omega)
  rw [show ints o ++ [[I (clC x cuts 0)]] = ints (o ++ [clC x cuts 0]) by rw [ints_append]; rfl] at this
  exact .inr (.inr (.inr (.inl this)))
 | @add st ev fr n v ty a l env val us ui hl =>
  obtain ⟨tk, tv, tl⟩ := ty; obtain ⟨wn, wf, wl, we⟩ := val; obtain ⟨ak, an, av, ⟨atk, atv, atl⟩, al⟩ := a
  cases ho
  obtain rfl : o = o' := by rw [ho']; simp [outs]
  have := move_push11 fuel st es ds mk mn mv mtk mtv mtl ml (ints ev) (Fr.encs fr.reverse) ch is (ui) cuts (ints o) env wn wf wl we us n v tk tv tl ak an av atk atv atl al l (by rw [hrl]; exact b3) (by omega)
  rw [← encs_top] at this
  exact .inr (.inr (.inl this))
 | @less st ev fr n v ty a l env val us ui hl =>
  obtain ⟨tk, tv, tl⟩ := ty; obtain ⟨wn, wf, wl, we⟩ := val; obtain ⟨ak, an, av, ⟨atk, atv, atl⟩, al⟩ := a
  cases ho
  obtain rfl : o = o' := by rw [ho']; simp [outs]
  have := move_push12 fuel st es ds mk mn mv mtk mtv mtl ml (ints ev) (Fr.encs fr.reverse) ch is (ui) cuts (ints o) env wn wf wl we us n v tk tv tl ak an av atk atv atl al l (by rw [hrl]; exact b3) (by omega)
  rw [← encs_top] at this
  exact .inr (.inr (.inl this))
 | @badd st ev fr n v ty l env fn env' w wf wl we us ui hf =>
  obtain ⟨tk, tv, tl⟩ := ty; obtain ⟨gn, gf, gl, ge⟩ := fn
  cases ho
  obtain ⟨k0, hkn, hkl⟩ := clC_nat w cuts
  rcases afterC_cases cuts k0 n with ⟨a, ha⟩ | ⟨a, c, ha⟩
  ·obtain rfl : o = o' := by rw [ho']; simp [outs, hkn, ha]
   have := back_add_no fuel st es ds mk mn mv mtk mtv mtl ml (ints ev) (Fr.encs fr.reverse) ch is (ui) cuts (ints o) us 0 env' w wf wl we 11 n v tk tv tl l env gn gf gl ge (by rw [hrl]; simp at b3; omega) hf ⟨b1, b2⟩ hk k0 hkn hkl hr a ha
   have := move_back2 (h := this)
   rw [← encs_top] at this
   exact .inr (.inr (.inl this))
  ·obtain rfl : o ++ [idxC a c (clC (IntKind.wrap .i64 (w + n)) cuts 0)] = o' := by rw [ho']; simp [outs, hkn, ha]
   have := back_add_yes fuel st es ds mk mn mv mtk mtv mtl ml (ints ev) (Fr.encs fr.reverse) ch is (ui) cuts (ints o) us 0 env' w wf wl we 11 n v tk tv tl l env gn gf gl ge (by rw [hrl]; simp at b3; omega) hf ⟨b1, b2⟩ hk k0 hkn hkl hr a c ha hO
   have := move_back3 (h := this)
   rw [← encs_top, show ints o ++ [[I (idxC a c (clC (IntKind.wrap .i64 (w + n)) cuts 0))]] = ints (o ++ [idxC a c (clC (IntKind.wrap .i64 (w + n)) cuts 0)]) by rw [ints_append]; rfl] at this
   exact .inr (.inr (.inr (.inr this)))
 | @bless st ev fr n v ty l env fn env' w wf wl we us ui hf =>
  obtain ⟨tk, tv, tl⟩ := ty; obtain ⟨gn, gf, gl, ge⟩ := fn
  cases ho
  obtain ⟨k0, hkn, hkl⟩ := clC_nat w cuts
  by_cases hc : lessC cuts k0 n < 0
  ·obtain rfl : o ++ [if w < n then 1 else 0] = o' := by rw [ho']; simp [outs, hkn, hc]
   have := back_less_yes fuel st es ds mk mn mv mtk mtv mtl ml (ints ev) (Fr.encs fr.reverse) ch is (ui) cuts (ints o) us 0 env' w wf wl we 12 n v tk tv tl l env gn gf gl ge (by rw [hrl]; simp at b3; omega) hf ⟨b1, b2⟩ hk k0 hkn hkl hc hO
   have := move_back3 (h := this)
   rw [← encs_top, show ints o ++ [[I (if w < n then 1 else 0)]] = ints (o ++ [if w < n then 1 else 0]) by rw [ints_append]; rfl] at this
   exact .inr (.inr (.inr (.inr this)))
  ·obtain rfl : o = o' := by rw [ho']; simp [outs, hkn, hc]
   have := back_less_no fuel st es ds mk mn mv mtk mtv mtl ml (ints ev) (Fr.encs fr.reverse) ch is (ui) cuts (ints o) us 0 env' w wf wl we 12 n v tk tv tl l env gn gf gl ge (by rw [hrl]; simp at b3; omega) hf ⟨b1, b2⟩ hk k0 hkn hkl hc
   have := move_back2 (h := this)
   rw [← encs_top] at this
   exact .inr (.inr (.inl this))
 | _ => cases ho
theorem move_stop {p : Prog} {fuel : Int} {ch is cuts : List Int} {s s' : MS} {en value width : Int} {wrong : Bool} (h : Mv p fuel ch is s (.stop s' en value width wrong)) (hb : Small p fuel ch is s) (o : List Int) :
  SC 37 [.lp 0 0] (objs p fuel ch is cuts s o 1 1 1 0 0 0 false) (B false) (objs p fuel ch is cuts s' o 1 1 1 en value width wrong) := by
 obtain ⟨es, ds, mk, mn, mv, ⟨mtk, mtv, mtl⟩, ml⟩ := p
 obtain ⟨b1, b2, b3, b4, b5, b5i, b6⟩ := hb
 have hrl : ∀ fr : List Fr, (Fr.encs fr.reverse).length = fr.length := fun fr => by simp
 generalize ho : Out.stop s' en value width wrong = o at h
 cases h with
 | @more st ev fr k n v ty l env val us ui hk hf =>
  obtain ⟨tk, tv, tl⟩ := ty; obtain ⟨wn, wf, wl, we⟩ := val
  cases ho
  apply move_more <;> assumption
 | @want st ev fr n v ty l env val us ui hf hu =>
  obtain ⟨tk, tv, tl⟩ := ty; obtain ⟨wn, wf, wl, we⟩ := val
  cases ho
  apply move_want <;> assumption
 | @wrong st ev fr n v ty l env val us ui c hf hc hw =>
  obtain ⟨tk, tv, tl⟩ := ty; obtain ⟨wn, wf, wl, we⟩ := val
  cases ho
  apply move_wrong <;> assumption
 | @full st ev fr n v ty l env val us ui hf he =>
  obtain ⟨tk, tv, tl⟩ := ty; obtain ⟨wn, wf, wl, we⟩ := val
  cases ho
  have he1 : 4096 ≤ (ints ev).length := by simpa using he
  have he2 : (ints ev).length ≤ 100000 := by simp only [ints_length]; simp only at b4; omega
  apply move_full <;> assumption
 | @awant st ev fr n v ty l env val us ui hf hu =>
  obtain ⟨tk, tv, tl⟩ := ty; obtain ⟨wn, wf, wl, we⟩ := val
  cases ho
  apply move_awant <;> assumption
 | @awrong st ev fr n v ty l env val us ui x hf hc hw =>
  obtain ⟨tk, tv, tl⟩ := ty; obtain ⟨wn, wf, wl, we⟩ := val
  cases ho
  apply move_awrong <;> assumption
 | @done st ev env val us ui =>
  obtain ⟨wn, wf, wl, we⟩ := val
  cases ho
  apply move_back1; apply back_done
 | @bmore st ev fr k e env fn env' val us ui hk hf =>
  obtain ⟨wn, wf, wl, we⟩ := val; obtain ⟨gn, gf, gl, ge⟩ := fn
  cases ho
  have := back_more fuel st es ds mk mn mv mtk mtv mtl ml (ints ev) (Fr.encs fr.reverse) ch is (ui) cuts (ints o) us 0 env' wn wf wl we k hk e env gn gf gl ge (by rw [hrl]; simp at b3; omega) hf
  have := move_back1 (h := this)
  rw [← encs_top] at this
  exact this
 | _ => cases ho
end Go.Ae.N.L
namespace Go.Ae.N.L
open Go.Proofs
def McR (fuel : Int) (p : Prog) (steps : Int) (en value : Int) (wrong : Bool) (e : Option Expr) (env : List Vl) (v : Vl) : AObj :=
 .cells ([I fuel, B false, I steps, .la 2 1, I en, I value, B wrong] ++ (p.enc ++ ([.ifc 58 (.lp 1 0), .la 3 1, .ip (lamC e) 0, .ip (envC env) 0] ++ v.enc))) [9, 10, 11, 12, 13, 14, 15]
def objsR (p : Prog) (fuel : Int) (ch is cuts : List Int) (s : MS) (o : List Int) (en value width : Int) (wrong : Bool) : List AObj :=
 [McR fuel p s.steps en value wrong s.expr s.env s.val, fol ch is s.ui s.used width cuts 4 1, .arr 1 1 (ints s.ev), .arr 1 7 (Fr.encs s.fr.reverse), .arr 1 1 (ints o)]
section
variable (fuel : Int) (es : List ByteArray) (ds : List Def) (mk mn mv mtk mtv : Int) (mtl : List Ty) (ml : List Expr) (cc ci : List Int) (cu : Int) (cuts : List Int) (O : List (List AV))
 (st : Int) (E : List (List AV)) (R : List (List AV)) (e : Option Expr) (env : List Vl) (wn wf : Int) (wl : Option Expr) (we : List Vl) (us : Int)
 (st2 : Int) (E2 : List (List AV)) (R2 : List (List AV)) (e2 : Option Expr) (env2 : List Vl) (vn vf : Int) (vl : Option Expr) (ve : List Vl) (us2 : Int) (cc2 ci2 : List Int) (cu2 : Int) (O2 : List (List AV))
theorem round_go0 (x : Exit) (s' : ASt)
  (h : SC 37 [.lp 0 0]
   [Mc fuel ⟨es, ds, .mk mk mn mv (.mk mtk mtv mtl) ml⟩ st 1 1 0 0 false e env (.mk wn wf wl we), .arr 1 1 E, fol cc ci cu us 0 cuts 3 1, .arr 1 1 O, .arr 1 7 R]
   (B true) [Mc fuel ⟨es, ds, .mk mk mn mv (.mk mtk mtv mtl) ml⟩ st2 1 1 0 0 false e2 env2 (.mk vn vf vl ve), .arr 1 1 E2, fol cc2 ci2 cu2 us2 0 cuts 3 1, .arr 1 1 O2, .arr 1 7 R2])
  (k : Lp Tryz.prog 6 2 (loopN Tryz.f19 0)
   ⟨lookT [(0, .lp 0 0)], [McR fuel ⟨es, ds, .mk mk mn mv (.mk mtk mtv mtl) ml⟩ st2 0 0 false e2 env2 (.mk vn vf vl ve), fol cc2 ci2 cu2 us2 0 cuts 4 1, .arr 1 1 E2, .arr 1 7 R2, .arr 1 1 O2]⟩ x s') :
  Lp Tryz.prog 6 2 (loopN Tryz.f19 0)
   ⟨lookT [(0, .lp 0 0)], [McR fuel ⟨es, ds, .mk mk mn mv (.mk mtk mtv mtl) ml⟩ st 0 0 false e env (.mk wn wf wl we), fol cc ci cu us 0 cuts 4 1, .arr 1 1 E, .arr 1 7 R, .arr 1 1 O]⟩ x s' := by
 exact lN [rS [(1, oC h)]] [.keep [(0, [])]] (ob1 (h) ob0) (k)
theorem round_go3 (x : Exit) (s' : ASt)
  (h : SC 37 [.lp 0 0]
   [Mc fuel ⟨es, ds, .mk mk mn mv (.mk mtk mtv mtl) ml⟩ st 1 1 0 0 false e env (.mk wn wf wl we), .arr 1 1 E, fol cc ci cu us 0 cuts 3 1, .arr 1 1 O, .arr 1 7 R]
   (B true) [Mc fuel ⟨es, ds, .mk mk mn mv (.mk mtk mtv mtl) ml⟩ st2 1 1 0 0 false e2 env2 (.mk vn vf vl ve), .arr 1 1 E2, fol cc2 ci2 cu2 us2 0 cuts 3 2, .arr 2 1 O2, .arr 1 7 R2])
  (k : Lp Tryz.prog 6 2 (loopN Tryz.f19 0)
   ⟨lookT [(0, .lp 0 0)], [McR fuel ⟨es, ds, .mk mk mn mv (.mk mtk mtv mtl) ml⟩ st2 0 0 false e2 env2 (.mk vn vf vl ve), fol cc2 ci2 cu2 us2 0 cuts 4 1, .arr 1 1 E2, .arr 1 7 R2, .arr 1 1 O2]⟩ x s') :
  Lp Tryz.prog 6 2 (loopN Tryz.f19 0)
   ⟨lookT [(0, .lp 0 0)], [McR fuel ⟨es, ds, .mk mk mn mv (.mk mtk mtv mtl) ml⟩ st 0 0 false e env (.mk wn wf wl we), fol cc ci cu us 0 cuts 4 1, .arr 1 1 E, .arr 1 7 R, .arr 1 1 O]⟩ x s' := by
 exact lN [rS [(1, oC h)]] [.keep [(0, [])]] (ob1 (h) ob0) (k)
theorem round_go1 (x : Exit) (s' : ASt)
  (h : SC 37 [.lp 0 0]
   [Mc fuel ⟨es, ds, .mk mk mn mv (.mk mtk mtv mtl) ml⟩ st 1 1 0 0 false e env (.mk wn wf wl we), .arr 1 1 E, fol cc ci cu us 0 cuts 3 1, .arr 1 1 O, .arr 1 7 R]
   (B true) [Mc fuel ⟨es, ds, .mk mk mn mv (.mk mtk mtv mtl) ml⟩ st2 2 1 0 0 false e2 env2 (.mk vn vf vl ve), .arr 2 1 E2, fol cc2 ci2 cu2 us2 0 cuts 3 1, .arr 1 1 O2, .arr 1 7 R2])
  (k : Lp Tryz.prog 6 2 (loopN Tryz.f19 0)
   ⟨lookT [(0, .lp 0 0)], [McR fuel ⟨es, ds, .mk mk mn mv (.mk mtk mtv mtl) ml⟩ st2 0 0 false e2 env2 (.mk vn vf vl ve), fol cc2 ci2 cu2 us2 0 cuts 4 1, .arr 1 1 E2, .arr 1 7 R2, .arr 1 1 O2]⟩ x s') :
  Lp Tryz.prog 6 2 (loopN Tryz.f19 0)
   ⟨lookT [(0, .lp 0 0)], [McR fuel ⟨es, ds, .mk mk mn mv (.mk mtk mtv mtl) ml⟩ st 0 0 false e env (.mk wn wf wl we), fol cc ci cu us 0 cuts 4 1, .arr 1 1 E, .arr 1 7 R, .arr 1 1 O]⟩ x s' := by
 exact lN [rS [(1, oC h)]] [.keep [(0, [])]] (ob1 (h) ob0) (k)
theorem round_go2 (x : Exit) (s' : ASt)
  (h : SC 37 [.lp 0 0]
   [Mc fuel ⟨es, ds, .mk mk mn mv (.mk mtk mtv mtl) ml⟩ st 1 1 0 0 false e env (.mk wn wf wl we), .arr 1 1 E, fol cc ci cu us 0 cuts 3 1, .arr 1 1 O, .arr 1 7 R]
   (B true) [Mc fuel ⟨es, ds, .mk mk mn mv (.mk mtk mtv mtl) ml⟩ st2 1 2 0 0 false e2 env2 (.mk vn vf vl ve), .arr 1 1 E2, fol cc2 ci2 cu2 us2 0 cuts 3 1, .arr 1 1 O2, .arr 2 7 R2])
  (k : Lp Tryz.prog 6 2 (loopN Tryz.f19 0)
   ⟨lookT [(0, .lp 0 0)], [McR fuel ⟨es, ds, .mk mk mn mv (.mk mtk mtv mtl) ml⟩ st2 0 0 false e2 env2 (.mk vn vf vl ve), fol cc2 ci2 cu2 us2 0 cuts 4 1, .arr 1 1 E2, .arr 1 7 R2, .arr 1 1 O2]⟩ x s') :
  Lp Tryz.prog 6 2 (loopN Tryz.f19 0)
   ⟨lookT [(0, .lp 0 0)], [McR fuel ⟨es, ds, .mk mk mn mv (.mk mtk mtv mtl) ml⟩ st 0 0 false e env (.mk wn wf wl we), fol cc ci cu us 0 cuts 4 1, .arr 1 1 E, .arr 1 7 R, .arr 1 1 O]⟩ x s' := by
 exact lN [rS [(1, oC h)]] [.keep [(0, [])]] (ob1 (h) ob0) (k)
theorem round_go4 (x : Exit) (s' : ASt)
  (h : SC 37 [.lp 0 0]
   [Mc fuel ⟨es, ds, .mk mk mn mv (.mk mtk mtv mtl) ml⟩ st 1 1 0 0 false e env (.mk wn wf wl we), .arr 1 1 E, fol cc ci cu us 0 cuts 3 1, .arr 1 1 O, .arr 1 7 R]
   (B true) [Mc fuel ⟨es, ds, .mk mk mn mv (.mk mtk mtv mtl) ml⟩ st2 1 2 0 0 false e2 env2 (.mk vn vf vl ve), .arr 1 1 E2, fol cc2 ci2 cu2 us2 0 cuts 3 2, .arr 2 1 O2, .arr 2 7 R2])
  (k : Lp Tryz.prog 6 2 (loopN Tryz.f19 0)
   ⟨lookT [(0, .lp 0 0)], [McR fuel ⟨es, ds, .mk mk mn mv (.mk mtk mtv mtl) ml⟩ st2 0 0 false e2 env2 (.mk vn vf vl ve), fol cc2 ci2 cu2 us2 0 cuts 4 1, .arr 1 1 E2, .arr 1 7 R2, .arr 1 1 O2]⟩ x s') :
  Lp Tryz.prog 6 2 (loopN Tryz.f19 0)
   ⟨lookT [(0, .lp 0 0)], [McR fuel ⟨es, ds, .mk mk mn mv (.mk mtk mtv mtl) ml⟩ st 0 0 false e env (.mk wn wf wl we), fol cc ci cu us 0 cuts 4 1, .arr 1 1 E, .arr 1 7 R, .arr 1 1 O]⟩ x s' := by
 exact lN [rS [(1, oC h)]] [.keep [(0, [])]] (ob1 (h) ob0) (k)
theorem round_stop (en value width : Int) (wrong : Bool)
  (h : SC 37 [.lp 0 0]
   [Mc fuel ⟨es, ds, .mk mk mn mv (.mk mtk mtv mtl) ml⟩ st 1 1 0 0 false e env (.mk wn wf wl we), .arr 1 1 E, fol cc ci cu us 0 cuts 3 1, .arr 1 1 O, .arr 1 7 R]
   (B false) [Mc fuel ⟨es, ds, .mk mk mn mv (.mk mtk mtv mtl) ml⟩ st2 1 1 en value wrong e2 env2 (.mk vn vf vl ve), .arr 1 1 E2, fol cc2 ci2 cu2 us2 width cuts 3 1, .arr 1 1 O2, .arr 1 7 R2]) :
  Lp Tryz.prog 6 2 (loopN Tryz.f19 0)
   ⟨lookT [(0, .lp 0 0)], [McR fuel ⟨es, ds, .mk mk mn mv (.mk mtk mtv mtl) ml⟩ st 0 0 false e env (.mk wn wf wl we), fol cc ci cu us 0 cuts 4 1, .arr 1 1 E, .arr 1 7 R, .arr 1 1 O]⟩ (.exit 0)
   ⟨lookT [(0, .lp 0 0)], [McR fuel ⟨es, ds, .mk mk mn mv (.mk mtk mtv mtl) ml⟩ st2 en value wrong e2 env2 (.mk vn vf vl ve), fol cc2 ci2 cu2 us2 width cuts 4 1, .arr 1 1 E2, .arr 1 7 R2, .arr 1 1 O2]⟩ := by
 exact lL [rS [(1, oC h)]] [.keep [(0, [])]] (ob1 (h) ob0)
end
end Go.Ae.N.L
namespace Go.Ae.N.L
open Go.Proofs
theorem outs_cnt {p : Prog} {fuel : Int} {ch is cuts : List Int} {s s1 : MS} (h : Mv p fuel ch is s (.go s1)) : ((outs cuts ch is s).length : Int) ≤ s1.steps - s.steps := by
 generalize ho : Out.go s1 = o at h
 cases h with
 | const => cases ho; simp [outs]
 | var => cases ho; simp [outs]
 | fn => cases ho; simp [outs]
 | lam => cases ho; simp [outs]
 | app => cases ho; simp [outs]
 | lt => cases ho; simp [outs]
 | cs => cases ho; simp [outs]
 | int => cases ho; simp [outs]
 | add => cases ho; simp [outs]
 | less => cases ho; simp [outs]
 | fine hf hc => cases ho; simp [outs, hc]; omega
 | afine hf hc => cases ho; simp [outs, hc]; omega
 | event => cases ho; simp [outs]; omega
 | @arg _ _ _ _ _ _ _ _ _ _ _ val => cases ho; cases val; simp [outs]
 | @blet _ _ _ _ _ _ _ _ _ _ _ val => cases ho; cases val; simp [outs]; omega
 | bcase => cases ho; simp [outs]; omega
 | bfun => cases ho; simp [outs]; omega
 | bclo => cases ho; simp [outs]; omega
 | @badd st ev fr n v ty l env fn env' w =>
  cases ho
  simp only [outs, if_true]
  rcases afterC_cases cuts (clC w cuts 0).toNat n with ⟨a, ha⟩ | ⟨a, c, ha⟩
  ·rw [ha]; simp; omega
  ·rw [ha]; simp; omega
 | @bless st ev fr n v ty l env fn env' w =>
  cases ho
  simp only [outs, show ¬ ((5 : Int) = 4) by omega, if_false, if_true]
  split
  ·simp; omega
  ·simp; omega
 | _ => cases ho
theorem run_lp {p : Prog} {T : Ty} {fuel : Int} {ch is cuts : List Int} {s s' : MS} {o o' : List Int} {en value width : Int} {wrong : Bool} (hp : PT p) (hf : fuel ≤ 1048576) (hc : ch.length ≤ 4294967296) (hci : is.length ≤ 4294967296) (hk : cuts.length ≤ 3) (hr : ∀ x ∈ cuts, -2000 ≤ x ∧ x ≤ 2000)
  (h : FRun p fuel ch is cuts s o s' o' en value width wrong) (hi : Inv p T fuel ch is s) (hol : (o.length : Int) ≤ s.steps) :
  Lp Tryz.prog 6 2 (loopN Tryz.f19 0) ⟨lookT [(0, .lp 0 0)], objsR p fuel ch is cuts s o 0 0 0 false⟩ (.exit 0) ⟨lookT [(0, .lp 0 0)], objsR p fuel ch is cuts s' o' en value width wrong⟩ ∧ (o'.length : Int) ≤ s'.steps := by
 induction h with
 | @stop s s' o en value width wrong h =>
  have hs : s' = s := by cases h <;> rfl
  have hm := move_stop h (hi.small hp hf hc hci) (cuts := cuts) o
  refine ⟨?_, by rw [hs]; exact hol⟩
  clear hol
  obtain ⟨es, ds, mk, mn, mv, ⟨mtk, mtv, mtl⟩, ml⟩ := p
  obtain ⟨st, ev, fr, e, env, ⟨wn, wf, wl, we⟩, us, ui⟩ := s
  obtain ⟨st2, ev2, fr2, e2, env2, ⟨vn, vf, vl, ve⟩, us2, ui2⟩ := s'
  exact round_stop fuel es ds mk mn mv mtk mtv mtl ml ch is (ui) cuts (ints o) st _ _ e env wn wf wl we us st2 _ _ e2 env2 vn vf vl ve us2 ch is (ui2) (ints o) en value width wrong hm
 | @more s s1 s' o o' en value width wrong h r ih =>
  have hcnt := outs_cnt (cuts := cuts) h
  have hs1 := hi.s1
  have hm := move_go h (hi.small hp hf hc hci) (cuts := cuts) (o := o) rfl (by omega) hk hr
  obtain ⟨ihl, ihr⟩ := ih (hi.go hp h) (by simp only [List.length_append, Int.natCast_add]; omega)
  refine ⟨?_, ihr⟩
  clear hcnt hs1 ih ihr
  generalize o ++ outs cuts ch is s = o1 at hm ihl
  obtain ⟨es, ds, mk, mn, mv, ⟨mtk, mtv, mtl⟩, ml⟩ := p
  obtain ⟨st, ev, fr, e, env, ⟨wn, wf, wl, we⟩, us, ui⟩ := s
  obtain ⟨st2, ev2, fr2, e2, env2, ⟨vn, vf, vl, ve⟩, us2, ui2⟩ := s1
  rcases hm with hm | hm | hm | hm | hm
  ·exact round_go0 fuel es ds mk mn mv mtk mtv mtl ml ch is (ui) cuts (ints o) st _ _ e env wn wf wl we us st2 _ _ e2 env2 vn vf vl ve us2 ch is (ui2) (ints o1) _ _ hm ihl
  ·exact round_go1 fuel es ds mk mn mv mtk mtv mtl ml ch is (ui) cuts (ints o) st _ _ e env wn wf wl we us st2 _ _ e2 env2 vn vf vl ve us2 ch is (ui2) (ints o1) _ _ hm ihl
  ·exact round_go2 fuel es ds mk mn mv mtk mtv mtl ml ch is (ui) cuts (ints o) st _ _ e env wn wf wl we us st2 _ _ e2 env2 vn vf vl ve us2 ch is (ui2) (ints o1) _ _ hm ihl
  ·exact round_go3 fuel es ds mk mn mv mtk mtv mtl ml ch is (ui) cuts (ints o) st _ _ e env wn wf wl we us st2 _ _ e2 env2 vn vf vl ve us2 ch is (ui2) (ints o1) _ _ hm ihl
  ·exact round_go4 fuel es ds mk mn mv mtk mtv mtl ml ch is (ui) cuts (ints o) st _ _ e env wn wf wl we us st2 _ _ e2 env2 vn vf vl ve us2 ch is (ui2) (ints o1) _ _ hm ihl
section
variable (fuel : Int) (es : List ByteArray) (ds : List Def) (mk mn mv mtk mtv : Int) (mtl : List Ty) (ml : List Expr) (cc ci cuts : List Int)
def Mc0 (fuel : Int) (p : Prog) (l : Nat) : AObj :=
 .cells ([I fuel, B false, I 0, .nil, I 0, I 0, B false] ++ (p.enc ++ ([.ifc 58 (.lp l 0), .nil, .ip p.main.enc 0, .ip [] 0] ++ vZ.enc))) [9, 10, 11, 12, 13, 14, 15]
abbrev fol0 (cc ci cuts : List Int) : AObj := .cells [.sl 1 (ints cc) false, .sl 1 (ints ci) false, I 0, I 0, I 0, .sl 1 (ints cuts) false, .nil] []
theorem new_ :
  SC 18 [.agg (Prog.enc ⟨es, ds, .mk mk mn mv (.mk mtk mtv mtl) ml⟩), .ifc 58 (.lp 0 0), I fuel] [fol0 cc ci cuts]
   (.lp 1 0) [fol0 cc ci cuts, Mc0 fuel ⟨es, ds, .mk mk mn mv (.mk mtk mtv mtl) ml⟩ 0] := by
 exact gK Tryz.func18 (rGs 4 []) [.roO 2 18 9 7] [] ob0
theorem run0 (st2 : Int) (E2 : List (List AV)) (R2 : List (List AV)) (e2 : Option Expr) (env2 : List Vl) (vn vf : Int) (vl : Option Expr) (ve : List Vl) (us2 : Int) (cu2 : Int) (O2 : List (List AV)) (en value width : Int) (wrong : Bool)
  (lp : Lp Tryz.prog 6 2 (loopN Tryz.f19 0)
   ⟨lookT [(0, .lp 0 0)], [McR fuel ⟨es, ds, .mk mk mn mv (.mk mtk mtv mtl) ml⟩ 0 0 0 false (some (.mk mk mn mv (.mk mtk mtv mtl) ml)) [] vZ, fol cc ci 0 0 0 cuts 4 1, .arr 1 1 [], .arr 1 7 [], .arr 1 1 []]⟩ (.exit 0)
   ⟨lookT [(0, .lp 0 0)], [McR fuel ⟨es, ds, .mk mk mn mv (.mk mtk mtv mtl) ml⟩ st2 en value wrong e2 env2 (.mk vn vf vl ve), fol cc ci cu2 us2 width cuts 4 1, .arr 1 1 E2, .arr 1 7 R2, .arr 1 1 O2]⟩) :
  SC 19 [.lp 0 0] [Mc0 fuel ⟨es, ds, .mk mk mn mv (.mk mtk mtv mtl) ml⟩ 1, fol0 cc ci cuts]
   (.lp 0 0) [McR fuel ⟨es, ds, .mk mk mn mv (.mk mtk mtv mtl) ml⟩ st2 en value wrong e2 env2 (.mk vn vf vl ve), fol cc ci cu2 us2 width cuts 4 1, .arr 1 1 E2, .arr 1 7 R2, .arr 1 1 O2] := by
 exact Fn.go KT Tryz.func19 [.reg [] [], .loop [.accO 0 3 1, .accO 0 17 7, .accO 1 6 1, .keep [(0, [])]] (.exit 0)
  ⟨lookT [(0, .lp 0 0)], [McR fuel ⟨es, ds, .mk mk mn mv (.mk mtk mtv mtl) ml⟩ st2 en value wrong e2 env2 (.mk vn vf vl ve), fol cc ci cu2 us2 width cuts 4 1, .arr 1 1 E2, .arr 1 7 R2, .arr 1 1 O2]⟩, .reg [] []] [] []
  (.lp 0 0) ([McR fuel ⟨es, ds, .mk mk mn mv (.mk mtk mtv mtl) ml⟩ st2 en value wrong e2 env2 (.mk vn vf vl ve), fol cc ci cu2 us2 width cuts 4 1, .arr 1 1 E2, .arr 1 7 R2, .arr 1 1 O2]) (by kernel_rfl) (ob1 lp ob0)
end
end Go.Ae.N.L
namespace Go.Ae.N.L
open Go.Proofs
section
variable (es : List ByteArray) (ds : List Def) (mk mn mv mtk mtv : Int) (mtl : List Ty) (ml : List Expr) (cuts cc ci : List Int) (fuel : Int)
 (es' : List ByteArray) (ds' : List Def) (mk' mn' mv' mtk' mtv' : Int) (mtl' : List Ty) (ml' : List Expr)
theorem follow_bad (e : Int) (he : e ≠ 0) (hF : SC 6 [.agg (Prog.enc ⟨es, ds, .mk mk mn mv (.mk mtk mtv mtl) ml⟩), .sl 1 (ints cuts) false] [] (.tup [.agg (Prog.enc ⟨es', ds', .mk mk' mn' mv' (.mk mtk' mtv' mtl') ml'⟩), I e]) []) :
  SC 7 [.agg (Prog.enc ⟨es, ds, .mk mk mn mv (.mk mtk mtv mtl) ml⟩), .sl 1 (ints cuts) false, .sl 1 (ints cc) false, .sl 1 (ints ci) false, I fuel] []
   (.tup [.nil, .agg [.sl 1 [] false, I 0, I 0, I 0], I e]) [] := by
 exact gK Tryz.func7 [rG, rS [(2, oC hF)], rS [(1, .bit true)], rG] [.tidO 1 [some 1, none, none, none]] [] (ob1 (hF) (qV (e != 0) ob0))
theorem follow_do (e us en v k : Int) (ev : List Int) (he : e ≠ 0) (hF : SC 6 [.agg (Prog.enc ⟨es, ds, .mk mk mn mv (.mk mtk mtv mtl) ml⟩), .sl 1 (ints cuts) false] [] (.tup [.agg (Prog.enc ⟨es', ds', .mk mk' mn' mv' (.mk mtk' mtv' mtl') ml'⟩), I 0]) [])
  (hD : SC 17 [.agg (Prog.enc ⟨es, ds, .mk mk mn mv (.mk mtk mtv mtl) ml⟩), .sl 1 (ints cc) false, .sl 1 (ints ci) false, I fuel] [] (.tup [.agg [.sl 1 (ints ev) false, I us, I en, I v], I k, I e]) []) :
  SC 7 [.agg (Prog.enc ⟨es, ds, .mk mk mn mv (.mk mtk mtv mtl) ml⟩), .sl 1 (ints cuts) false, .sl 1 (ints cc) false, .sl 1 (ints ci) false, I fuel] []
   (.tup [.nil, .agg [.sl 1 [] false, I 0, I 0, I 0], I e]) [] := by
 exact gK Tryz.func7 [rG, rS [(2, oC hF)], rG, rS [(4, oC hD)], rS [(1, .bit true)], rG] [.tidO 1 [some 1, none, none, none]] [] (ob1 (hF) (ob1 (hD) (qV (e != 0) ob0)))
variable (us en v k : Int) (ev : List Int) (st2 : Int) (ev2 : List Int) (R2 : List (List AV)) (e2 : Option Expr) (env2 : List Vl) (vn vf : Int) (vl : Option Expr) (ve : List Vl) (us2 cu2 : Int) (o : List Int) (en2 value2 width2 : Int)
theorem follow_ok (hF : SC 6 [.agg (Prog.enc ⟨es, ds, .mk mk mn mv (.mk mtk mtv mtl) ml⟩), .sl 1 (ints cuts) false] [] (.tup [.agg (Prog.enc ⟨es', ds', .mk mk' mn' mv' (.mk mtk' mtv' mtl') ml'⟩), I 0]) [])
  (hD : SC 17 [.agg (Prog.enc ⟨es, ds, .mk mk mn mv (.mk mtk mtv mtl) ml⟩), .sl 1 (ints cc) false, .sl 1 (ints ci) false, I fuel] [] (.tup [.agg [.sl 1 (ints ev) false, I us, I en, I v], I k, I 0]) [])
  (hR : SC 19 [.lp 0 0] [Mc0 fuel ⟨es, ds, .mk mk mn mv (.mk mtk mtv mtl) ml⟩ 1, fol0 cc ci cuts]
   (.lp 0 0) [McR fuel ⟨es, ds, .mk mk mn mv (.mk mtk mtv mtl) ml⟩ st2 en2 value2 false e2 env2 (.mk vn vf vl ve), fol cc ci cu2 us2 width2 cuts 4 1, .arr 1 1 (ints ev2), .arr 1 7 R2, .arr 1 1 (ints o)])
  (ho : o.length ≤ 4096) :
  SC 7 [.agg (Prog.enc ⟨es, ds, .mk mk mn mv (.mk mtk mtv mtl) ml⟩), .sl 1 (ints cuts) false, .sl 1 (ints cc) false, .sl 1 (ints ci) false, I fuel] []
   (.tup [.sl 1 (ints o) false, .agg [.sl 1 (ints ev2) false, I us2, I en2, I value2], I 0]) [] := by
 have hn := new_ fuel es ds mk mn mv mtk mtv mtl ml cc ci cuts
 exact gK Tryz.func7 [rG, rS [(2, oC hF)], rG, rS [(4, oC hD)], rG, rG, rS [(4, oC hn), (5, oC hR)], rS [(4, .int (o.length : Int)), (5, .bit false)], rG] [.frz 6, .frz 8] [] (ob1 (hF) (ob1 (hD) (ob1 (hn) (ob1 (hR) (qN ints o (qF (4096 < (o.length : Int)) ob0))))))
end
end Go.Ae.N.L
namespace Go.Ae.N
open Go.Proofs
theorem law_ (p : Prog) (hok : p.ok) (cuts ch is : List Int) (fuel : Int) (hif : ir fuel) (hl : cuts.length ≤ 17592186043904) (hlc : ch.length ≤ 17592186043904) (hli : is.length ≤ 17592186043904) :
  SC 3 [.agg p.enc, .sl 1 (ints cuts) false, .sl 1 (ints ch) false, .sl 1 (ints is) false, I fuel] [] (B true) [] := by
 by_cases hfar : 1000 < fuel ∧ fuel ≤ 1048576
 ·obtain ⟨es, ds, mk, mn, mv, ⟨mtk, mtv, mtl⟩, ml⟩ := p
  exact law_far es ds mk mn mv mtk mtv mtl ml cuts ch is fuel hif hfar
 ·rcases fold_ p hok cuts (by omega) with ⟨e, he, hF⟩ | ⟨hF, hc, hv, hvq, hqok, g1, g2⟩
  ·obtain ⟨es, ds, mk, mn, mv, ⟨mtk, mtv, mtl⟩, ml⟩ := p
   exact law_bad es ds mk mn mv mtk mtv mtl ml cuts ch is fuel hfar [] [] 0 0 0 0 0 [] [] e he hF (L.follow_bad es ds mk mn mv mtk mtv mtl ml cuts ch is fuel [] [] 0 0 0 0 0 [] [] e he hF)
  ·obtain ⟨ev, us, en, v, k, e, hr⟩ := do_ex p hok ch is fuel
   have hd := do_ hr
   by_cases he : e = 0
   ·subst he
    have hfin : ∃ s' width, MRun p fuel ch is (start p) s' en v width false ∧ s'.ev = ev ∧ 0 ≤ fuel ∧ fuel ≤ 1048576 ∧ ch.length ≤ 4096 ∧ is.length ≤ 4096 := by
     generalize hz : (0 : Int) = z at hr
     cases hr with
     | bad h => omega
     | arg => omega
     | wrong => omega
     | @fine s' en value width h h0 h1 h2 h3 hrun => exact ⟨s', width, hrun, rfl, by omega, h1, h2, h3⟩
    obtain ⟨s', width, hrun, rfl, h0, h1, h2, h3⟩ := hfin
    obtain ⟨k', _, _, hm, hi⟩ := hv.inv h0 ch is
    obtain ⟨o, hfr⟩ := frun_ex (l := cuts) hrun []
    have hi' := (hrun.inv hv.pt hi).1
    have hr2 := goodC_mem cuts none g1
    obtain ⟨lp, hol⟩ := L.run_lp hv.pt h1 (by omega) (by omega) g2 hr2 hfr hi (by simp [start])
    have e1 := hi'.ev
    have e2 := hi'.s1
    obtain ⟨s3, en2, v2, w2, b2, hq⟩ := hvq.runA (show 0 ≤ 4 * fuel + 8 by omega) o
    obtain ⟨rfl, hu, ⟨t, ht⟩, hdn⟩ := sim_run hv.pt g1 g2 hfr rfl (by omega) (F := 4 * fuel + 8) (by omega) (s2 := start2 (foldP cuts p)) (sim_start hm) (by simp [start]) (by simpa [start] using h0) rfl rfl (by simp [start2, start]) hq
    have hD := rdo_run hvq hqok (by omega) (by omega) (by omega) hq
    obtain ⟨kq, _, hiq⟩ := hvq.invA (show 0 ≤ 4 * fuel + 8 by omega) o
    have eq1 := (hq.inv hvq.pt hiq).1.ev
    rw [hu, ← ht] at hD
    rw [← ht] at eq1
    simp only [List.length_append] at eq1
    rcases hQ : foldP cuts p with ⟨es', ds', ⟨qk, qn, qv, ⟨qtk, qtv, qtl⟩, ql⟩⟩
    rw [hQ] at hF hD
    clear hi hi' hfr hq hvq hqok hrun hr hiq hm
    obtain ⟨es, ds, mk, mn, mv, ⟨mtk, mtv, mtl⟩, ml⟩ := p
    obtain ⟨st2, ev2, fr2, e2', env2, ⟨vn, vf, vl, ve⟩, us2, ui2⟩ := s'
    simp only at e1 e2 hol ht hD hdn hd
    have hR := L.run0 fuel es ds mk mn mv mtk mtv mtl ml ch is cuts st2 _ _ e2' env2 vn vf vl ve us2 ui2 _ en v width false lp
    have hW := L.follow_ok es ds mk mn mv mtk mtv mtl ml cuts ch is fuel es' ds' qk qn qv qtk qtv qtl ql us en v k ev2 st2 ev2 _ e2' env2 vn vf vl ve us2 ui2 o en v width hF hd hR (by omega)
    by_cases hen : en = 0
    ·obtain ⟨rfl, rfl, h5⟩ := hdn hen
     subst hen
     rw [ht, h5] at hD
     exact law_done es ds mk mn mv mtk mtv mtl ml cuts ch is fuel hfar es' ds' qk qn qv qtk qtv qtl ql h0 (by omega) o ev2 t us2 v2 (by omega) (by omega) (by omega) hF hW hD
    ·exact law_fine es ds mk mn mv mtk mtv mtl ml cuts ch is fuel hfar es' ds' qk qn qv qtk qtv qtl ql h0 (by omega) o ev2 t us2 v (by omega) (by omega) (by omega) hF en en2 v2 hen hW hD
   ·rcases hQ : foldP cuts p with ⟨es', ds', ⟨qk, qn, qv, ⟨qtk, qtv, qtl⟩, ql⟩⟩
    rw [hQ] at hF
    obtain ⟨es, ds, mk, mn, mv, ⟨mtk, mtv, mtl⟩, ml⟩ := p
    have hW := L.follow_do es ds mk mn mv mtk mtv mtl ml cuts ch is fuel es' ds' qk qn qv qtk qtv qtl ql e us en v k ev he hF hd
    exact law_err es ds mk mn mv mtk mtv mtl ml cuts ch is fuel hfar es' ds' qk qn qv qtk qtv qtl ql e he hF hW
end Go.Ae.N

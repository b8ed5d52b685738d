/- The machine: Run, New; source.Run. .. (AeEM9, AeEM10, AeEM11, AeEM12, AeEM13, AeEM14, AeEM19, AeEM20) -/
import Derived.Test.YtmnnmjbjcdjglaaT9
set_option linter.unusedSimpArgs false
set_option linter.unusedVariables false
/- The machine: Run, New; source.Run. -/
namespace Go.Ae
open Go.Proofs

theorem Inv.small {p : Prog} {T : Ty} {fuel : Int} {ch : List Int} {s : MS} (hp : PT p) (hf : fuel ≤ 1048576) (hc : ch.length ≤ 4294967296) (h : Inv p T fuel ch s) : Small p fuel ch s where
  s0 := h.s0
  s1 := by have := h.s1; omega
  fr := by
    have h1 := pends_len s.fr
    have h2 := h.psi
    have h3 := h.s0
    have h4 := h.s1
    unfold MS.psi at h2
    omega
  ev := h.ev
  ch := hc
  ds := by have := hp.len; omega

theorem run_lp {p : Prog} {T : Ty} {fuel : Int} {ch : List Int} {s s' : MS} {en value width : Int} {wrong : Bool} (hp : PT p) (hf : fuel ≤ 1048576) (hc : ch.length ≤ 4294967296)
    (h : MRun p fuel ch s s' en value width wrong) (hi : Inv p T fuel ch s) :
    Lp Try.prog 6 2 (loopN Try.f49 0) ⟨lookT [(0, .lp 0 0)], objsR p fuel ch s 0 0 0 false⟩ (.exit 0) ⟨lookT [(0, .lp 0 0)], objsR p fuel ch s' en value width wrong⟩ := by
  induction h with
  | @stop s s' en value width wrong h =>
    have hm := move_stop h (hi.small hp hf hc)
    obtain ⟨es, ds, mk, mn, mv, ⟨mtk, mtv, mtl⟩, ml⟩ := p
    obtain ⟨st, ev, fr, e, env, ⟨wn, wf, wl, we⟩, us⟩ := s
    obtain ⟨st2, ev2, fr2, e2, env2, ⟨vn, vf, vl, ve⟩, us2⟩ := s'
    exact round_stop fuel es ds mk mn mv mtk mtv mtl ml ch st _ _ e env wn wf wl we us st2 _ _ e2 env2 vn vf vl ve us2 en value width wrong hm
  | @more s s1 s' en value width wrong h r ih =>
    have hm := move_go h (hi.small hp hf hc)
    have ih := ih (hi.go hp h)
    obtain ⟨es, ds, mk, mn, mv, ⟨mtk, mtv, mtl⟩, ml⟩ := p
    obtain ⟨st, ev, fr, e, env, ⟨wn, wf, wl, we⟩, us⟩ := s
    obtain ⟨st2, ev2, fr2, e2, env2, ⟨vn, vf, vl, ve⟩, us2⟩ := s1
    rcases hm with hm | hm | hm
    · exact round_go0 fuel es ds mk mn mv mtk mtv mtl ml ch st _ _ e env wn wf wl we us st2 _ _ e2 env2 vn vf vl ve us2 _ _ hm ih
    · exact round_go1 fuel es ds mk mn mv mtk mtv mtl ml ch st _ _ e env wn wf wl we us st2 _ _ e2 env2 vn vf vl ve us2 _ _ hm ih
    · exact round_go2 fuel es ds mk mn mv mtk mtv mtl ml ch st _ _ e env wn wf wl we us st2 _ _ e2 env2 vn vf vl ve us2 _ _ hm ih

section
variable (fuel : Int) (es : List ByteArray) (ds : List Def) (mk mn mv mtk mtv : Int) (mtl : List Ty) (ml : List Expr) (ch : List Int)

/-- A new machine. -/
def Mc0 (fuel : Int) (p : Prog) (l : Nat) : AObj :=
  .cells ([I fuel, B false, I 0, .nil, I 0, I 0, B false] ++ (p.enc ++ ([.ifc 62 (.lp l 0), .nil, .ip p.main.enc 0, .ip [] 0] ++ vZ.enc))) [9, 10, 11, 12, 13, 14, 15]

theorem new_ (used width : Int) :
    SoundCall Try.prog 48 [.agg (Prog.enc ⟨es, ds, .mk mk mn mv (.mk mtk mtv mtl) ml⟩), .ifc 62 (.lp 0 0), I fuel] [lists ch used width]
      (.lp 1 0) [lists ch used width, Mc0 fuel ⟨es, ds, .mk mk mn mv (.mk mtk mtv mtl) ml⟩ 0] := by
  exact Fn.go KT Try.func48 [.reg [] [], .reg [] [], .reg [] [], .reg [] []] [.roO 2 18 9 7] [] (AV.lp 1 0) ([.cells [AV.sl 1 (ints ch) false, AV.nil, I used, I 0, I width] [], .cells [I fuel, B false, I 0, AV.nil, I 0, I 0, B false, AV.sl 1 (strs es) false, AV.sl 14 (Def.encs ds) false, I mk, I mn, I mv, I mtk, I mtv, AV.sl 3 (Ty.encs mtl) false, AV.sl 7 (Expr.encs ml) false, AV.ifc 62 (AV.lp 0 0), AV.nil, AV.ip [I mk, I mn, I mv, I mtk, I mtv, AV.sl 3 (Ty.encs mtl) false, AV.sl 7 (Expr.encs ml) false] 0, AV.ip [] 0, I 0, I 0, AV.ip [] 0, AV.ip [] 0] [9, 10, 11, 12, 13, 14, 15]]) (by kernel_rfl) ob0

theorem run0 (st2 : Int) (E2 : List (List AV)) (R2 : List (List AV)) (e2 : Option Expr) (env2 : List Vl) (vn vf : Int) (vl : Option Expr) (ve : List Vl) (us2 : Int) (en value width : Int) (wrong : Bool)
    (lp : Lp Try.prog 6 2 (loopN Try.f49 0)
      ⟨lookT [(0, .lp 0 0)], [McR fuel ⟨es, ds, .mk mk mn mv (.mk mtk mtv mtl) ml⟩ 0 0 0 false (some (.mk mk mn mv (.mk mtk mtv mtl) ml)) [] vZ, lists ch 0 0, .arr 1 1 [], .arr 1 7 []]⟩ (.exit 0)
      ⟨lookT [(0, .lp 0 0)], [McR fuel ⟨es, ds, .mk mk mn mv (.mk mtk mtv mtl) ml⟩ st2 en value wrong e2 env2 (.mk vn vf vl ve), lists ch us2 width, .arr 1 1 E2, .arr 1 7 R2]⟩) :
    SoundCall Try.prog 49 [.lp 0 0] [Mc0 fuel ⟨es, ds, .mk mk mn mv (.mk mtk mtv mtl) ml⟩ 1, lists ch 0 0]
      (.lp 0 0) [McR fuel ⟨es, ds, .mk mk mn mv (.mk mtk mtv mtl) ml⟩ st2 en value wrong e2 env2 (.mk vn vf vl ve), lists ch us2 width, .arr 1 1 E2, .arr 1 7 R2] := by
  exact Fn.go KT Try.func49 [.reg [] [], .loop [.accO 0 3 1, .accO 0 17 7, .keep [(0, [])]] (.exit 0)
    ⟨lookT [(0, .lp 0 0)], [McR fuel ⟨es, ds, .mk mk mn mv (.mk mtk mtv mtl) ml⟩ st2 en value wrong e2 env2 (.mk vn vf vl ve), lists ch us2 width, .arr 1 1 E2, .arr 1 7 R2]⟩, .reg [] []] [] []
    (.lp 0 0) ([McR fuel ⟨es, ds, .mk mk mn mv (.mk mtk mtv mtl) ml⟩ st2 en value wrong e2 env2 (.mk vn vf vl ve), lists ch us2 width, .arr 1 1 E2, .arr 1 7 R2]) (by kernel_rfl) (ob1 lp ob0)

theorem srun_bad (st2 : Int) (E2 : List (List AV)) (R2 : List (List AV)) (e2 : Option Expr) (env2 : List Vl) (vn vf : Int) (vl : Option Expr) (ve : List Vl) (us2 : Int) (en value width : Int)
    (h : SoundCall Try.prog 49 [.lp 0 0] [Mc0 fuel ⟨es, ds, .mk mk mn mv (.mk mtk mtv mtl) ml⟩ 1, lists ch 0 0]
      (.lp 0 0) [McR fuel ⟨es, ds, .mk mk mn mv (.mk mtk mtv mtl) ml⟩ st2 en value true e2 env2 (.mk vn vf vl ve), lists ch us2 width, .arr 1 1 E2, .arr 1 7 R2]) :
    SoundCall Try.prog 24 [.agg (Prog.enc ⟨es, ds, .mk mk mn mv (.mk mtk mtv mtl) ml⟩), .lp 0 0, I fuel] [lists ch 0 0]
      (.tup [.agg [.sl 1 [] false, I 0, I 0, I 0], B false]) [lists ch us2 width] := by
  have hn := new_ fuel es ds mk mn mv mtk mtv mtl ml ch 0 0
  exact Fn.go KT Try.func24 [.reg [] [], .reg [] [(4, .call (AV.lp 1 0) [.cells [AV.sl 1 (ints ch) false, AV.nil, I 0, I 0, I 0] [], .cells [I fuel, B false, I 0, AV.nil, I 0, I 0, B false, AV.sl 1 (strs es) false, AV.sl 14 (Def.encs ds) false, I mk, I mn, I mv, I mtk, I mtv, AV.sl 3 (Ty.encs mtl) false, AV.sl 7 (Expr.encs ml) false, AV.ifc 62 (AV.lp 0 0), AV.nil, AV.ip [I mk, I mn, I mv, I mtk, I mtv, AV.sl 3 (Ty.encs mtl) false, AV.sl 7 (Expr.encs ml) false] 0, AV.ip [] 0, I 0, I 0, AV.ip [] 0, AV.ip [] 0] [9, 10, 11, 12, 13, 14, 15]]), (5, .call (AV.lp 0 0) [.cells [I fuel, B false, I st2, AV.la 2 1, I en, I value, B true, AV.sl 1 (strs es) false, AV.sl 14 (Def.encs ds) false, I mk, I mn, I mv, I mtk, I mtv, AV.sl 3 (Ty.encs mtl) false, AV.sl 7 (Expr.encs ml) false, AV.ifc 62 (AV.lp 1 0), AV.la 3 1, AV.ip (lamC e2) 0, AV.ip (envC env2) 0, I vn, I vf, AV.ip (lamC vl) 0, AV.ip (envC ve) 0] [9, 10, 11, 12, 13, 14, 15], .cells [AV.sl 1 (ints ch) false, AV.nil, I us2, I 0, I width] [], .arr 1 1 E2, .arr 1 7 R2])], .reg [] [], .reg [] []] [.tidO 2 [some 1, none, none, none]] [] (AV.tup [AV.agg [AV.sl 1 [] false, I 0, I 0, I 0], B false]) ([.cells [AV.sl 1 (ints ch) false, AV.nil, I us2, I 0, I width] []]) (by kernel_rfl) (ob1 (hn) (ob1 (h) ob0))

theorem srun_ok (st2 : Int) (ev : List Int) (R2 : List (List AV)) (e2 : Option Expr) (env2 : List Vl) (vn vf : Int) (vl : Option Expr) (ve : List Vl) (us2 : Int) (en value width : Int)
    (h : SoundCall Try.prog 49 [.lp 0 0] [Mc0 fuel ⟨es, ds, .mk mk mn mv (.mk mtk mtv mtl) ml⟩ 1, lists ch 0 0]
      (.lp 0 0) [McR fuel ⟨es, ds, .mk mk mn mv (.mk mtk mtv mtl) ml⟩ st2 en value false e2 env2 (.mk vn vf vl ve), lists ch us2 width, .arr 1 1 (ints ev), .arr 1 7 R2]) :
    SoundCall Try.prog 24 [.agg (Prog.enc ⟨es, ds, .mk mk mn mv (.mk mtk mtv mtl) ml⟩), .lp 0 0, I fuel] [lists ch 0 0]
      (.tup [.agg [.sl 1 (ints ev) false, I us2, I en, I value], B true]) [lists ch us2 width] := by
  have hn := new_ fuel es ds mk mn mv mtk mtv mtl ml ch 0 0
  exact Fn.go KT Try.func24 [.reg [] [], .reg [] [(4, .call (AV.lp 1 0) [.cells [AV.sl 1 (ints ch) false, AV.nil, I 0, I 0, I 0] [], .cells [I fuel, B false, I 0, AV.nil, I 0, I 0, B false, AV.sl 1 (strs es) false, AV.sl 14 (Def.encs ds) false, I mk, I mn, I mv, I mtk, I mtv, AV.sl 3 (Ty.encs mtl) false, AV.sl 7 (Expr.encs ml) false, AV.ifc 62 (AV.lp 0 0), AV.nil, AV.ip [I mk, I mn, I mv, I mtk, I mtv, AV.sl 3 (Ty.encs mtl) false, AV.sl 7 (Expr.encs ml) false] 0, AV.ip [] 0, I 0, I 0, AV.ip [] 0, AV.ip [] 0] [9, 10, 11, 12, 13, 14, 15]]), (5, .call (AV.lp 0 0) [.cells [I fuel, B false, I st2, AV.la 2 1, I en, I value, B false, AV.sl 1 (strs es) false, AV.sl 14 (Def.encs ds) false, I mk, I mn, I mv, I mtk, I mtv, AV.sl 3 (Ty.encs mtl) false, AV.sl 7 (Expr.encs ml) false, AV.ifc 62 (AV.lp 1 0), AV.la 3 1, AV.ip (lamC e2) 0, AV.ip (envC env2) 0, I vn, I vf, AV.ip (lamC vl) 0, AV.ip (envC ve) 0] [9, 10, 11, 12, 13, 14, 15], .cells [AV.sl 1 (ints ch) false, AV.nil, I us2, I 0, I width] [], .arr 1 1 (ints ev), .arr 1 7 R2])], .reg [] [], .reg [] []] [.frz 4] [] (AV.tup [AV.agg [AV.sl 1 (ints ev) false, I us2, I en, I value], B true]) ([.cells [AV.sl 1 (ints ch) false, AV.nil, I us2, I 0, I width] []]) (by kernel_rfl) (ob1 (hn) (ob1 (h) ob0))

end
end Go.Ae

/- source.Lang.Check. -/
namespace Go.Ae
open Go.Proofs

/-- A set of names. -/
def SetM (m : List (ByteArray × AV)) : Prop := ∀ s, findM s m = none ∨ findM s m = some (B true)

theorem SetM.nil : SetM [] := fun s => .inl rfl
theorem findM_append (s : ByteArray) : ∀ (m r : List (ByteArray × AV)), findM s (m ++ r) = (findM s m).or (findM s r)
  | [], r => by simp [findM]
  | (k, a) :: m, r => by
    simp only [List.cons_append, findM]
    split
    · rfl
    · exact findM_append s m r
theorem SetM.add {m : List (ByteArray × AV)} (h : SetM m) (s : ByteArray) : SetM (m ++ [(s, B true)]) := fun t => by
  rw [findM_append]
  rcases h t with h | h
  · rw [h]
    simp only [Option.none_or, findM]
    split
    · exact .inr rfl
    · exact .inl rfl
  · rw [h]; exact .inr rfl

theorem Lp.eqs {P : Program} {N m : Nat} {c : Code} {s s' s2 : ASt} {e e2 : Exit} (h : Lp P N m c s e s') (he : e = e2) (hs : s' = s2) : Lp P N m c s e2 s2 := by
  subst he; subst hs; exact h

section
variable (es : List ByteArray) (ds : List Def) (mk mn mv mtk mtv : Int) (mtl : List Ty) (ml : List Expr)

theorem check_loop0 (hn : es.length ≤ 16) (left : Int) : ∀ (us : List ByteArray) (i : Nat) (m : List (ByteArray × AV)), es.drop i = us → (∀ s ∈ us, s.size ≤ 281474976710656) → SetM m →
    (∃ m', SetM m' ∧ Lp Try.prog 136 0 (loopN Try.f47 0)
      ⟨lookT [(2, .lp 0 0), (3, .lp 1 0), (5, .lp 2 0), (6, .mp 3), (35, .sl 1 (strs es) false), (36, I (es.length : Int)), (37, I (i : Int))], [.cells [B false] [], .cells (Prog.enc ⟨es, ds, .mk mk mn mv (.mk mtk mtv mtl) ml⟩) [], .cells [I left] [], .map m]⟩
      (.exit 0) ⟨lookT [(2, .lp 0 0), (3, .lp 1 0), (5, .lp 2 0), (6, .mp 3)], [.cells [B false] [], .cells (Prog.enc ⟨es, ds, .mk mk mn mv (.mk mtk mtv mtl) ml⟩) [], .cells [I left] [], .map m']⟩) ∨
    Lp Try.prog 136 0 (loopN Try.f47 0)
      ⟨lookT [(2, .lp 0 0), (3, .lp 1 0), (5, .lp 2 0), (6, .mp 3), (35, .sl 1 (strs es) false), (36, I (es.length : Int)), (37, I (i : Int))], [.cells [B false] [], .cells (Prog.enc ⟨es, ds, .mk mk mn mv (.mk mtk mtv mtl) ml⟩) [], .cells [I left] [], .map m]⟩
      .ret ⟨lookT [(4, B false)], []⟩
  | [], i, m, hd, hs, hm => by
    have hi := drop_end hd
    refine .inl ⟨m, hm, ?_⟩
    clear hs hm hd
    exact Lp.last KT [.reg [] [(0, .bit false)]] [.keep [(2, []), (3, []), (5, []), (6, [])]] (by kernel_rfl) (q (decide ((↑i : Int) < (↑(List.length es) : Int)) = false) ob0) (by intro h; cases h)
  | s :: us, i, m, hd, hs, hm => by
    have hi := drop_lt hd
    have hx : (strs es)[i]? = some [S s] := by rw [strs_get, drop_get hd]; rfl
    have hc := isName_ s (hs s (by simp))
    have ih := check_loop0 hn left us (i + 1) (m ++ [(s, B true)]) (drop_next hd) (fun x hx => hs x (by simp [hx])) (hm.add s)
    have hf := hm s
    clear hs hm hd
    simp only [Int.natCast_add] at ih
    generalize nameC s.data.toList = b at hc
    cases b with
    | false =>
      clear ih hf
      refine .inr ?_
      exact Lp.last KT [.reg [] [(0, .bit true)], .reg [] [(0, .row i [S s])], .reg [] [(1, .call (B false) [])], .reg [] []] [.keep [(4, [])]] (by kernel_rfl) (q (decide ((↑i : Int) < (↑(List.length es) : Int)) = true) (q ((↑i : Int) = (↑i : Int)) (q ((strs es)[i]? = some [S s]) (ob1 (hc) ob0)))) (by intro h; cases h)
    | true =>
      rcases hf with hf | hf
      · rcases ih with ⟨m', hm', ih⟩ | ih
        · refine .inl ⟨m', hm', ?_⟩
          clear hm'
          exact Lp.next KT [.reg [] [(0, .bit true)], .reg [] [(0, .row i [S s])], .reg [] [(1, .call (B true) []), (6, .look none)], .reg [] [(2, .look none)], .reg [] [(0, .int ((↑i : Int) + 1))]] [.keep [(2, []), (3, []), (5, []), (6, []), (35, []), (36, []), (37, [])]] (by kernel_rfl) (q (decide ((↑i : Int) < (↑(List.length es) : Int)) = true) (q ((↑i : Int) = (↑i : Int)) (q ((strs es)[i]? = some [S s]) (ob1 (hc) (q (findM s m = none) (q (findM s m = none) (qw ((↑i : Int) + 1) ob0))))))) (ih)
        · refine .inr ?_
          exact Lp.next KT [.reg [] [(0, .bit true)], .reg [] [(0, .row i [S s])], .reg [] [(1, .call (B true) []), (6, .look none)], .reg [] [(2, .look none)], .reg [] [(0, .int ((↑i : Int) + 1))]] [.keep [(2, []), (3, []), (5, []), (6, []), (35, []), (36, []), (37, [])]] (by kernel_rfl) (q (decide ((↑i : Int) < (↑(List.length es) : Int)) = true) (q ((↑i : Int) = (↑i : Int)) (q ((strs es)[i]? = some [S s]) (ob1 (hc) (q (findM s m = none) (q (findM s m = none) (qw ((↑i : Int) + 1) ob0))))))) (ih)
      · clear ih
        refine .inr ?_
        exact Lp.last KT [.reg [] [(0, .bit true)], .reg [] [(0, .row i [S s])], .reg [] [(1, .call (B true) []), (6, .look (some (B true)))], .reg [] []] [.keep [(4, [])]] (by kernel_rfl) (q (decide ((↑i : Int) < (↑(List.length es) : Int)) = true) (q ((↑i : Int) = (↑i : Int)) (q ((strs es)[i]? = some [S s]) (ob1 (hc) (q (findM s m = some (B true)) ob0))))) (by intro h; cases h)

theorem check_loop1 (hn : ds.length ≤ 16) : ∀ (us : List Def) (i : Nat) (left : Int) (m : List (ByteArray × AV)), ds.drop i = us → (∀ d ∈ us, d.ok) → 0 ≤ left → left ≤ 400 → SetM m →
    ((∀ d ∈ us, d.param.V ∧ d.result.V ∧ ∃ n, 0 ≤ n ∧ n ≤ 400 ∧ (szC d.body 30 n).1 = true) ∧ Lp Try.prog 136 0 (loopN Try.f47 1)
      ⟨lookT [(2, .lp 0 0), (3, .lp 1 0), (5, .lp 2 0), (6, .mp 3), (54, .sl 14 (Def.encs ds) false), (55, I (ds.length : Int)), (56, I (i : Int))], [.cells [B false] [], .cells (Prog.enc ⟨es, ds, .mk mk mn mv (.mk mtk mtv mtl) ml⟩) [], .cells [I left] [], .map m]⟩
      (.exit 2) ⟨lookT [(2, .lp 0 0), (3, .lp 1 0)], [.cells [B false] [], .cells (Prog.enc ⟨es, ds, .mk mk mn mv (.mk mtk mtv mtl) ml⟩) []]⟩) ∨
    Lp Try.prog 136 0 (loopN Try.f47 1)
      ⟨lookT [(2, .lp 0 0), (3, .lp 1 0), (5, .lp 2 0), (6, .mp 3), (54, .sl 14 (Def.encs ds) false), (55, I (ds.length : Int)), (56, I (i : Int))], [.cells [B false] [], .cells (Prog.enc ⟨es, ds, .mk mk mn mv (.mk mtk mtv mtl) ml⟩) [], .cells [I left] [], .map m]⟩
      .ret ⟨lookT [(4, B false)], []⟩
  | [], i, left, m, hd, hs, h0, h1, hm => by
    have hi := drop_end hd
    refine .inl ⟨by simp, ?_⟩
    clear hs hm hd
    exact Lp.last KT [.reg [] [(0, .bit false)]] [.keep [(2, []), (3, [])]] (by kernel_rfl) (q (decide ((↑i : Int) < (↑(List.length ds) : Int)) = false) ob0) (by intro h; cases h)
  | d :: us, i, left, m, hd, hs, h0, h1, hm => by
    obtain ⟨nm, ⟨pk, pv, pl⟩, ⟨rk, rv, rl⟩, ⟨bk, bn, bv, ⟨btk, btv, btl⟩, bl⟩⟩ := d
    have hi := drop_lt hd
    have hx : (Def.encs ds)[i]? = some (Def.mk nm (.mk pk pv pl) (.mk rk rv rl) (.mk bk bn bv (.mk btk btv btl) bl)).enc := by rw [Def.encs_get, drop_get hd]; rfl
    have hok := hs _ (List.mem_cons_self ..)
    have hc := isName_ nm hok.1
    have ht1 := isTy_ (.mk pk pv pl) hok.2.1
    have ht2 := isTy_ (.mk rk rv rl) hok.2.2.1
    have hz := size_ (.mk bk bn bv (.mk btk btv btl) bl) 30 left hok.2.2.2 (by omega) (by omega) h0 (by omega)
    have hzb := szC_bound (.mk bk bn bv (.mk btk btv btl) bl) 30 left h0
    have hV : ∀ t : Ty, t.V ↔ (tyC t 20).1 = true := fun t => Iff.rfl
    have hf := hm nm
    have ih := fun h2 => check_loop1 hn us (i + 1) (szC (.mk bk bn bv (.mk btk btv btl) bl) 30 left).2 (m ++ [(nm, B true)]) (drop_next hd) (fun x hx => hs x (by simp [hx])) (hzb.2.2 h2) (by omega) (hm.add nm)
    clear hs hm hd hok
    simp only [Int.natCast_add] at ih
    generalize nameC nm.data.toList = b at hc
    have hv1 := hV (.mk pk pv pl)
    have hv2 := hV (.mk rk rv rl)
    clear hV
    generalize (tyC (.mk pk pv pl) 20).1 = b1 at ht1 hv1
    generalize (tyC (.mk rk rv rl) 20).1 = b2 at ht2 hv2
    cases b with
    | false =>
      clear ih hf hv1 hv2 hzb
      refine .inr ?_
      exact Lp.last KT [.reg [] [(0, .bit true)], .reg [] [(0, .row i (Def.enc { name := nm, param := Ty.mk pk pv pl, result := Ty.mk rk rv rl, body := Expr.mk bk bn bv (Ty.mk btk btv btl) bl }))], .reg [] [(2, .call (B false) [])], .reg [] []] [.keep [(4, [])]] (by kernel_rfl) (q (decide ((↑i : Int) < (↑(List.length ds) : Int)) = true) (q ((↑i : Int) = (↑i : Int)) (q ((Def.encs ds)[i]? = some (Def.enc { name := nm, param := Ty.mk pk pv pl, result := Ty.mk rk rv rl, body := Expr.mk bk bn bv (Ty.mk btk btv btl) bl })) (ob1 (hc) ob0)))) (by intro h; cases h)
    | true =>
      rcases hf with hf | hf
      · cases b1 with
        | false =>
          clear ih hv1 hv2 hzb
          refine .inr ?_
          exact Lp.last KT [.reg [] [(0, .bit true)], .reg [] [(0, .row i (Def.enc { name := nm, param := Ty.mk pk pv pl, result := Ty.mk rk rv rl, body := Expr.mk bk bn bv (Ty.mk btk btv btl) bl }))], .reg [] [(2, .call (B true) []), (8, .look none), (14, .call (B false) [])], .reg [] []] [.keep [(4, [])]] (by kernel_rfl) (q (decide ((↑i : Int) < (↑(List.length ds) : Int)) = true) (q ((↑i : Int) = (↑i : Int)) (q ((Def.encs ds)[i]? = some (Def.enc { name := nm, param := Ty.mk pk pv pl, result := Ty.mk rk rv rl, body := Expr.mk bk bn bv (Ty.mk btk btv btl) bl })) (ob1 (hc) (q (findM (Def.name { name := nm, param := Ty.mk pk pv pl, result := Ty.mk rk rv rl, body := Expr.mk bk bn bv (Ty.mk btk btv btl) bl }) m = none) (ob1 (ht1) ob0)))))) (by intro h; cases h)
        | true =>
          cases b2 with
          | false =>
            clear ih hv1 hv2 hzb
            refine .inr ?_
            exact Lp.last KT [.reg [] [(0, .bit true)], .reg [] [(0, .row i (Def.enc { name := nm, param := Ty.mk pk pv pl, result := Ty.mk rk rv rl, body := Expr.mk bk bn bv (Ty.mk btk btv btl) bl }))], .reg [] [(2, .call (B true) []), (8, .look none), (14, .call (B true) []), (21, .call (B false) [])], .reg [] []] [.keep [(4, [])]] (by kernel_rfl) (q (decide ((↑i : Int) < (↑(List.length ds) : Int)) = true) (q ((↑i : Int) = (↑i : Int)) (q ((Def.encs ds)[i]? = some (Def.enc { name := nm, param := Ty.mk pk pv pl, result := Ty.mk rk rv rl, body := Expr.mk bk bn bv (Ty.mk btk btv btl) bl })) (ob1 (hc) (q (findM (Def.name { name := nm, param := Ty.mk pk pv pl, result := Ty.mk rk rv rl, body := Expr.mk bk bn bv (Ty.mk btk btv btl) bl }) m = none) (ob1 (ht1) (ob1 (ht2) ob0))))))) (by intro h; cases h)
          | true =>
            generalize hzz : szC (.mk bk bn bv (.mk btk btv btl) bl) 30 left = Z at hz ih hzb
            obtain ⟨zb, zn⟩ := Z
            cases zb with
            | false =>
              clear ih hv1 hv2 hzb hzz
              refine .inr ?_
              exact Lp.last KT [.reg [] [(0, .bit true)], .reg [] [(0, .row i (Def.enc { name := nm, param := Ty.mk pk pv pl, result := Ty.mk rk rv rl, body := Expr.mk bk bn bv (Ty.mk btk btv btl) bl }))], .reg [] [(2, .call (B true) []), (8, .look none), (14, .call (B true) []), (21, .call (B true) []), (27, .call (B false) [.cells [I (Prod.snd (false, zn))] []])], .reg [] []] [.keep [(4, [])]] (by kernel_rfl) (q (decide ((↑i : Int) < (↑(List.length ds) : Int)) = true) (q ((↑i : Int) = (↑i : Int)) (q ((Def.encs ds)[i]? = some (Def.enc { name := nm, param := Ty.mk pk pv pl, result := Ty.mk rk rv rl, body := Expr.mk bk bn bv (Ty.mk btk btv btl) bl })) (ob1 (hc) (q (findM (Def.name { name := nm, param := Ty.mk pk pv pl, result := Ty.mk rk rv rl, body := Expr.mk bk bn bv (Ty.mk btk btv btl) bl }) m = none) (ob1 (ht1) (ob1 (ht2) (ob1 (hz) ob0)))))))) (by intro h; cases h)
            | true =>
              rcases ih rfl with ⟨hq, ih⟩ | ih
              · refine .inl ⟨fun d hd => ?_, ?_⟩
                · rcases List.mem_cons.1 hd with rfl | hd
                  · exact ⟨hv1.2 rfl, hv2.2 rfl, left, h0, h1, by rw [hzz]⟩
                  · exact hq d hd
                · clear hq hv1 hv2 hzb hzz
                  exact Lp.next KT [.reg [] [(0, .bit true)], .reg [] [(0, .row i (Def.enc { name := nm, param := Ty.mk pk pv pl, result := Ty.mk rk rv rl, body := Expr.mk bk bn bv (Ty.mk btk btv btl) bl }))], .reg [] [(2, .call (B true) []), (8, .look none), (14, .call (B true) []), (21, .call (B true) []), (27, .call (B true) [.cells [I (Prod.snd (true, zn))] []])], .reg [] [(3, .look none)], .reg [] [(0, .int ((↑i : Int) + 1))]] [.keep [(2, []), (3, []), (5, []), (6, []), (54, []), (55, []), (56, [])]] (by kernel_rfl) (q (decide ((↑i : Int) < (↑(List.length ds) : Int)) = true) (q ((↑i : Int) = (↑i : Int)) (q ((Def.encs ds)[i]? = some (Def.enc { name := nm, param := Ty.mk pk pv pl, result := Ty.mk rk rv rl, body := Expr.mk bk bn bv (Ty.mk btk btv btl) bl })) (ob1 (hc) (q (findM (Def.name { name := nm, param := Ty.mk pk pv pl, result := Ty.mk rk rv rl, body := Expr.mk bk bn bv (Ty.mk btk btv btl) bl }) m = none) (ob1 (ht1) (ob1 (ht2) (ob1 (hz) (q (findM (Def.name { name := nm, param := Ty.mk pk pv pl, result := Ty.mk rk rv rl, body := Expr.mk bk bn bv (Ty.mk btk btv btl) bl }) m = none) (qw ((↑i : Int) + 1) ob0)))))))))) (ih)
              · refine .inr ?_
                clear hv1 hv2 hzb hzz
                exact Lp.next KT [.reg [] [(0, .bit true)], .reg [] [(0, .row i (Def.enc { name := nm, param := Ty.mk pk pv pl, result := Ty.mk rk rv rl, body := Expr.mk bk bn bv (Ty.mk btk btv btl) bl }))], .reg [] [(2, .call (B true) []), (8, .look none), (14, .call (B true) []), (21, .call (B true) []), (27, .call (B true) [.cells [I (Prod.snd (true, zn))] []])], .reg [] [(3, .look none)], .reg [] [(0, .int ((↑i : Int) + 1))]] [.keep [(2, []), (3, []), (5, []), (6, []), (54, []), (55, []), (56, [])]] (by kernel_rfl) (q (decide ((↑i : Int) < (↑(List.length ds) : Int)) = true) (q ((↑i : Int) = (↑i : Int)) (q ((Def.encs ds)[i]? = some (Def.enc { name := nm, param := Ty.mk pk pv pl, result := Ty.mk rk rv rl, body := Expr.mk bk bn bv (Ty.mk btk btv btl) bl })) (ob1 (hc) (q (findM (Def.name { name := nm, param := Ty.mk pk pv pl, result := Ty.mk rk rv rl, body := Expr.mk bk bn bv (Ty.mk btk btv btl) bl }) m = none) (ob1 (ht1) (ob1 (ht2) (ob1 (hz) (q (findM (Def.name { name := nm, param := Ty.mk pk pv pl, result := Ty.mk rk rv rl, body := Expr.mk bk bn bv (Ty.mk btk btv btl) bl }) m = none) (qw ((↑i : Int) + 1) ob0)))))))))) (ih)
      · clear ih hv1 hv2 hzb
        refine .inr ?_
        exact Lp.last KT [.reg [] [(0, .bit true)], .reg [] [(0, .row i (Def.enc { name := nm, param := Ty.mk pk pv pl, result := Ty.mk rk rv rl, body := Expr.mk bk bn bv (Ty.mk btk btv btl) bl }))], .reg [] [(2, .call (B true) []), (8, .look (some (B true)))], .reg [] []] [.keep [(4, [])]] (by kernel_rfl) (q (decide ((↑i : Int) < (↑(List.length ds) : Int)) = true) (q ((↑i : Int) = (↑i : Int)) (q ((Def.encs ds)[i]? = some (Def.enc { name := nm, param := Ty.mk pk pv pl, result := Ty.mk rk rv rl, body := Expr.mk bk bn bv (Ty.mk btk btv btl) bl })) (ob1 (hc) (q (findM (Def.name { name := nm, param := Ty.mk pk pv pl, result := Ty.mk rk rv rl, body := Expr.mk bk bn bv (Ty.mk btk btv btl) bl }) m = some (B true)) ob0))))) (by intro h; cases h)

theorem check_loop2 (hn : ds.length ≤ 16) (hd0 : ∀ d ∈ ds, d.ok) : ∀ (us : List Def) (i : Nat), ds.drop i = us → (∀ d ∈ us, TypeOk ⟨es, ds, .mk mk mn mv (.mk mtk mtv mtl) ml⟩ d.body [d.param] ∧ (tImp ⟨es, ds, .mk mk mn mv (.mk mtk mtv mtl) ml⟩ d.body [d.param]).1.ok) →
    ((∀ d ∈ us, tImp ⟨es, ds, .mk mk mn mv (.mk mtk mtv mtl) ml⟩ d.body [d.param] = (d.result, true)) ∧ Lp Try.prog 136 0 (loopN Try.f47 2)
      ⟨lookT [(2, .lp 0 0), (3, .lp 1 0), (95, .sl 14 (Def.encs ds) false), (96, I (ds.length : Int)), (97, I (i : Int))], [.cells [B false] [], .cells (Prog.enc ⟨es, ds, .mk mk mn mv (.mk mtk mtv mtl) ml⟩) []]⟩
      (.exit 4) ⟨lookT [(2, .lp 0 0), (3, .lp 1 0)], [.cells [B false] [], .cells (Prog.enc ⟨es, ds, .mk mk mn mv (.mk mtk mtv mtl) ml⟩) []]⟩) ∨
    Lp Try.prog 136 0 (loopN Try.f47 2)
      ⟨lookT [(2, .lp 0 0), (3, .lp 1 0), (95, .sl 14 (Def.encs ds) false), (96, I (ds.length : Int)), (97, I (i : Int))], [.cells [B false] [], .cells (Prog.enc ⟨es, ds, .mk mk mn mv (.mk mtk mtv mtl) ml⟩) []]⟩
      .ret ⟨lookT [(4, B false)], []⟩
  | [], i, hd, hs => by
    have hi := drop_end hd
    refine .inl ⟨by simp, ?_⟩
    clear hs hd0 hd
    exact Lp.last KT [.reg [] [(0, .bit false)]] [.keep [(2, []), (3, [])]] (by kernel_rfl) (q (decide ((↑i : Int) < (↑(List.length ds) : Int)) = false) ob0) (by intro h; cases h)
  | d :: us, i, hd, hs => by
    obtain ⟨nm, ⟨pk, pv, pl⟩, ⟨rk, rv, rl⟩, ⟨bk, bn, bv, ⟨btk, btv, btl⟩, bl⟩⟩ := d
    have hi := drop_lt hd
    have hx : (Def.encs ds)[i]? = some (Def.mk nm (.mk pk pv pl) (.mk rk rv rl) (.mk bk bn bv (.mk btk btv btl) bl)).enc := by rw [Def.encs_get, drop_get hd]; rfl
    obtain ⟨ht, ho⟩ := hs _ (List.mem_cons_self ..)
    have ih := check_loop2 hn hd0 us (i + 1) (drop_next hd) (fun x hx => hs x (by simp [hx]))
    clear hs hd hd0
    simp only [Int.natCast_add] at ih
    unfold TypeOk at ht
    simp only at ht ho
    generalize hT : tImp ⟨es, ds, .mk mk mn mv (.mk mtk mtv mtl) ml⟩ (.mk bk bn bv (.mk btk btv btl) bl) [.mk pk pv pl] = T at ht ho
    obtain ⟨⟨tk, tv, tl⟩, tb⟩ := T
    have he := eqTy_0 (.mk tk tv tl) (.mk rk rv rl) ho
    clear ho
    cases tb with
    | false =>
      clear ih hT
      refine .inr ?_
      exact Lp.last KT [.reg [] [(0, .bit true)], .reg [] [(0, .row i (Def.enc { name := nm, param := Ty.mk pk pv pl, result := Ty.mk rk rv rl, body := Expr.mk bk bn bv (Ty.mk btk btv btl) bl }))], .reg [] [(7, .call (AV.tup [AV.agg [I tk, I tv, AV.sl 3 (Ty.encs tl) false], B false]) [])], .reg [] [], .reg [] []] [.keep [(4, [])]] (by kernel_rfl) (q (decide ((↑i : Int) < (↑(List.length ds) : Int)) = true) (q ((↑i : Int) = (↑i : Int)) (q ((Def.encs ds)[i]? = some (Def.enc { name := nm, param := Ty.mk pk pv pl, result := Ty.mk rk rv rl, body := Expr.mk bk bn bv (Ty.mk btk btv btl) bl })) (ob1 (ht) ob0)))) (by intro h; cases h)
    | true =>
      by_cases hq : Ty.mk tk tv tl = Ty.mk rk rv rl
      · rw [decide_eq_true hq] at he
        rcases ih with ⟨h1, ih⟩ | ih
        · refine .inl ⟨fun d hd => ?_, ?_⟩
          · rcases List.mem_cons.1 hd with rfl | hd
            · simp only [hT, hq]
            · exact h1 d hd
          · clear h1 hT hq
            exact Lp.next KT [.reg [] [(0, .bit true)], .reg [] [(0, .row i (Def.enc { name := nm, param := Ty.mk pk pv pl, result := Ty.mk rk rv rl, body := Expr.mk bk bn bv (Ty.mk btk btv btl) bl }))], .reg [] [(7, .call (AV.tup [AV.agg [I tk, I tv, AV.sl 3 (Ty.encs tl) false], B true]) [])], .reg [] [(6, .call (B true) [])], .reg [] [(0, .int ((↑i : Int) + 1))]] [.keep [(2, []), (3, []), (95, []), (96, []), (97, [])]] (by kernel_rfl) (q (decide ((↑i : Int) < (↑(List.length ds) : Int)) = true) (q ((↑i : Int) = (↑i : Int)) (q ((Def.encs ds)[i]? = some (Def.enc { name := nm, param := Ty.mk pk pv pl, result := Ty.mk rk rv rl, body := Expr.mk bk bn bv (Ty.mk btk btv btl) bl })) (ob1 (ht) (ob1 (he) (qw ((↑i : Int) + 1) ob0)))))) (ih)
        · clear hT hq
          refine .inr ?_
          exact Lp.next KT [.reg [] [(0, .bit true)], .reg [] [(0, .row i (Def.enc { name := nm, param := Ty.mk pk pv pl, result := Ty.mk rk rv rl, body := Expr.mk bk bn bv (Ty.mk btk btv btl) bl }))], .reg [] [(7, .call (AV.tup [AV.agg [I tk, I tv, AV.sl 3 (Ty.encs tl) false], B true]) [])], .reg [] [(6, .call (B true) [])], .reg [] [(0, .int ((↑i : Int) + 1))]] [.keep [(2, []), (3, []), (95, []), (96, []), (97, [])]] (by kernel_rfl) (q (decide ((↑i : Int) < (↑(List.length ds) : Int)) = true) (q ((↑i : Int) = (↑i : Int)) (q ((Def.encs ds)[i]? = some (Def.enc { name := nm, param := Ty.mk pk pv pl, result := Ty.mk rk rv rl, body := Expr.mk bk bn bv (Ty.mk btk btv btl) bl })) (ob1 (ht) (ob1 (he) (qw ((↑i : Int) + 1) ob0)))))) (ih)
      · rw [decide_eq_false hq] at he
        clear ih hT hq
        refine .inr ?_
        exact Lp.last KT [.reg [] [(0, .bit true)], .reg [] [(0, .row i (Def.enc { name := nm, param := Ty.mk pk pv pl, result := Ty.mk rk rv rl, body := Expr.mk bk bn bv (Ty.mk btk btv btl) bl }))], .reg [] [(7, .call (AV.tup [AV.agg [I tk, I tv, AV.sl 3 (Ty.encs tl) false], B true]) [])], .reg [] [(6, .call (B false) [])], .reg [] []] [.keep [(4, [])]] (by kernel_rfl) (q (decide ((↑i : Int) < (↑(List.length ds) : Int)) = true) (q ((↑i : Int) = (↑i : Int)) (q ((Def.encs ds)[i]? = some (Def.enc { name := nm, param := Ty.mk pk pv pl, result := Ty.mk rk rv rl, body := Expr.mk bk bn bv (Ty.mk btk btv btl) bl })) (ob1 (ht) (ob1 (he) ob0))))) (by intro h; cases h)

end
end Go.Ae

/- source.Lang.Check, whole; lang.Check. -/
namespace Go.Ae
open Go.Proofs

mutual
theorem szC_nodes : ∀ (e : Expr) (d n : Int), (szC e d n).1 = true → (szC e d n).2 = n - e.nodes
  | .mk _ _ _ _ l, d, n, h => by
    simp only [szC] at h ⊢
    split at h
    · simp at h
    · rename_i h1
      rw [if_neg h1]
      split at h
      · simp at h
      · rename_i h2
        rw [if_neg h2]
        have := szCs_nodes l (d - 1) (n - 1) h
        simp only [Expr.nodes]
        omega
theorem szCs_nodes : ∀ (l : List Expr) (d n : Int), (szCs l d n).1 = true → (szCs l d n).2 = n - Expr.nodesL l
  | [], d, n, h => by simp [szCs, Expr.nodesL]
  | t :: l, d, n, h => by
    rw [szCs_cons] at h ⊢
    split at h
    · rename_i h1
      rw [if_pos h1]
      have e1 := szC_nodes t d n h1
      have e2 := szCs_nodes l d _ h
      simp only [Expr.nodesL]
      omega
    · simp at h
end

theorem szC_le {e : Expr} {d n : Int} (h0 : 0 ≤ n) (h : (szC e d n).1 = true) : (e.nodes : Int) ≤ n := by
  have := szC_nodes e d n h
  have := (szC_bound e d n h0).2.2 h
  omega

/-- What Check has made sure of. -/
structure Valid (p : Prog) : Prop where
  ev : p.events.length ≤ 16
  ds : p.defs.length ≤ 16
  pt : PT p
  dok : ∀ d ∈ p.defs, d.ok
  mok : p.main.ok
  msz : (szC p.main 30 400).1 = true
  mty : ∃ k : Int, 1 ≤ k ∧ k ≤ 4 ∧ tImp p p.main [] = (tyF k, true)

theorem check_ (p : Prog) (hok : p.ok) : ∃ b, SoundCall Try.prog 47 [.agg [B false], .agg p.enc] [] (B b) [] ∧ (b = true → Valid p) := by
  obtain ⟨es, ds, mk, mn, mv, ⟨mtk, mtv, mtl⟩, ml⟩ := p
  obtain ⟨o1, o2, o3, o4, o5⟩ := hok
  simp only at o1 o2 o3 o4 o5
  by_cases h1 : es.length ≤ 16
  · by_cases h2 : ds.length ≤ 16
    · have hz := size_ (.mk mk mn mv (.mk mtk mtv mtl) ml) 30 400 o5 (by omega) (by omega) (by omega) (by omega)
      have hzb := szC_bound (.mk mk mn mv (.mk mtk mtv mtl) ml) 30 400 (by omega)
      generalize hzz : szC (.mk mk mn mv (.mk mtk mtv mtl) ml) 30 400 = Z at hz hzb
      obtain ⟨zb, zn⟩ := Z
      cases zb with
      | false =>
        refine ⟨false, ?_, fun h => by cases h⟩
        clear hzb hzz o2 o4 o5 o1 o3
        exact Fn.go KT Try.func47 [.reg [] [], .reg [] [], .reg [] [(2, .int (↑(List.length es) : Int)), (3, .bit false), (7, .int (↑(List.length ds) : Int)), (8, .bit false), (13, .call (B false) [.cells [I (Prod.snd (false, zn))] []])], .reg [] []] [] [] (B false) ([]) (by kernel_rfl) (q ((↑(List.length (strs es)) : Int) = (↑(List.length es) : Int)) (q (decide (16 < (↑(List.length es) : Int)) = false) (q ((↑(List.length (Def.encs ds)) : Int) = (↑(List.length ds) : Int)) (q (decide (16 < (↑(List.length ds) : Int)) = false) (ob1 (hz) ob0)))))
      | true =>
        have l0 := check_loop0 es ds mk mn mv mtk mtv mtl ml h1 zn es 0 [] rfl o2 .nil
        have l1 := check_loop1 es ds mk mn mv mtk mtv mtl ml h2 ds 0 zn [] rfl o4 (hzb.2.2 rfl) hzb.2.1 .nil
        rcases l0 with ⟨m', hm', l0⟩ | l0
        · clear hm'
          rcases l1 with ⟨hV, l1⟩ | l1
          · have hd : ∀ d ∈ ds, d.ok ∧ d.param.V ∧ d.result.V := fun d hd => ⟨o4 d hd, (hV d hd).1, (hV d hd).2.1⟩
            have hall := type_all es ds mk mn mv mtk mtv mtl ml (by omega) (by omega) hd
            have hT := fun d (hd' : d ∈ ds) => (show TypeOk ⟨es, ds, .mk mk mn mv (.mk mtk mtv mtl) ml⟩ d.body [d.param] from by
              obtain ⟨n, n0, n1, n2⟩ := (hV d hd').2.2
              exact hall d.body [d.param] 30 n (o4 d hd').2.2.2 n2 (by omega) (by omega) (by simp) (fun t ht => by
                simp only [List.mem_singleton] at ht; subst ht; exact ⟨(o4 d hd').2.1, (hV d hd').1⟩))
            have l2 := check_loop2 es ds mk mn mv mtk mtv mtl ml h2 o4 ds 0 rfl (fun d hd' => ⟨hT d hd', tImp_ok _ (fun d h => (hd d h).1) d.body _ (o4 d hd').2.2.2 (fun t ht => by
              simp only [List.mem_singleton] at ht; subst ht; exact (o4 d hd').2.1)⟩)
            have hM : TypeOk ⟨es, ds, .mk mk mn mv (.mk mtk mtv mtl) ml⟩ (.mk mk mn mv (.mk mtk mtv mtl) ml) [] :=
              hall _ [] 30 400 o5 (by rw [hzz]) (by omega) (by omega) (by simp) (by simp)
            have hMV := tImp_V ⟨es, ds, .mk mk mn mv (.mk mtk mtv mtl) ml⟩ (fun d h => (hd d h).2) (.mk mk mn mv (.mk mtk mtv mtl) ml) [] (by simp)
            unfold TypeOk at hM
            rcases l2 with ⟨hB, l2⟩ | l2
            · have hval : ∀ k w l, tImp ⟨es, ds, .mk mk mn mv (.mk mtk mtv mtl) ml⟩ (.mk mk mn mv (.mk mtk mtv mtl) ml) [] = (.mk k w l, true) → k = 0 → Valid ⟨es, ds, .mk mk mn mv (.mk mtk mtv mtl) ml⟩ := fun k w l e hk => by
                rw [e] at hMV
                have hv := V_kd0 (hMV rfl) hk
                refine ⟨h1, h2, ⟨fun d hd' => ⟨hB d hd', ?_, (o4 d hd').2.2.2⟩, fun d hd' => (hd d hd').2, by simp only; omega⟩, o4, o5, by rw [hzz], w, hv.1, hv.2.1, ?_⟩
                · obtain ⟨n, n0, n1, n2⟩ := (hV d hd').2.2
                  have := szC_le n0 n2
                  omega
                · rw [e, hk, hv.2.2]; rfl
              clear hB hMV hT hall hd hV o2 o4 o5 o1 o3 hzz hzb
              generalize tImp ⟨es, ds, .mk mk mn mv (.mk mtk mtv mtl) ml⟩ (.mk mk mn mv (.mk mtk mtv mtl) ml) [] = T at hM hval
              obtain ⟨⟨tk, tv, tl⟩, tb⟩ := T
              cases tb with
              | false =>
                refine ⟨false, ?_, fun h => by cases h⟩
                clear hval
                exact Fn.go KT Try.func47 [.reg [] [], .reg [] [], .reg [] [(2, .int (↑(List.length es) : Int)), (3, .bit false), (7, .int (↑(List.length ds) : Int)), (8, .bit false), (13, .call (B true) [.cells [I (Prod.snd (true, zn))] []])], .reg [] [], .reg [] [(2, .int (↑(List.length es) : Int))], .loop [.keep [(2, []), (3, []), (5, []), (6, []), (35, []), (36, []), (37, [])]] (Exit.exit 0) { tm := lookT [(2, AV.lp 0 0), (3, AV.lp 1 0), (5, AV.lp 2 0), (6, AV.mp 3)], st := [.cells [B false] [], .cells (Prog.enc { events := es, defs := ds, main := Expr.mk mk mn mv (Ty.mk mtk mtv mtl) ml }) [], .cells [I zn] [], .map m'] }, .reg [] [], .reg [] [(2, .int (↑(List.length ds) : Int))], .loop [.keep [(2, []), (3, []), (5, []), (6, []), (54, []), (55, []), (56, [])]] (Exit.exit 2) { tm := lookT [(2, AV.lp 0 0), (3, AV.lp 1 0)], st := [.cells [B false] [], .cells (Prog.enc { events := es, defs := ds, main := Expr.mk mk mn mv (Ty.mk mtk mtv mtl) ml }) []] }, .reg [] [(2, .int (↑(List.length ds) : Int))], .loop [.keep [(2, []), (3, []), (95, []), (96, []), (97, [])]] (Exit.exit 4) { tm := lookT [(2, AV.lp 0 0), (3, AV.lp 1 0)], st := [.cells [B false] [], .cells (Prog.enc { events := es, defs := ds, main := Expr.mk mk mn mv (Ty.mk mtk mtv mtl) ml }) []] }, .reg [] [(4, .call (AV.tup [AV.agg [I tk, I tv, AV.sl 3 (Ty.encs tl) false], B false]) [])], .reg [] []] [] [] (B false) ([]) (by kernel_rfl) (q ((↑(List.length (strs es)) : Int) = (↑(List.length es) : Int)) (q (decide (16 < (↑(List.length es) : Int)) = false) (q ((↑(List.length (Def.encs ds)) : Int) = (↑(List.length ds) : Int)) (q (decide (16 < (↑(List.length ds) : Int)) = false) (ob1 (hz) (q ((↑(List.length (strs es)) : Int) = (↑(List.length es) : Int)) (ob1 (l0) (q ((↑(List.length (Def.encs ds)) : Int) = (↑(List.length ds) : Int)) (ob1 (l1) (q ((↑(List.length (Def.encs ds)) : Int) = (↑(List.length ds) : Int)) (ob1 (l2) (ob1 (hM) ob0))))))))))))
              | true =>
                by_cases hk : tk = 0
                · refine ⟨true, ?_, fun _ => hval _ _ _ rfl hk⟩
                  clear hval
                  exact Fn.go KT Try.func47 [.reg [] [], .reg [] [], .reg [] [(2, .int (↑(List.length es) : Int)), (3, .bit false), (7, .int (↑(List.length ds) : Int)), (8, .bit false), (13, .call (B true) [.cells [I (Prod.snd (true, zn))] []])], .reg [] [], .reg [] [(2, .int (↑(List.length es) : Int))], .loop [.keep [(2, []), (3, []), (5, []), (6, []), (35, []), (36, []), (37, [])]] (Exit.exit 0) { tm := lookT [(2, AV.lp 0 0), (3, AV.lp 1 0), (5, AV.lp 2 0), (6, AV.mp 3)], st := [.cells [B false] [], .cells (Prog.enc { events := es, defs := ds, main := Expr.mk mk mn mv (Ty.mk mtk mtv mtl) ml }) [], .cells [I zn] [], .map m'] }, .reg [] [], .reg [] [(2, .int (↑(List.length ds) : Int))], .loop [.keep [(2, []), (3, []), (5, []), (6, []), (54, []), (55, []), (56, [])]] (Exit.exit 2) { tm := lookT [(2, AV.lp 0 0), (3, AV.lp 1 0)], st := [.cells [B false] [], .cells (Prog.enc { events := es, defs := ds, main := Expr.mk mk mn mv (Ty.mk mtk mtv mtl) ml }) []] }, .reg [] [(2, .int (↑(List.length ds) : Int))], .loop [.keep [(2, []), (3, []), (95, []), (96, []), (97, [])]] (Exit.exit 4) { tm := lookT [(2, AV.lp 0 0), (3, AV.lp 1 0)], st := [.cells [B false] [], .cells (Prog.enc { events := es, defs := ds, main := Expr.mk mk mn mv (Ty.mk mtk mtv mtl) ml }) []] }, .reg [] [(4, .call (AV.tup [AV.agg [I tk, I tv, AV.sl 3 (Ty.encs tl) false], B true]) [])], .reg [] [(4, .bit true)]] [] [] (B true) ([]) (by kernel_rfl) (q ((↑(List.length (strs es)) : Int) = (↑(List.length es) : Int)) (q (decide (16 < (↑(List.length es) : Int)) = false) (q ((↑(List.length (Def.encs ds)) : Int) = (↑(List.length ds) : Int)) (q (decide (16 < (↑(List.length ds) : Int)) = false) (ob1 (hz) (q ((↑(List.length (strs es)) : Int) = (↑(List.length es) : Int)) (ob1 (l0) (q ((↑(List.length (Def.encs ds)) : Int) = (↑(List.length ds) : Int)) (ob1 (l1) (q ((↑(List.length (Def.encs ds)) : Int) = (↑(List.length ds) : Int)) (ob1 (l2) (ob1 (hM) (q ((tk == 0) = true) ob0)))))))))))))
                · refine ⟨false, ?_, fun h => by cases h⟩
                  clear hval
                  exact Fn.go KT Try.func47 [.reg [] [], .reg [] [], .reg [] [(2, .int (↑(List.length es) : Int)), (3, .bit false), (7, .int (↑(List.length ds) : Int)), (8, .bit false), (13, .call (B true) [.cells [I (Prod.snd (true, zn))] []])], .reg [] [], .reg [] [(2, .int (↑(List.length es) : Int))], .loop [.keep [(2, []), (3, []), (5, []), (6, []), (35, []), (36, []), (37, [])]] (Exit.exit 0) { tm := lookT [(2, AV.lp 0 0), (3, AV.lp 1 0), (5, AV.lp 2 0), (6, AV.mp 3)], st := [.cells [B false] [], .cells (Prog.enc { events := es, defs := ds, main := Expr.mk mk mn mv (Ty.mk mtk mtv mtl) ml }) [], .cells [I zn] [], .map m'] }, .reg [] [], .reg [] [(2, .int (↑(List.length ds) : Int))], .loop [.keep [(2, []), (3, []), (5, []), (6, []), (54, []), (55, []), (56, [])]] (Exit.exit 2) { tm := lookT [(2, AV.lp 0 0), (3, AV.lp 1 0)], st := [.cells [B false] [], .cells (Prog.enc { events := es, defs := ds, main := Expr.mk mk mn mv (Ty.mk mtk mtv mtl) ml }) []] }, .reg [] [(2, .int (↑(List.length ds) : Int))], .loop [.keep [(2, []), (3, []), (95, []), (96, []), (97, [])]] (Exit.exit 4) { tm := lookT [(2, AV.lp 0 0), (3, AV.lp 1 0)], st := [.cells [B false] [], .cells (Prog.enc { events := es, defs := ds, main := Expr.mk mk mn mv (Ty.mk mtk mtv mtl) ml }) []] }, .reg [] [(4, .call (AV.tup [AV.agg [I tk, I tv, AV.sl 3 (Ty.encs tl) false], B true]) [])], .reg [] [(4, .bit false)]] [] [] (B false) ([]) (by kernel_rfl) (q ((↑(List.length (strs es)) : Int) = (↑(List.length es) : Int)) (q (decide (16 < (↑(List.length es) : Int)) = false) (q ((↑(List.length (Def.encs ds)) : Int) = (↑(List.length ds) : Int)) (q (decide (16 < (↑(List.length ds) : Int)) = false) (ob1 (hz) (q ((↑(List.length (strs es)) : Int) = (↑(List.length es) : Int)) (ob1 (l0) (q ((↑(List.length (Def.encs ds)) : Int) = (↑(List.length ds) : Int)) (ob1 (l1) (q ((↑(List.length (Def.encs ds)) : Int) = (↑(List.length ds) : Int)) (ob1 (l2) (ob1 (hM) (q ((tk == 0) = false) ob0)))))))))))))
            · refine ⟨false, ?_, fun h => by cases h⟩
              clear hMV hT hall hd hV o2 o4 o5 o1 o3 hzz hzb hM
              exact Fn.go KT Try.func47 [.reg [] [], .reg [] [], .reg [] [(2, .int (↑(List.length es) : Int)), (3, .bit false), (7, .int (↑(List.length ds) : Int)), (8, .bit false), (13, .call (B true) [.cells [I (Prod.snd (true, zn))] []])], .reg [] [], .reg [] [(2, .int (↑(List.length es) : Int))], .loop [.keep [(2, []), (3, []), (5, []), (6, []), (35, []), (36, []), (37, [])]] (Exit.exit 0) { tm := lookT [(2, AV.lp 0 0), (3, AV.lp 1 0), (5, AV.lp 2 0), (6, AV.mp 3)], st := [.cells [B false] [], .cells (Prog.enc { events := es, defs := ds, main := Expr.mk mk mn mv (Ty.mk mtk mtv mtl) ml }) [], .cells [I zn] [], .map m'] }, .reg [] [], .reg [] [(2, .int (↑(List.length ds) : Int))], .loop [.keep [(2, []), (3, []), (5, []), (6, []), (54, []), (55, []), (56, [])]] (Exit.exit 2) { tm := lookT [(2, AV.lp 0 0), (3, AV.lp 1 0)], st := [.cells [B false] [], .cells (Prog.enc { events := es, defs := ds, main := Expr.mk mk mn mv (Ty.mk mtk mtv mtl) ml }) []] }, .reg [] [(2, .int (↑(List.length ds) : Int))], .loop [.keep [(2, []), (3, []), (95, []), (96, []), (97, [])]] Exit.ret { tm := lookT [(4, B false)], st := [] }] [] [] (B false) ([]) (by kernel_rfl) (q ((↑(List.length (strs es)) : Int) = (↑(List.length es) : Int)) (q (decide (16 < (↑(List.length es) : Int)) = false) (q ((↑(List.length (Def.encs ds)) : Int) = (↑(List.length ds) : Int)) (q (decide (16 < (↑(List.length ds) : Int)) = false) (ob1 (hz) (q ((↑(List.length (strs es)) : Int) = (↑(List.length es) : Int)) (ob1 (l0) (q ((↑(List.length (Def.encs ds)) : Int) = (↑(List.length ds) : Int)) (ob1 (l1) (q ((↑(List.length (Def.encs ds)) : Int) = (↑(List.length ds) : Int)) (ob1 (l2) ob0)))))))))))
          · refine ⟨false, ?_, fun h => by cases h⟩
            clear o2 o4 o5 o1 o3 hzz hzb
            exact Fn.go KT Try.func47 [.reg [] [], .reg [] [], .reg [] [(2, .int (↑(List.length es) : Int)), (3, .bit false), (7, .int (↑(List.length ds) : Int)), (8, .bit false), (13, .call (B true) [.cells [I (Prod.snd (true, zn))] []])], .reg [] [], .reg [] [(2, .int (↑(List.length es) : Int))], .loop [.keep [(2, []), (3, []), (5, []), (6, []), (35, []), (36, []), (37, [])]] (Exit.exit 0) { tm := lookT [(2, AV.lp 0 0), (3, AV.lp 1 0), (5, AV.lp 2 0), (6, AV.mp 3)], st := [.cells [B false] [], .cells (Prog.enc { events := es, defs := ds, main := Expr.mk mk mn mv (Ty.mk mtk mtv mtl) ml }) [], .cells [I zn] [], .map m'] }, .reg [] [], .reg [] [(2, .int (↑(List.length ds) : Int))], .loop [.keep [(2, []), (3, []), (5, []), (6, []), (54, []), (55, []), (56, [])]] Exit.ret { tm := lookT [(4, B false)], st := [] }] [] [] (B false) ([]) (by kernel_rfl) (q ((↑(List.length (strs es)) : Int) = (↑(List.length es) : Int)) (q (decide (16 < (↑(List.length es) : Int)) = false) (q ((↑(List.length (Def.encs ds)) : Int) = (↑(List.length ds) : Int)) (q (decide (16 < (↑(List.length ds) : Int)) = false) (ob1 (hz) (q ((↑(List.length (strs es)) : Int) = (↑(List.length es) : Int)) (ob1 (l0) (q ((↑(List.length (Def.encs ds)) : Int) = (↑(List.length ds) : Int)) (ob1 (l1) ob0)))))))))
        · refine ⟨false, ?_, fun h => by cases h⟩
          clear l1 o2 o4 o5 o1 o3 hzz hzb
          exact Fn.go KT Try.func47 [.reg [] [], .reg [] [], .reg [] [(2, .int (↑(List.length es) : Int)), (3, .bit false), (7, .int (↑(List.length ds) : Int)), (8, .bit false), (13, .call (B true) [.cells [I (Prod.snd (true, zn))] []])], .reg [] [], .reg [] [(2, .int (↑(List.length es) : Int))], .loop [.keep [(2, []), (3, []), (5, []), (6, []), (35, []), (36, []), (37, [])]] Exit.ret { tm := lookT [(4, B false)], st := [] }] [] [] (B false) ([]) (by kernel_rfl) (q ((↑(List.length (strs es)) : Int) = (↑(List.length es) : Int)) (q (decide (16 < (↑(List.length es) : Int)) = false) (q ((↑(List.length (Def.encs ds)) : Int) = (↑(List.length ds) : Int)) (q (decide (16 < (↑(List.length ds) : Int)) = false) (ob1 (hz) (q ((↑(List.length (strs es)) : Int) = (↑(List.length es) : Int)) (ob1 (l0) ob0)))))))
    · refine ⟨false, ?_, fun h => by cases h⟩
      clear o2 o4 o5
      exact Fn.go KT Try.func47 [.reg [] [], .reg [] [], .reg [] [(2, .int (↑(List.length es) : Int)), (3, .bit false), (7, .int (↑(List.length ds) : Int)), (8, .bit true)], .reg [] []] [] [] (B false) ([]) (by kernel_rfl) (q ((↑(List.length (strs es)) : Int) = (↑(List.length es) : Int)) (q (decide (16 < (↑(List.length es) : Int)) = false) (q ((↑(List.length (Def.encs ds)) : Int) = (↑(List.length ds) : Int)) (q (decide (16 < (↑(List.length ds) : Int)) = true) ob0))))
  · refine ⟨false, ?_, fun h => by cases h⟩
    clear o2 o4 o5
    exact Fn.go KT Try.func47 [.reg [] [], .reg [] [], .reg [] [(2, .int (↑(List.length es) : Int)), (3, .bit true)], .reg [] []] [] [] (B false) ([]) (by kernel_rfl) (q ((↑(List.length (strs es)) : Int) = (↑(List.length es) : Int)) (q (decide (16 < (↑(List.length es) : Int)) = true) ob0))

theorem lplain_ : SoundCall Try.prog 46 [] [] (.agg [B false]) [] := by
  exact Fn.go KT Try.func46 [.reg [] [], .reg [] []] [] [] (AV.agg [B false]) ([]) (by kernel_rfl) ob0

theorem lcheck_ (p : Prog) (hok : p.ok) : ∃ e : Int, SoundCall Try.prog 23 [.agg p.enc] [] (I e) [] ∧ (e = 0 ∨ e = 15) ∧ (e = 0 → Valid p) := by
  obtain ⟨b, h, hv⟩ := check_ p hok
  obtain ⟨es, ds, mk, mn, mv, ⟨mtk, mtv, mtl⟩, ml⟩ := p
  have hp := lplain_
  cases b with
  | false =>
    refine ⟨15, ?_, .inr rfl, fun h => by omega⟩
    clear hv hok
    exact Fn.go KT Try.func23 [.reg [] [], .reg [] [(0, .call (AV.agg [B false]) []), (2, .call (B false) [])], .reg [] []] [] [] (I 15) ([]) (by kernel_rfl) (ob1 (hp) (ob1 (h) ob0))
  | true =>
    refine ⟨0, ?_, .inl rfl, fun _ => hv rfl⟩
    clear hv hok
    exact Fn.go KT Try.func23 [.reg [] [], .reg [] [(0, .call (AV.agg [B false]) []), (2, .call (B true) [])], .reg [] []] [] [] (I 0) ([]) (by kernel_rfl) (ob1 (hp) (ob1 (h) ob0))

end Go.Ae

/- eval.Do. -/
namespace Go.Ae
open Go.Proofs

/-- Where a run begins. -/
def start (p : Prog) : MS := ⟨0, [], [], some p.main, [], vZ, 0⟩

theorem Valid.inv {p : Prog} (hv : Valid p) {fuel : Int} (hf : 0 ≤ fuel) (ch : List Int) : ∃ k : Int, 1 ≤ k ∧ k ≤ 4 ∧ tImp p p.main [] = (tyF k, true) ∧ Inv p (tyF k) fuel ch (start p) := by
  obtain ⟨k, h1, h2, h3⟩ := hv.mty
  have hn : p.main.nodes ≤ 400 := by have := szC_le (by omega) hv.msz; omega
  refine ⟨k, h1, h2, h3, ⟨⟨_, ⟨[], .nil, h3, hn, hv.mok⟩, .nil⟩, by simp [start], hf, ?_, by simp [start], by simp [start], by simp [start]⟩⟩
  simp only [MS.psi, start, pends, nodesO]
  simp
  omega

theorem Valid.run {p : Prog} (hv : Valid p) {fuel : Int} (hf : 0 ≤ fuel) (ch : List Int) : ∃ s' en value width wrong, MRun p fuel ch (start p) s' en value width wrong := by
  obtain ⟨k, _, _, _, hi⟩ := hv.inv hf ch
  exact run_ex hv.pt _ hi

theorem mrun_ {p : Prog} (hv : Valid p) {fuel : Int} (hf : 0 ≤ fuel) (hf2 : fuel ≤ 1048576) {ch : List Int} (hc : ch.length ≤ 4294967296) {s' : MS} {en value width : Int} {wrong : Bool} (h : MRun p fuel ch (start p) s' en value width wrong) :
    SoundCall Try.prog 49 [.lp 0 0] [Mc0 fuel p 1, lists ch 0 0] (.lp 0 0) (objsR p fuel ch s' en value width wrong) := by
  obtain ⟨k, _, _, _, hi⟩ := hv.inv hf ch
  have lp := run_lp hv.pt hf2 hc h hi
  obtain ⟨es, ds, mk, mn, mv, ⟨mtk, mtv, mtl⟩, ml⟩ := p
  obtain ⟨st2, ev2, fr2, e2, env2, ⟨vn, vf, vl, ve⟩, us2⟩ := s'
  exact run0 fuel es ds mk mn mv mtk mtv mtl ml ch st2 _ _ e2 env2 vn vf vl ve us2 en value width wrong lp

theorem srun_true {p : Prog} (hv : Valid p) {fuel : Int} (hf : 0 ≤ fuel) (hf2 : fuel ≤ 1048576) {ch : List Int} (hc : ch.length ≤ 4294967296) {s' : MS} {en value width : Int} (h : MRun p fuel ch (start p) s' en value width false) :
    SoundCall Try.prog 24 [.agg p.enc, .lp 0 0, I fuel] [lists ch 0 0] (.tup [.agg [.sl 1 (ints s'.ev) false, I s'.used, I en, I value], B true]) [lists ch s'.used width] := by
  have hm := mrun_ hv hf hf2 hc h
  obtain ⟨es, ds, mk, mn, mv, ⟨mtk, mtv, mtl⟩, ml⟩ := p
  obtain ⟨st2, ev2, fr2, e2, env2, ⟨vn, vf, vl, ve⟩, us2⟩ := s'
  exact srun_ok fuel es ds mk mn mv mtk mtv mtl ml ch st2 ev2 _ e2 env2 vn vf vl ve us2 en value width hm

theorem srun_false {p : Prog} (hv : Valid p) {fuel : Int} (hf : 0 ≤ fuel) (hf2 : fuel ≤ 1048576) {ch : List Int} (hc : ch.length ≤ 4294967296) {s' : MS} {en value width : Int} (h : MRun p fuel ch (start p) s' en value width true) :
    SoundCall Try.prog 24 [.agg p.enc, .lp 0 0, I fuel] [lists ch 0 0] (.tup [.agg [.sl 1 [] false, I 0, I 0, I 0], B false]) [lists ch s'.used width] := by
  have hm := mrun_ hv hf hf2 hc h
  obtain ⟨es, ds, mk, mn, mv, ⟨mtk, mtv, mtl⟩, ml⟩ := p
  obtain ⟨st2, ev2, fr2, e2, env2, ⟨vn, vf, vl, ve⟩, us2⟩ := s'
  exact srun_bad fuel es ds mk mn mv mtk mtv mtl ml ch st2 _ _ e2 env2 vn vf vl ve us2 en value width hm

/-- What Check answers. -/
noncomputable def chkE (p : Prog) (hok : p.ok) : Int := Classical.choose (lcheck_ p hok)
theorem chkE_spec (p : Prog) (hok : p.ok) : SoundCall Try.prog 23 [.agg p.enc] [] (I (chkE p hok)) [] ∧ (chkE p hok = 0 ∨ chkE p hok = 15) ∧ (chkE p hok = 0 → Valid p) := Classical.choose_spec (lcheck_ p hok)

section
variable (es : List ByteArray) (ds : List Def) (mk mn mv mtk mtv : Int) (mtl : List Ty) (ml : List Expr) (ch : List Int) (fuel : Int)

theorem do_bad (hc : SoundCall Try.prog 23 [.agg (Prog.enc ⟨es, ds, .mk mk mn mv (.mk mtk mtv mtl) ml⟩)] [] (I 15) []) :
    SoundCall Try.prog 12 [.agg (Prog.enc ⟨es, ds, .mk mk mn mv (.mk mtk mtv mtl) ml⟩), .sl 1 (ints ch) false, I fuel] [] (.tup [.agg [.sl 1 [] false, I 0, I 0, I 0], I 15]) [] := by
  exact Fn.go KT Try.func12 [.reg [] [], .reg [] [(1, .call (I 15) [])], .reg [] [], .reg [] []] [.tidO 1 [some 1, none, none, none]] [] (AV.tup [AV.agg [AV.sl 1 [] false, I 0, I 0, I 0], I 15]) ([]) (by kernel_rfl) (ob1 (hc) ob0)

theorem do_arg (hc : SoundCall Try.prog 23 [.agg (Prog.enc ⟨es, ds, .mk mk mn mv (.mk mtk mtv mtl) ml⟩)] [] (I 0) []) (h : fuel < 0 ∨ 1048576 < fuel ∨ 4096 < ch.length) :
    SoundCall Try.prog 12 [.agg (Prog.enc ⟨es, ds, .mk mk mn mv (.mk mtk mtv mtl) ml⟩), .sl 1 (ints ch) false, I fuel] [] (.tup [.agg [.sl 1 [] false, I 0, I 0, I 0], I 2]) [] := by
  rcases dsp (fuel < 0) with ⟨hb1, hb1'⟩ | ⟨hb1, hb1'⟩
  · skip
    exact Fn.go KT Try.func12 [.reg [] [], .reg [] [(1, .call (I 0) [])], .reg [] [], .reg [] [(1, .bit true)], .reg [] []] [.tidO 1 [some 1, none, none, none]] [] (AV.tup [AV.agg [AV.sl 1 [] false, I 0, I 0, I 0], I 2]) ([]) (by kernel_rfl) (ob1 (hc) (q (decide (fuel < 0) = true) ob0))
  · skip
    rcases dsp (1048576 < fuel) with ⟨hb2, hb2'⟩ | ⟨hb2, hb2'⟩
    · skip
      exact Fn.go KT Try.func12 [.reg [] [], .reg [] [(1, .call (I 0) [])], .reg [] [], .reg [] [(1, .bit false), (4, .bit true)], .reg [] []] [.tidO 1 [some 1, none, none, none]] [] (AV.tup [AV.agg [AV.sl 1 [] false, I 0, I 0, I 0], I 2]) ([]) (by kernel_rfl) (ob1 (hc) (q (decide (fuel < 0) = false) (q (decide (1048576 < fuel) = true) ob0)))
    · skip
      exact Fn.go KT Try.func12 [.reg [] [], .reg [] [(1, .call (I 0) [])], .reg [] [], .reg [] [(1, .bit false), (4, .bit false), (8, .int (↑(List.length ch) : Int)), (9, .bit true)], .reg [] []] [.tidO 1 [some 1, none, none, none]] [] (AV.tup [AV.agg [AV.sl 1 [] false, I 0, I 0, I 0], I 2]) ([]) (by kernel_rfl) (ob1 (hc) (q (decide (fuel < 0) = false) (q (decide (1048576 < fuel) = false) (q ((↑(List.length (ints ch)) : Int) = (↑(List.length ch) : Int)) (q (decide (4096 < (↑(List.length ch) : Int)) = true) ob0)))))

theorem do_wrong (hc : SoundCall Try.prog 23 [.agg (Prog.enc ⟨es, ds, .mk mk mn mv (.mk mtk mtv mtl) ml⟩)] [] (I 0) []) (h0 : 0 ≤ fuel) (h1 : fuel ≤ 1048576) (h2 : ch.length ≤ 4096) (us width : Int)
    (hr : SoundCall Try.prog 24 [.agg (Prog.enc ⟨es, ds, .mk mk mn mv (.mk mtk mtv mtl) ml⟩), .lp 0 0, I fuel] [lists ch 0 0] (.tup [.agg [.sl 1 [] false, I 0, I 0, I 0], B false]) [lists ch us width]) :
    SoundCall Try.prog 12 [.agg (Prog.enc ⟨es, ds, .mk mk mn mv (.mk mtk mtv mtl) ml⟩), .sl 1 (ints ch) false, I fuel] [] (.tup [.agg [.sl 1 [] false, I 0, I 0, I 0], I 2]) [] := by
  exact Fn.go KT Try.func12 [.reg [] [], .reg [] [(1, .call (I 0) [])], .reg [] [], .reg [] [(1, .bit false), (4, .bit false), (8, .int (↑(List.length ch) : Int)), (9, .bit false)], .reg [] [(5, .call (AV.tup [AV.agg [AV.sl 1 [] false, I 0, I 0, I 0], B false]) [.cells [AV.sl 1 (ints ch) false, AV.nil, I us, I 0, I width] []])], .reg [] [], .reg [] []] [.tidO 1 [some 1, none, none, none]] [] (AV.tup [AV.agg [AV.sl 1 [] false, I 0, I 0, I 0], I 2]) ([]) (by kernel_rfl) (ob1 (hc) (q (decide (fuel < 0) = false) (q (decide (1048576 < fuel) = false) (q ((↑(List.length (ints ch)) : Int) = (↑(List.length ch) : Int)) (q (decide (4096 < (↑(List.length ch) : Int)) = false) (ob1 (hr) ob0))))))

theorem do_fine (hc : SoundCall Try.prog 23 [.agg (Prog.enc ⟨es, ds, .mk mk mn mv (.mk mtk mtv mtl) ml⟩)] [] (I 0) []) (h0 : 0 ≤ fuel) (h1 : fuel ≤ 1048576) (h2 : ch.length ≤ 4096) (us width en value : Int) (ev : List Int)
    (hr : SoundCall Try.prog 24 [.agg (Prog.enc ⟨es, ds, .mk mk mn mv (.mk mtk mtv mtl) ml⟩), .lp 0 0, I fuel] [lists ch 0 0] (.tup [.agg [.sl 1 (ints ev) false, I us, I en, I value], B true]) [lists ch us width]) :
    SoundCall Try.prog 12 [.agg (Prog.enc ⟨es, ds, .mk mk mn mv (.mk mtk mtv mtl) ml⟩), .sl 1 (ints ch) false, I fuel] [] (.tup [.agg [.sl 1 (ints ev) false, I us, I en, I value], I 0]) [] := by
  exact Fn.go KT Try.func12 [.reg [] [], .reg [] [(1, .call (I 0) [])], .reg [] [], .reg [] [(1, .bit false), (4, .bit false), (8, .int (↑(List.length ch) : Int)), (9, .bit false)], .reg [] [(5, .call (AV.tup [AV.agg [AV.sl 1 (ints ev) false, I us, I en, I value], B true]) [.cells [AV.sl 1 (ints ch) false, AV.nil, I us, I 0, I width] []])], .reg [] [], .reg [] []] [.tidO 1 [some 1, none, none, none]] [] (AV.tup [AV.agg [AV.sl 1 (ints ev) false, I us, I en, I value], I 0]) ([]) (by kernel_rfl) (ob1 (hc) (q (decide (fuel < 0) = false) (q (decide (1048576 < fuel) = false) (q ((↑(List.length (ints ch)) : Int) = (↑(List.length ch) : Int)) (q (decide (4096 < (↑(List.length ch) : Int)) = false) (ob1 (hr) ob0))))))
end

/-- What Do answers. -/
inductive DoR (p : Prog) (hok : p.ok) (ch : List Int) (fuel : Int) : List Int → Int → Int → Int → Int → Prop
  | bad (h : chkE p hok = 15) : DoR p hok ch fuel [] 0 0 0 15
  | arg (h : chkE p hok = 0) (h2 : fuel < 0 ∨ 1048576 < fuel ∨ 4096 < ch.length) : DoR p hok ch fuel [] 0 0 0 2
  | wrong {s' en value width} (h : chkE p hok = 0) (h0 : 0 ≤ fuel) (h1 : fuel ≤ 1048576) (h2 : ch.length ≤ 4096) (hr : MRun p fuel ch (start p) s' en value width true) : DoR p hok ch fuel [] 0 0 0 2
  | fine {s' en value width} (h : chkE p hok = 0) (h0 : 0 ≤ fuel) (h1 : fuel ≤ 1048576) (h2 : ch.length ≤ 4096) (hr : MRun p fuel ch (start p) s' en value width false) : DoR p hok ch fuel s'.ev s'.used en value 0

theorem do_ex (p : Prog) (hok : p.ok) (ch : List Int) (fuel : Int) : ∃ ev us en value e, DoR p hok ch fuel ev us en value e := by
  obtain ⟨_, h2, h3⟩ := chkE_spec p hok
  rcases h2 with h2 | h2
  · by_cases h : fuel < 0 ∨ 1048576 < fuel ∨ 4096 < ch.length
    · exact ⟨_, _, _, _, _, .arg h2 h⟩
    · obtain ⟨s', en, value, width, wrong, hr⟩ := (h3 h2).run (show 0 ≤ fuel by omega) ch
      cases wrong with
      | true => exact ⟨_, _, _, _, _, .wrong h2 (by omega) (by omega) (by omega) hr⟩
      | false => exact ⟨_, _, _, _, _, .fine h2 (by omega) (by omega) (by omega) hr⟩
  · exact ⟨_, _, _, _, _, .bad h2⟩

theorem do_ {p : Prog} {hok : p.ok} {ch : List Int} {fuel : Int} {ev : List Int} {us en value e : Int} (h : DoR p hok ch fuel ev us en value e) :
    SoundCall Try.prog 12 [.agg p.enc, .sl 1 (ints ch) false, I fuel] [] (.tup [.agg [.sl 1 (ints ev) false, I us, I en, I value], I e]) [] := by
  obtain ⟨hc, _, hv⟩ := chkE_spec p hok
  cases h with
  | bad h =>
    rw [h] at hc
    obtain ⟨es, ds, mk, mn, mv, ⟨mtk, mtv, mtl⟩, ml⟩ := p
    exact do_bad es ds mk mn mv mtk mtv mtl ml ch fuel hc
  | arg h h2 =>
    rw [h] at hc
    obtain ⟨es, ds, mk, mn, mv, ⟨mtk, mtv, mtl⟩, ml⟩ := p
    exact do_arg es ds mk mn mv mtk mtv mtl ml ch fuel hc h2
  | @wrong s' en value width h h0 h1 h2 hr =>
    have hs := srun_false (hv h) h0 h1 (by omega) hr
    rw [h] at hc
    obtain ⟨es, ds, mk, mn, mv, ⟨mtk, mtv, mtl⟩, ml⟩ := p
    exact do_wrong es ds mk mn mv mtk mtv mtl ml ch fuel hc h0 h1 h2 _ _ hs
  | @fine s' en value width h h0 h1 h2 hr =>
    have hs := srun_true (hv h) h0 h1 (by omega) hr
    rw [h] at hc
    obtain ⟨es, ds, mk, mn, mv, ⟨mtk, mtv, mtl⟩, ml⟩ := p
    exact do_fine es ds mk mn mv mtk mtv mtl ml ch fuel hc h0 h1 h2 _ _ _ _ _ hs

end Go.Ae

/- The machine, plain: more fuel, more choices. -/
namespace Go.Ae

theorem Mv.mono {p : Prog} {fuel fuel2 : Int} {ch more : List Int} {s s' : MS} (h : Mv p fuel ch s (.go s')) (hf : fuel ≤ fuel2) : Mv p fuel2 (ch ++ more) s (.go s') := by
  generalize ho : Out.go s' = o at h
  have app : ∀ {i : Nat} {c : Int}, ch[i]? = some c → (ch ++ more)[i]? = some c := fun {i c} e => by
    rw [List.getElem?_append_left (List.getElem?_eq_some_iff.1 e).1]; exact e
  cases h with
  | const => exact .const
  | var h hn => exact .var h hn
  | fn h0 h1 => exact .fn h0 h1
  | lam => exact .lam
  | app hl => exact .app hl
  | lt hl => exact .lt hl
  | cs hl => exact .cs hl
  | fine hf1 hc h0 h1 => exact .fine (by omega) (app hc) h0 h1
  | event hf1 he hl => exact .event (by omega) he hl
  | arg => exact .arg
  | blet hf1 => exact .blet (by omega)
  | bcase hf1 hl hw => exact .bcase (by omega) hl hw
  | bfun hf1 hd => exact .bfun (by omega) hd
  | bclo hf1 => exact .bclo (by omega)
  | _ => cases ho

theorem Mv.grow {p : Prog} {fuel : Int} {ch : List Int} {s s' : MS} (h : Mv p fuel ch s (.go s')) : s.ev <+: s'.ev ∧ s.used ≤ s'.used := by
  generalize ho : Out.go s' = o at h
  cases h with
  | event => cases ho; exact ⟨List.prefix_append .., Nat.le_refl _⟩
  | fine => cases ho; exact ⟨List.prefix_refl _, Nat.le_succ _⟩
  | _ => first | (cases ho; done) | (cases ho; exact ⟨List.prefix_refl _, Nat.le_refl _⟩)

theorem MRun.grow {p : Prog} {fuel : Int} {ch : List Int} {s s' : MS} {en v w : Int} {b : Bool} (h : MRun p fuel ch s s' en v w b) : s.ev <+: s'.ev ∧ s.used ≤ s'.used := by
  induction h with
  | @stop s s' en value width wrong h =>
    have : s' = s := by cases h <;> rfl
    subst this
    exact ⟨List.prefix_refl _, Nat.le_refl _⟩
  | more h r ih => exact ⟨h.grow.1.trans ih.1, Nat.le_trans h.grow.2 ih.2⟩

theorem run_more {p : Prog} {fuel fuel2 : Int} {ch more : List Int} (hf : fuel ≤ fuel2) {s s1 s2 : MS} {en v w en2 v2 w2 : Int} {b b2 : Bool} (h : MRun p fuel ch s s1 en v w b) (hb : b = false) (k : MRun p fuel2 (ch ++ more) s s2 en2 v2 w2 b2) :
    s1.ev <+: s2.ev ∧ s1.used ≤ s2.used ∧ (en = 0 → s2 = s1 ∧ en2 = en ∧ v2 = v ∧ b2 = false) := by
  induction h generalizing s2 with
  | @stop s s' en value width wrong h =>
    subst hb
    have hs : s' = s := by cases h <;> rfl
    subst hs
    refine ⟨k.grow.1, k.grow.2, fun he => ?_⟩
    subst he
    have hd : Mv p fuel2 (ch ++ more) s' (.stop s' 0 value width false) := by
      generalize ho : Out.stop s' 0 value width false = o at h
      cases h with
      | done => exact .done
      | _ => cases ho
    obtain ⟨h1, h2, h3, h4, h5⟩ := k.det (.stop hd)
    exact ⟨h1, h2, h3, h5⟩
  | more h r ih =>
    cases k with
    | stop k => have := k.det (h.mono hf); cases this
    | more k r2 =>
      have := k.det (h.mono hf)
      cases this
      exact ih hb r2

/-- No choice is left: none is used, none is wrong. -/
theorem run_nopick {p : Prog} {fuel : Int} {ch : List Int} {s s1 : MS} {en v w : Int} {b : Bool} (h : MRun p fuel ch s s1 en v w b) (hu : ch.length ≤ s.used) : b = false ∧ s1.used = s.used := by
  induction h with
  | @stop s s' en value width wrong h =>
    generalize ho : Out.stop s' en value width wrong = o at h
    cases h with
    | wrong hf hc hw =>
      cases ho
      have := (List.getElem?_eq_some_iff.1 hc).1
      simp only at hu
      omega
    | _ => first | (cases ho; done) | (cases ho; exact ⟨rfl, rfl⟩)
  | @more s s1 s' en value width wrong h r ih =>
    have hs : s1.used = s.used := by
      generalize ho : Out.go s1 = o at h
      cases h with
      | fine hf hc h0 h1 =>
        cases ho
        have := (List.getElem?_eq_some_iff.1 hc).1
        simp only at hu
        omega
      | _ => first | (cases ho; done) | (cases ho; rfl)
    obtain ⟨h1, h2⟩ := ih (by omega)
    exact ⟨h1, by omega⟩

/-- A run that wants a choice, with that choice: it goes on, or the choice is out of its range. -/
theorem run_want {p : Prog} {fuel : Int} {ch : List Int} {s s1 : MS} {v w : Int} {b : Bool} {en : Int} (h : MRun p fuel ch s s1 en v w b) (he : en = 2) :
    s1.used = ch.length ∧ b = false ∧ ∀ c, 0 ≤ c → c < w → ∀ s2 en2 v2 w2 b2, MRun p fuel (ch ++ [c]) s s2 en2 v2 w2 b2 → s2.used = ch.length + 1 ∧ b2 = false := by
  induction h with
  | @stop s s' en value width wrong h =>
    subst he
    generalize ho : Out.stop s' 2 value width wrong = o at h
    cases h with
    | @want st ev fr n v ty l env val us hf hu =>
      cases ho
      refine ⟨hu, rfl, fun c h0 h1 s2 en2 v2 w2 b2 k => ?_⟩
      have hc : (ch ++ [c])[us]? = some c := by rw [hu]; simp
      have hm := Mv.fine (p := p) (ch := ch ++ [c]) (fr := fr) (ev := ev) (n := n) (ty := ty) (l := l) (env := env) (val := val) hf hc h0 h1
      cases k with
      | stop k => have := k.det hm; cases this
      | more k r =>
        have := k.det hm
        cases this
        obtain ⟨g1, g2⟩ := run_nopick r (by simp; omega)
        simp only at g2
        exact ⟨by omega, g1⟩
    | _ => cases ho
  | more h r ih =>
    obtain ⟨h1, h2, h3⟩ := ih he
    refine ⟨h1, h2, fun c h0 hw s2 en2 v2 w2 b2 k => ?_⟩
    cases k with
    | stop k => have := k.det (h.mono (Int.le_refl _)); cases this
    | more k r2 =>
      have := k.det (h.mono (Int.le_refl _))
      cases this
      exact h3 c h0 hw _ _ _ _ _ r2

end Go.Ae

/- The law EvalMore. -/
namespace Go.Ae
open Go.Proofs

theorem alive_ : SoundCall Try.prog 10 [] [] (.sc (.bool true)) [] := closed2 [(48, [.roO 2 18 9 7])] 300 60 (by kernel_rfl)

theorem far_ (n : Int) : SoundCall Try.prog 9 [I n] [] (B (decide (2000 < n) && decide (n ≤ 1048576))) [] := by
  rcases dsp (2000 < n) with ⟨hb1, hb1'⟩ | ⟨hb1, hb1'⟩
  · skip
    rcases dsp (n ≤ 1048576) with ⟨hb2, hb2'⟩ | ⟨hb2, hb2'⟩
    · skip
      exact Fn.go KT Try.func9 [.reg [] [], .reg [] [(1, .bit true), (4, .bit true)]] [] [] (B true) ([]) (by kernel_rfl) (q (decide (2000 < n) = true) (q (decide (n ≤ 1048576) = true) ob0))
    · skip
      exact Fn.go KT Try.func9 [.reg [] [], .reg [] [(1, .bit true), (4, .bit false)]] [] [] (B false) ([]) (by kernel_rfl) (q (decide (2000 < n) = true) (q (decide (n ≤ 1048576) = false) ob0))
  · skip
    exact Fn.go KT Try.func9 [.reg [] [], .reg [] [(1, .bit false)]] [] [] (B false) ([]) (by kernel_rfl) (q (decide (2000 < n) = false) ob0)

theorem sameInts_loop (us ws : List Int) (hn : us.length ≤ 281474976710656) (hl : us.length = ws.length) : ∀ (us' ws' : List Int) (i : Nat), us.drop i = us' → ws.drop i = ws' →
    Lp Try.prog 26 0 (loopN Try.f14 0) ⟨lookT [(0, .sl 1 (ints us) false), (1, .sl 1 (ints ws) false), (12, I (us.length : Int)), (13, I (i : Int))], []⟩
      (bif decide (us' = ws') then .exit 0 else .ret) (bif decide (us' = ws') then ⟨lookT [], []⟩ else ⟨lookT [(4, B false)], []⟩)
  | [], ws', i, h1, h2 => by
    have hi := drop_end h1
    have : ws' = [] := by rw [← h2, List.drop_eq_nil_iff]; omega
    subst this
    clear h1 h2
    simp only [decide_true, cond_true]
    exact Lp.last KT [.reg [] [(0, .bit false)]] [.keep []] (by kernel_rfl) (q (decide ((↑i : Int) < (↑(List.length us) : Int)) = false) ob0) (by intro h; cases h)
  | u :: us', [], i, h1, h2 => by
    have := drop_lt h1
    have := drop_end h2
    omega
  | u :: us', w :: ws', i, h1, h2 => by
    have hi := drop_lt h1
    have hi2 := drop_lt h2
    have hx : (ints us)[i]? = some [I u] := by rw [ints_get, drop_get h1]; rfl
    have hy : (ints ws)[i]? = some [I w] := by rw [ints_get, drop_get h2]; rfl
    have ih := sameInts_loop us ws hn hl us' ws' (i + 1) (drop_next h1) (drop_next h2)
    clear h1 h2
    simp only [Int.natCast_add] at ih
    by_cases h : u = w
    · subst h
      have e : decide (u :: us' = u :: ws') = decide (us' = ws') := by simp
      rw [e]
      exact Lp.next KT [.reg [] [(0, .bit true)], .reg [] [], .reg [] [(2, .row i [I u]), (6, .row i [I u]), (8, .bit false)], .reg [] [(0, .int ((↑i : Int) + 1))]] [.keep [(0, []), (1, []), (12, []), (13, [])]] (by kernel_rfl) (q (decide ((↑i : Int) < (↑(List.length us) : Int)) = true) (q ((↑i : Int) = (↑i : Int)) (q ((ints us)[i]? = some [I u]) (q ((↑i : Int) = (↑i : Int)) (q ((ints ws)[i]? = some [I u]) (q ((u != u) = false) (qw ((↑i : Int) + 1) ob0))))))) (ih)
    · have e : decide (u :: us' = w :: ws') = false := by simp [h]
      rw [e]
      clear ih e
      simp only [cond_false]
      exact Lp.last KT [.reg [] [(0, .bit true)], .reg [] [], .reg [] [(2, .row i [I u]), (6, .row i [I w]), (8, .bit true)], .reg [] []] [.keep [(4, [])]] (by kernel_rfl) (q (decide ((↑i : Int) < (↑(List.length us) : Int)) = true) (q ((↑i : Int) = (↑i : Int)) (q ((ints us)[i]? = some [I u]) (q ((↑i : Int) = (↑i : Int)) (q ((ints ws)[i]? = some [I w]) (q ((u != w) = true) ob0)))))) (by intro h; cases h)

theorem sameInts_ (us ws : List Int) (hn : us.length ≤ 281474976710656) : SoundCall Try.prog 14 [.sl 1 (ints us) false, .sl 1 (ints ws) false] [] (B (decide (us = ws))) [] := by
  by_cases hl : us.length = ws.length
  · have lp := sameInts_loop us ws hn hl us ws 0 rfl rfl
    by_cases h : us = ws
    · rw [decide_eq_true h] at lp ⊢
      simp only [cond_true] at lp
      clear h
      exact Fn.go KT Try.func14 [.reg [] [], .reg [] [(1, .int (↑(List.length us) : Int)), (3, .int (↑(List.length ws) : Int)), (4, .bit false)], .reg [] [(1, .int (↑(List.length us) : Int))], .loop [.keep [(0, []), (1, []), (12, []), (13, [])]] (Exit.exit 0) { tm := lookT [], st := [] }, .reg [] []] [] [] (B true) ([]) (by kernel_rfl) (q ((↑(List.length (ints us)) : Int) = (↑(List.length us) : Int)) (q ((↑(List.length (ints ws)) : Int) = (↑(List.length ws) : Int)) (q (((↑(List.length us) : Int) != (↑(List.length ws) : Int)) = false) (q ((↑(List.length (ints us)) : Int) = (↑(List.length us) : Int)) (ob1 (lp) ob0)))))
    · rw [decide_eq_false h] at lp ⊢
      simp only [cond_false] at lp
      clear h
      exact Fn.go KT Try.func14 [.reg [] [], .reg [] [(1, .int (↑(List.length us) : Int)), (3, .int (↑(List.length ws) : Int)), (4, .bit false)], .reg [] [(1, .int (↑(List.length us) : Int))], .loop [.keep [(0, []), (1, []), (12, []), (13, [])]] Exit.ret { tm := lookT [(4, B false)], st := [] }] [] [] (B false) ([]) (by kernel_rfl) (q ((↑(List.length (ints us)) : Int) = (↑(List.length us) : Int)) (q ((↑(List.length (ints ws)) : Int) = (↑(List.length ws) : Int)) (q (((↑(List.length us) : Int) != (↑(List.length ws) : Int)) = false) (q ((↑(List.length (ints us)) : Int) = (↑(List.length us) : Int)) (ob1 (lp) ob0)))))
  · have h : us ≠ ws := fun e => hl (by rw [e])
    rw [decide_eq_false h]
    clear h
    exact Fn.go KT Try.func14 [.reg [] [], .reg [] [(1, .int (↑(List.length us) : Int)), (3, .int (↑(List.length ws) : Int)), (4, .bit true)], .reg [] []] [] [] (B false) ([]) (by kernel_rfl) (q ((↑(List.length (ints us)) : Int) = (↑(List.length us) : Int)) (q ((↑(List.length (ints ws)) : Int) = (↑(List.length ws) : Int)) (q (((↑(List.length us) : Int) != (↑(List.length ws) : Int)) = true) ob0)))

theorem same_ (ev : List Int) (us en v : Int) (hn : ev.length ≤ 281474976710656) :
    SoundCall Try.prog 13 [.agg [.sl 1 (ints ev) false, I us, I en, I v], .agg [.sl 1 (ints ev) false, I us, I en, I v]] [] (B true) [] := by
  have h := sameInts_ ev ev hn
  rw [decide_eq_true rfl] at h
  exact Fn.go KT Try.func13 [.reg [] [], .reg [] [(4, .call (B true) []), (10, .bit true), (17, .bit true), (24, .bit true)]] [] [] (B true) ([]) (by kernel_rfl) (ob1 (h) (q ((us == us) = true) (q ((en == en) = true) (q ((v == v) = true) ob0))))

end Go.Ae

/- eval.All, plain: which runs it finds. -/
namespace Go.Ae
open Go.Proofs

structure Rn where
  ev : List Int
  us : Int
  en : Int
  v : Int
def Rn.enc : Rn → List AV
  | ⟨ev, us, en, v⟩ => [.sl 1 (ints ev) false, I us, I en, I v]

abbrev Acc := List (Rn × List Int)
def rrows : Acc → List (List AV)
  | [] => []
  | (r, _) :: l => r.enc :: rrows l
def lrows : Acc → List (List AV)
  | [] => []
  | (_, ch) :: l => [.sl 1 (ints ch) false] :: lrows l
@[simp] theorem rrows_length : ∀ l : Acc, (rrows l).length = l.length
  | [] => rfl
  | (_, _) :: l => by simp [rrows, rrows_length l]
@[simp] theorem lrows_length : ∀ l : Acc, (lrows l).length = l.length
  | [] => rfl
  | (_, _) :: l => by simp [lrows, lrows_length l]
theorem rrows_append : ∀ (a b : Acc), rrows (a ++ b) = rrows a ++ rrows b
  | [], b => rfl
  | (_, _) :: a, b => by simp [rrows, rrows_append a b]
theorem lrows_append : ∀ (a b : Acc), lrows (a ++ b) = lrows a ++ lrows b
  | [], b => rfl
  | (_, _) :: a, b => by simp [lrows, lrows_append a b]
theorem rrows_get : ∀ (l : Acc) (i : Nat), (rrows l)[i]? = (l[i]?).map fun x => x.1.enc
  | [], i => by simp [rrows]
  | (_, _) :: l, 0 => by simp [rrows]
  | (_, _) :: l, i + 1 => by simp [rrows, rrows_get l i]
theorem lrows_get : ∀ (l : Acc) (i : Nat), (lrows l)[i]? = (l[i]?).map fun x => [.sl 1 (ints x.2) false]
  | [], i => by simp [lrows]
  | (_, _) :: l, 0 => by simp [lrows]
  | (_, _) :: l, i + 1 => by simp [lrows, lrows_get l i]

/-- The runs behind a list of choices, choice by choice. -/
inductive AllK (Q : List Int → Acc → Acc → Bool → Prop) (ch : List Int) (w : Int) : Nat → Acc → Acc → Bool → Prop
  | stop {c : Nat} {acc : Acc} (h : w ≤ (c : Int)) : AllK Q ch w c acc acc true
  | out {c : Nat} {acc acc' : Acc} (h : (c : Int) < w) (r : Q (ch ++ [(c : Int)]) acc acc' false) : AllK Q ch w c acc acc' false
  | next {c : Nat} {acc acc1 acc' : Acc} {b : Bool} (h : (c : Int) < w) (r : Q (ch ++ [(c : Int)]) acc acc1 true) (k : AllK Q ch w (c + 1) acc1 acc' b) : AllK Q ch w c acc acc' b

section
variable (p : Prog) (fuel : Int) (n : Nat)

def Leaf (ch : List Int) (acc acc' : Acc) (b : Bool) : Prop :=
  ∃ s' en v w, MRun p fuel ch (start p) s' en v w false ∧ (en ≠ 2 ∨ ch.length = n) ∧ acc' = acc ++ [(⟨s'.ev, s'.used, en, v⟩, ch)] ∧ b = decide (acc.length + 1 ≤ 1024)
def Node (Q : List Int → Acc → Acc → Bool → Prop) (ch : List Int) (acc acc' : Acc) (b : Bool) : Prop :=
  ∃ s' v w, MRun p fuel ch (start p) s' 2 v w false ∧ ch.length ≠ n ∧ AllK Q ch w 0 acc acc' b
def AllD : Nat → List Int → Acc → Acc → Bool → Prop
  | 0, ch, acc, acc', b => Leaf p fuel n ch acc acc' b
  | d + 1, ch, acc, acc', b => Leaf p fuel n ch acc acc' b ∨ Node p fuel n (AllD d) ch acc acc' b

/-- All its choices are used, and none is wrong. -/
def Full (ch : List Int) : Prop := ∀ s' en v w b, MRun p fuel ch (start p) s' en v w b → b = false ∧ s'.used = ch.length

def Good (x : Rn × List Int) : Prop := ∃ s' en v w, MRun p fuel x.2 (start p) s' en v w false ∧ x.1 = ⟨s'.ev, s'.used, en, v⟩ ∧ s'.used = x.2.length ∧ (en = 2 → x.2.length = n) ∧ x.2.length ≤ n
end

section
variable {p : Prog} {fuel : Int} {n : Nat}

theorem Full.nil : Full p fuel [] := fun s' en v w b h => run_nopick h (by simp)
theorem Full.next {ch : List Int} {s' : MS} {v w : Int} (h : MRun p fuel ch (start p) s' 2 v w false) {c : Int} (h0 : 0 ≤ c) (h1 : c < w) : Full p fuel (ch ++ [c]) := fun s2 en2 v2 w2 b2 k => by
  obtain ⟨_, _, h3⟩ := run_want h rfl
  obtain ⟨g1, g2⟩ := h3 c h0 h1 s2 en2 v2 w2 b2 k
  exact ⟨g2, by simp; exact g1⟩

theorem want_width (hv : Valid p) (hf : 0 ≤ fuel) {ch : List Int} {s' : MS} {v w : Int} {b : Bool} (h : MRun p fuel ch (start p) s' 2 v w b) : 1 ≤ w ∧ w ≤ 4 := by
  obtain ⟨k, _, _, _, hi⟩ := hv.inv hf ch
  obtain ⟨hi', hm⟩ := h.inv hv.pt hi
  have hw := hi'.wt
  generalize ho : Out.stop s' 2 v w b = o at hm
  cases hm with
  | want hf hu =>
    cases ho
    obtain ⟨t, ⟨sc, henv, hty, _⟩, _⟩ := hw
    simp only at henv
    have := tImp_V p hv.pt.defsV _ sc.reverse henv.2.2.rev (by rw [hty])
    rw [hty] at this
    obtain rfl := inv_pick hty
    have := V_kd0 this rfl
    exact ⟨this.1, this.2.1⟩
  | _ => cases ho

theorem allD_ex (hv : Valid p) (hf : 0 ≤ fuel) : ∀ (d : Nat) (ch : List Int) (acc : Acc), ch.length + d = n → Full p fuel ch → ∃ acc' b, AllD p fuel n d ch acc acc' b
  | 0, ch, acc, hl, hF => by
    obtain ⟨s', en, v, w, b, hr⟩ := hv.run hf ch
    obtain ⟨rfl, _⟩ := hF _ _ _ _ _ hr
    exact ⟨_, _, s', en, v, w, hr, .inr (by omega), rfl, rfl⟩
  | d + 1, ch, acc, hl, hF => by
    obtain ⟨s', en, v, w, b, hr⟩ := hv.run hf ch
    obtain ⟨rfl, _⟩ := hF _ _ _ _ _ hr
    by_cases he : en = 2
    · subst he
      have key : ∀ (e c : Nat) (acc : Acc), w ≤ ((c + e : Nat) : Int) → ∃ acc' b, AllK (AllD p fuel n d) ch w c acc acc' b := by
        intro e
        induction e with
        | zero => intro c acc h; exact ⟨acc, true, .stop (by omega)⟩
        | succ e ih =>
          intro c acc h
          by_cases hc : (c : Int) < w
          · obtain ⟨acc1, b1, h1⟩ := allD_ex hv hf d (ch ++ [(c : Int)]) acc (by simp; omega) (Full.next hr (by omega) hc)
            cases b1 with
            | false => exact ⟨acc1, false, .out hc h1⟩
            | true =>
              obtain ⟨acc', b, h2⟩ := ih (c + 1) acc1 (by omega)
              exact ⟨acc', b, .next hc h1 h2⟩
          · exact ⟨acc, true, .stop (by omega)⟩
      obtain ⟨acc', b, hk⟩ := key w.toNat 0 acc (by omega)
      exact ⟨acc', b, .inr ⟨s', v, w, hr, by omega, hk⟩⟩
    · exact ⟨_, _, .inl ⟨s', en, v, w, hr, .inl he, rfl, rfl⟩⟩

/-- What is found. -/
structure Fnd (p : Prog) (fuel : Int) (n : Nat) (acc acc' : Acc) (b : Bool) : Prop where
  ext : ∃ t, acc' = acc ++ t ∧ ∀ x ∈ t, Good p fuel n x
  len : acc.length ≤ 1024 → acc'.length ≤ 1025 ∧ (b = true → acc'.length ≤ 1024)

theorem leaf_fnd {ch : List Int} {acc acc' : Acc} {b : Bool} (h : Leaf p fuel n ch acc acc' b) (hF : Full p fuel ch) (hn : ch.length ≤ n) : Fnd p fuel n acc acc' b ∧ acc.length < acc'.length := by
  obtain ⟨s', en, v, w, hr, hl, rfl, rfl⟩ := h
  refine ⟨⟨⟨_, rfl, fun x hx => ?_⟩, fun h => ⟨by simp; omega, fun hb => by simpa using hb⟩⟩, by simp⟩
  simp only [List.mem_singleton] at hx
  subst hx
  exact ⟨s', en, v, w, hr, rfl, (hF _ _ _ _ _ hr).2, fun he => by rcases hl with hl | hl <;> omega, hn⟩

theorem allD_fnd (hv : Valid p) (hf : 0 ≤ fuel) : ∀ (d : Nat) (ch : List Int) (acc acc' : Acc) (b : Bool), ch.length + d = n → Full p fuel ch → AllD p fuel n d ch acc acc' b → Fnd p fuel n acc acc' b ∧ acc.length < acc'.length
  | 0, ch, acc, acc', b, hl, hF, h => leaf_fnd h hF (by omega)
  | d + 1, ch, acc, acc', b, hl, hF, h => by
    rcases h with h | ⟨s', v, w, hr, hne, hk⟩
    · exact leaf_fnd h hF (by omega)
    · have hw := want_width hv hf hr
      have rec1 := fun (c : Nat) (hc : (c : Int) < w) (acc acc' : Acc) (b : Bool) => allD_fnd hv hf d (ch ++ [(c : Int)]) acc acc' b (by simp; omega) (Full.next hr (by omega) hc)
      have key : ∀ (c : Nat) (acc acc' : Acc) (b : Bool), AllK (AllD p fuel n d) ch w c acc acc' b → Fnd p fuel n acc acc' b ∧ acc.length ≤ acc'.length ∧ ((c : Int) < w → acc.length < acc'.length) := by
        intro c acc acc' b hk
        induction hk with
        | stop h => exact ⟨⟨⟨[], by simp, by simp⟩, fun h => ⟨by omega, fun _ => h⟩⟩, Nat.le_refl _, fun h2 => by omega⟩
        | out h r =>
          obtain ⟨g1, g2⟩ := rec1 _ h _ _ _ r
          exact ⟨g1, by omega, fun _ => g2⟩
        | next h r k ih =>
          obtain ⟨⟨⟨t, e1, e2⟩, g1⟩, g2⟩ := rec1 _ h _ _ _ r
          obtain ⟨⟨⟨t2, e3, e4⟩, g3⟩, g4, _⟩ := ih
          refine ⟨⟨⟨t ++ t2, by rw [e3, e1, List.append_assoc], fun x hx => ?_⟩, fun hl => g3 ((g1 hl).2 rfl)⟩, by omega, fun _ => by omega⟩
          rcases List.mem_append.1 hx with hx | hx
          · exact e2 x hx
          · exact e4 x hx
      obtain ⟨g1, _, g2⟩ := key 0 acc acc' b hk
      exact ⟨g1, g2 (by simp; omega)⟩
end

end Go.Ae

/- eval.all: what is said, a round. -/
namespace Go.Ae
open Go.Proofs

set_option maxRecDepth 20000 in
theorem say_ (r : Rn) (l : List Int) (R L : List (List AV)) (hR : R.length ≤ 1024) (hL : L.length ≤ 1024) (hl : l.length ≤ 100000) :
    SoundCall Try.prog 34 [.agg r.enc, .sl 1 (ints l) false, .lp 0 0, .lp 2 0] [.cells [.la 1 1] [], .arr 1 4 R, .cells [.la 3 1] [], .arr 1 1 L]
      (B (decide (R.length + 1 ≤ 1024))) [.cells [.la 1 2] [], .arr 2 4 (R ++ [r.enc]), .cells [.la 3 2] [], .arr 2 1 (L ++ [[.sl 1 (ints l) false]])] := by
  obtain ⟨ev, us, en, v⟩ := r
  have hF1 : Fits (R.length + 1) R.length 48 := by apply Fits.of; omega
  have hF2 : Fits (L.length + 1) L.length 24 := by apply Fits.of; omega
  have hF3 : Fits (0 + (ints l).length) 0 8 := by apply Fits.of; simp; omega
  by_cases h : R.length + 1 ≤ 1024
  · rw [decide_eq_true h]
    exact Fn.go KT Try.func34 [.reg [] [], .reg [] [], .reg [] [(1, .int ((↑(List.length R) : Int) + 1)), (2, .bit true)]] [] [] (B true) ([.cells [AV.la 1 2] [], .arr 2 4 (R ++ [[AV.sl 1 (ints ev) false, I us, I en, I v]]), .cells [AV.la 3 2] [], .arr 2 1 (L ++ [[AV.sl 1 ([] ++ ints l) false]])]) (by kernel_rfl) (q (Fits (List.length R + 1) (List.length R) 48) (q (Fits (0 + List.length (ints l)) 0 8) (q (Fits (List.length L + 1) (List.length L) 24) (q ((↑(List.length (R ++ [[AV.sl 1 (ints ev) false, I us, I en, I v]])) : Int) = (↑(List.length R) : Int) + 1) (q (decide ((↑(List.length R) : Int) + 1 ≤ 1024) = true) ob0)))))
  · rw [decide_eq_false h]
    exact Fn.go KT Try.func34 [.reg [] [], .reg [] [], .reg [] [(1, .int ((↑(List.length R) : Int) + 1)), (2, .bit false)]] [] [] (B false) ([.cells [AV.la 1 2] [], .arr 2 4 (R ++ [[AV.sl 1 (ints ev) false, I us, I en, I v]]), .cells [AV.la 3 2] [], .arr 2 1 (L ++ [[AV.sl 1 ([] ++ ints l) false]])]) (by kernel_rfl) (q (Fits (List.length R + 1) (List.length R) 48) (q (Fits (0 + List.length (ints l)) 0 8) (q (Fits (List.length L + 1) (List.length L) 24) (q ((↑(List.length (R ++ [[AV.sl 1 (ints ev) false, I us, I en, I v]])) : Int) = (↑(List.length R) : Int) + 1) (q (decide ((↑(List.length R) : Int) + 1 ≤ 1024) = false) ob0)))))

end Go.Ae

/- FoldRuns: for every program, lists and fuel the law returns true, and its arguments read as before. No condition. -/
import Derived.Test.YtcmlbbgbfgikaaaGreatT19
import Derived.Test.YtcmlbbgbfgikaaaGreatRows
import Derived.WalkKit
import Derived.ProofKit
import Derived.OpenShut
import Derived.ShutString
import Derived.ChangeOld
import Derived.Below
import Derived.SizedLaws
namespace Go.Proofs.YtcmlbbgbfgikaaaGreat
open Go.ChangeShapes Go.WideShapes Go.ChangeAt Go.RowKit Go.Ae
theorem own : ownKnob Tryz.prog.godebug = none := by kernel_rfl
theorem laidOut : laidOutB Tryz.prog = true := by kernel_rfl
theorem weights_at {H : Type} {P : Program} : ∀ (ts : List TypeId) (ds : List (DataW H)) (j : Nat) (t : TypeId) (d : DataW H), ts[j]? = some t → ds[j]? = some d → ∀ n ∈ d.weights P t, n ∈ DataW.weightsEach P ts ds
 | [], _, j, t, d, h, _ => by simp at h
 | _ :: _, [], j, t, d, _, h => by simp at h
 | a :: ts, b :: ds, 0, t, d, h1, h2 => by
  simp at h1 h2
  subst h1; subst h2
  intro n hn
  rw [DataW.weightsEach, List.mem_append]
  exact .inl hn
 | a :: ts, b :: ds, j + 1, t, d, h1, h2 => by
  intro n hn
  rw [DataW.weightsEach, List.mem_append]
  exact .inr (weights_at ts ds j t d (by simpa using h1) (by simpa using h2) n hn)
set_option maxRecDepth 100000 in
theorem lifted (os : Os) (started : os.Started) (H : Type) (enc : TypeId × Value → H) :
  ReturnsInHanded {} Tryz.checked os 3 .any (Rows.foldRunsSpec.pre6 enc Tryz.prog Tryz.f3 Rows.foldRunsRow.domain false) (Rows.foldRunsSpec.post enc Tryz.prog Tryz.f3 false true false false) := by
 refine returnsInHanded_of_change_sized (C := Tryz.checked) own started (by kernel_rfl) Tryz.func3
  (ChangeSpec.witness6 (enc := enc) (C := Tryz.checked) false ⟨#[], #[.agg #[.slice none 0 0, .slice none 0 0, .int .i64 0, .int .i64 0, .int .i64 0, .int .i64 0, .int .i64 0, .slice none 0 0, .slice none 0 0], .slice none 0 0, .slice none 0 0, .slice none 0 0, .int .i64 0], []⟩ 8 (by kernel_rfl) (by kernel_rfl) (by kernel_rfl) (by kernel_rfl)) ?_
 intro W base args ds gs before hval0 hW hcnd hsz0 _
 have hsz : (DataW.weightsEach Tryz.prog (Tryz.f3.params.toList ++ Rows.foldRunsSpec.plain.varTypes Tryz.prog) (ds ++ gs)).all (· ≤ reachBytes) = true := hsz0
 have hval : ∀ (j : Nat) t v, Tryz.f3.params[j]? = some t → args[j]? = some v → Value.okWide Tryz.prog W .any base t v := hval0
 have hW' := hW
 obtain ⟨p, q, hA0, hV, rfl, hfz, hnd⟩ := hW
 have hA : DataW.TrodAll enc Tryz.prog W 0 (fun _ => true) true Tryz.f3.params.toList args.toList ds p := hA0
 rw [Tryz.params3] at hA hval hsz
 obtain ⟨v0, vs0, d0, ds0, p0, q0, hargs, rfl, rfl, h0, r0⟩ := trodAll_cons hA
 obtain ⟨v1, vs1, d1, ds1, p1, q1, rfl, rfl, rfl, h1, r1⟩ := trodAll_cons r0
 obtain ⟨v2, vs2, d2, ds2, p2, q2, rfl, rfl, rfl, h2, r2⟩ := trodAll_cons r1
 obtain ⟨v3, vs3, d3, ds3, p3, q3, rfl, rfl, rfl, h3, r3⟩ := trodAll_cons r2
 obtain ⟨v4, vs4, d4, ds4, p4, q4, rfl, rfl, rfl, h4, r4⟩ := trodAll_cons r3
 obtain ⟨rfl, rfl, rfl⟩ := trodAll_nil r4
 obtain rfl : args = #[v0, v1, v2, v3, v4] := by cases args; simp_all
 obtain ⟨rfl, rfl⟩ := trodVars_none hV
 have w0 : ∀ m ∈ d0.weights Tryz.prog 31, m ≤ reachBytes := fun m hm => of_decide_eq_true (List.all_eq_true.1 hsz m (weights_at _ _ 0 31 d0 rfl rfl m hm))
 have w1 : ∀ m ∈ d1.weights Tryz.prog 32, m ≤ reachBytes := fun m hm => of_decide_eq_true (List.all_eq_true.1 hsz m (weights_at _ _ 1 32 d1 rfl rfl m hm))
 have w2 : ∀ m ∈ d2.weights Tryz.prog 32, m ≤ reachBytes := fun m hm => of_decide_eq_true (List.all_eq_true.1 hsz m (weights_at _ _ 2 32 d2 rfl rfl m hm))
 have w3 : ∀ m ∈ d3.weights Tryz.prog 32, m ≤ reachBytes := fun m hm => of_decide_eq_true (List.all_eq_true.1 hsz m (weights_at _ _ 3 32 d3 rfl rfl m hm))
 have lt0 : ∀ x ∈ p0, x.block < W.heap.size := by obtain ⟨m, hm⟩ := h0; exact DataW.trod_lt m _ _ _ hm
 have lt1 : ∀ x ∈ p1, x.block < W.heap.size := by obtain ⟨m, hm⟩ := h1; exact DataW.trod_lt m _ _ _ hm
 have lt2 : ∀ x ∈ p2, x.block < W.heap.size := by obtain ⟨m, hm⟩ := h2; exact DataW.trod_lt m _ _ _ hm
 have lt3 : ∀ x ∈ p3, x.block < W.heap.size := by obtain ⟨m, hm⟩ := h3; exact DataW.trod_lt m _ _ _ hm
 have lt4 : ∀ x ∈ p4, x.block < W.heap.size := by obtain ⟨m, hm⟩ := h4; exact DataW.trod_lt m _ _ _ hm
 obtain ⟨P, rep0, hok⟩ := arg_prog (by obtain ⟨cs, h, _⟩ := okWide_struct Tryz.underlying31 (hval 0 31 v0 rfl rfl); exact ⟨cs, h⟩) h0 w0
 obtain ⟨cuts, rep1, hl_cuts⟩ := arg_ints (okWide_slice Tryz.underlying32 (hval 1 32 v1 rfl rfl)) h1 w1
 obtain ⟨ch, rep2, hl_ch⟩ := arg_ints (okWide_slice Tryz.underlying32 (hval 2 32 v2 rfl rfl)) h2 w2
 obtain ⟨is, rep3, hl_is⟩ := arg_ints (okWide_slice Tryz.underlying32 (hval 3 32 v3 rfl rfl)) h3 w3
 obtain ⟨fuel, rfl, -, -, wf_fuel⟩ := open_int Tryz.underlying3 (hval 4 3 v4 rfl rfl) h4
 obtain ⟨_, _, hs⟩ := N.law_ P hok cuts ch is fuel (wf_ir wf_fuel) hl_cuts hl_ch hl_is
 clear hA0 hval0 hsz0 hsz w0 w1 w2 w3
 refine (hs (memOf W) [] W [v0, v1, v2, v3, .int .i64 fuel] (storeAll W) rfl (fun j a v e1 e2 => ?_)).mono fun e W' ⟨v, M', μ', he, _, hp, _, hr⟩ => ?_
 ·match j, e1, e2 with
  | 0, e1, e2 => cases e1; cases e2; exact rep0
  | 1, e1, e2 => cases e1; cases e2; exact rep1
  | 2, e1, e2 => cases e1; cases e2; exact rep2
  | 3, e1, e2 => cases e1; cases e2; exact rep3
  | 4, e1, e2 => cases e1; cases e2; exact .sc
  | j + 5, e1, _ => simp at e1
 ·have bel := hp.below
  have hv := hr.scv
  subst hv
  subst he
  exact ⟨_, rfl, _, _, _, [], _, [], hW', trodAll_mk1 (shut_bool Tryz.underlying4 _),
   trodAll_cons_mk (Below.trod laidOut (by kernel_rfl) (of_decide_eq_true (by kernel_rfl)) h0 bel lt0) (trodAll_cons_mk (Below.trod laidOut (by kernel_rfl) (of_decide_eq_true (by kernel_rfl)) h1 bel lt1) (trodAll_cons_mk (Below.trod laidOut (by kernel_rfl) (of_decide_eq_true (by kernel_rfl)) h2 bel lt2) (trodAll_cons_mk (Below.trod laidOut (by kernel_rfl) (of_decide_eq_true (by kernel_rfl)) h3 bel lt3) (trodAll_cons_mk (Below.trod laidOut (by kernel_rfl) (of_decide_eq_true (by kernel_rfl)) h4 bel lt4) (trodAll_mk0))))), rfl, bel.frame _, fun h => by cases h⟩
theorem FoldRuns_holds : Rows.FoldRunsSaid :=
 OpenClaim.holds_of_wide 3 Tryz.f3 rfl rfl rfl rfl rfl rfl rfl ⟨rfl, rfl, rfl, rfl, rfl⟩ rfl rfl rfl rfl rfl (by kernel_rfl) Tryz.func3 (by kernel_rfl)
  (of_decide_eq_true (by kernel_rfl)) (by unfold Func.isWrapper; first | (rw [if_pos (by decide +kernel)]; kernel_rfl) | (rw [if_neg (by decide +kernel)]; exact ⟨rfl, rfl⟩))
  (fun os started H enc _ => lifted os started H enc)
end Go.Proofs.YtcmlbbgbfgikaaaGreat
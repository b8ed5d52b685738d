/- FoldClass: for every list and number the law returns true, and its arguments read as before. No condition. -/
import Derived.Test.YtpcnfjddleceiaaGreatRows
import Derived.Test.YtpcnfjddleceiaaGreatFdEH3
import Derived.WalkKit
import Derived.ProofKit
import Derived.OpenShut
import Derived.ShutString
import Derived.ChangeOld
import Derived.Below
import Derived.SizedLaws
namespace Go.Proofs.YtpcnfjddleceiaaGreat
open Go.ChangeShapes Go.WideShapes Go.ChangeAt Go.RowKit Go.Ae

theorem own : ownKnob Tryz.prog.godebug = none := by kernel_rfl
theorem laidOut : laidOutB Tryz.prog = true := by kernel_rfl

theorem rows_ints : ∀ (rows : List (List AV)), (∀ r ∈ rows, ∃ n, r = [.sc (.int .i64 n)] ∧ (Lit.int .i64 n).wf = true) → ∃ us, rows = ints us ∧ us.length = rows.length
  | [], _ => ⟨[], rfl, rfl⟩
  | r :: rows, h => by
    obtain ⟨n, rfl, _⟩ := h r (by simp)
    obtain ⟨us, rfl, h2⟩ := rows_ints rows fun r hr => h r (by simp [hr])
    exact ⟨n :: us, rfl, by simp⟩

theorem wf_ir {n : Int} (h : (Lit.int .i64 n).wf = true) : ir n := by
  simp [Lit.wf, IntKind.min, IntKind.max, IntKind.signed, IntKind.bits] at h
  unfold ir
  omega

theorem weights_at {H : Type} {P : Program} : ∀ (ts : List TypeId) (ds : List (DataW H)) (j : Nat) (t : TypeId) (d : DataW H), ts[j]? = some t → ds[j]? = some d → ∀ n ∈ d.weights P t, n ∈ DataW.weightsEach P ts ds
  | [], _, j, t, d, h, _ => by simp at h
  | _ :: _, [], j, t, d, _, h => by simp at h
  | a :: ts, b :: ds, 0, t, d, h1, h2 => by
    simp at h1 h2
    subst h1; subst h2
    intro n hn
    rw [DataW.weightsEach, List.mem_append]
    exact .inl hn
  | a :: ts, b :: ds, j + 1, t, d, h1, h2 => by
    intro n hn
    rw [DataW.weightsEach, List.mem_append]
    exact .inr (weights_at ts ds j t d (by simpa using h1) (by simpa using h2) n hn)

set_option maxRecDepth 100000 in
theorem lifted (os : Os) (started : os.Started) (H : Type) (enc : TypeId × Value → H) :
    ReturnsInHanded {} Tryz.checked os 3 .any (Rows.foldClassSpec.pre6 enc Tryz.prog Tryz.f3 Rows.foldClassRow.domain false) (Rows.foldClassSpec.post enc Tryz.prog Tryz.f3 false true false false) := by
  refine returnsInHanded_of_change_sized (C := Tryz.checked) own started (by kernel_rfl) Tryz.func3
    (ChangeSpec.witness6 (enc := enc) (C := Tryz.checked) false ⟨#[], #[.slice none 0 0, .int .i64 0], []⟩ 8 (by kernel_rfl) (by kernel_rfl) (by kernel_rfl) (by kernel_rfl)) ?_
  intro W base args ds gs before hval0 hW hcnd hsz0 _
  have hsz : (DataW.weightsEach Tryz.prog (Tryz.f3.params.toList ++ Rows.foldClassSpec.plain.varTypes Tryz.prog) (ds ++ gs)).all (· ≤ reachBytes) = true := hsz0
  have hval : ∀ (j : Nat) t v, Tryz.f3.params[j]? = some t → args[j]? = some v → Value.okWide Tryz.prog W .any base t v := hval0
  have hW' := hW
  obtain ⟨p, q, hA0, hV, rfl, hfz, hnd⟩ := hW
  have hA : DataW.TrodAll enc Tryz.prog W 0 (fun _ => true) true Tryz.f3.params.toList args.toList ds p := hA0
  rw [Tryz.params3] at hA hval hsz
  obtain ⟨v0, vs0, d0, ds0, p0, q0, hargs, rfl, rfl, h0, r0⟩ := trodAll_cons hA
  obtain ⟨v1, vs1, d1, ds1, p1, q1, rfl, rfl, rfl, h1, r1⟩ := trodAll_cons r0
  obtain ⟨rfl, rfl, rfl⟩ := trodAll_nil r1
  obtain rfl : args = #[v0, v1] := by cases args; simp_all
  obtain ⟨rfl, rfl⟩ := trodVars_none hV
  have w0 : ∀ m ∈ d0.weights Tryz.prog 22, m ≤ reachBytes := fun m hm => of_decide_eq_true (List.all_eq_true.1 hsz m (weights_at _ _ 0 22 d0 rfl rfl m hm))
  have lt0 : ∀ x ∈ p0, x.block < W.heap.size := by obtain ⟨m, hm⟩ := h0; exact DataW.trod_lt m _ _ _ hm
  have lt1 : ∀ x ∈ p1, x.block < W.heap.size := by obtain ⟨m, hm⟩ := h1; exact DataW.trod_lt m _ _ _ hm
  obtain ⟨a0, len0, cap0, rfl⟩ := okWide_slice Tryz.underlying22 (hval 0 22 v0 rfl rfl)
  obtain ⟨n, rfl, -, -, wn⟩ := open_int Tryz.underlying3 (hval 1 3 v1 rfl rfl) h1
  obtain ⟨us, rep0, hlen⟩ : ∃ us, RepV (memOf W) [] (.sl 1 (ints us) false) (.slice a0 len0 cap0) ∧ us.length ≤ 140737488351232 := by
    obtain ⟨fuel, hf⟩ := h0
    obtain ⟨row, ⟨rows, rfl, hr1, hr2⟩, hrd⟩ := rd_slice (F := fuel) (n := 1) Tryz.underlying22 (by kernel_rfl) (by omega) (of_decide_eq_true (by kernel_rfl)) (rd_int Tryz.underlying3) fuel (by omega) _ _ hf w0
    obtain ⟨us, rfl, hu⟩ := rows_ints rows hr2
    refine ⟨us, (hrd.2 0 _ _ rfl rfl).2, ?_⟩
    rw [show Tryz.prog.bytesOf 3 = 8 by kernel_rfl] at hr1
    rw [hu]
    unfold reachBytes at hr1
    omega
  obtain ⟨_, _, hs⟩ := law_ us n hlen
  clear hA0 hval0 hsz0 hsz w0
  refine (hs (memOf W) [] W [.slice a0 len0 cap0, .int .i64 n] (storeAll W) rfl (fun j a v e1 e2 => ?_)).mono fun e W' ⟨v, M', μ', he, _, hp, _, hr⟩ => ?_
  · match j, e1, e2 with
    | 0, e1, e2 => cases e1; cases e2; exact rep0
    | 1, e1, e2 => cases e1; cases e2; exact .sc
    | j + 2, e1, _ => simp at e1
  · have bel := hp.below
    have hv := hr.scv
    subst hv
    subst he
    exact ⟨_, rfl, _, _, _, [], _, [], hW', trodAll_mk1 (shut_bool Tryz.underlying4 _),
      trodAll_cons_mk (Below.trod laidOut (by kernel_rfl) (of_decide_eq_true (by kernel_rfl)) h0 bel lt0) (trodAll_cons_mk (Below.trod laidOut (by kernel_rfl) (of_decide_eq_true (by kernel_rfl)) h1 bel lt1) trodAll_mk0), rfl, bel.frame _, fun h => by cases h⟩

theorem FoldClass_holds : Rows.FoldClassSaid :=
  OpenClaim.holds_of_wide 3 Tryz.f3 rfl rfl rfl rfl rfl rfl rfl ⟨rfl, rfl, rfl, rfl, rfl⟩ rfl rfl rfl rfl rfl (by kernel_rfl) Tryz.func3 (by kernel_rfl)
    (of_decide_eq_true (by kernel_rfl)) (by unfold Func.isWrapper; first | (rw [if_pos (by decide +kernel)]; kernel_rfl) | (rw [if_neg (by decide +kernel)]; exact ⟨rfl, rfl⟩))
    (fun os started H enc _ => lifted os started H enc)

end Go.Proofs.YtpcnfjddleceiaaGreat

/- Part 19 of the proof: AeRB0. -/
import Derived.Test.YtcmlbbgbfgikaaaGreatT18
set_option linter.unusedSimpArgs false
set_option linter.unusedVariables false
namespace Go.Ae
open Go.Proofs Go.RowKit
theorem wf_ir {n : Int} (h : (Lit.int .i64 n).wf = true) : ir n := by
 simp [Lit.wf, IntKind.min, IntKind.max, IntKind.signed, IntKind.bits] at h
 unfold ir
 omega
def isInt (row : List AV) : Prop := ∃ n, row = [I n] ∧ ir n
def isTy (row : List AV) : Prop := ∃ t : Ty, row = t.enc ∧ t.ok
def isEx (row : List AV) : Prop := ∃ e : Expr, row = e.enc ∧ e.ok
def isDef (row : List AV) : Prop := ∃ d : Def, row = d.enc ∧ d.ok
def isStr (row : List AV) : Prop := ∃ s : ByteArray, row = [S s] ∧ s.size ≤ 281474976710656
def isProg (row : List AV) : Prop := ∃ p : Prog, row = p.enc ∧ p.ok
section
variable {H : Type} {enc : TypeId × Value → H} {W : World} {base : Nat} {sp : Nat → Bool} {hd : Bool}
theorem rd_i (F : Nat) : RdF enc Tryz.prog W base sp hd F 3 isInt :=
 (rd_int (F := F) Tryz.underlying3).imp fun row ⟨n, h, hw⟩ => ⟨n, h, wf_ir hw⟩
theorem rd_s (F : Nat) : RdF enc Tryz.prog W base sp hd F 9 isStr :=
 (rd_string (F := F) Tryz.underlying9).imp fun row ⟨s, h, hw⟩ => ⟨s, h, by unfold reachBytes at hw; omega⟩
theorem rows_tys : ∀ (rows : List (List AV)), (∀ r ∈ rows, isTy r) → ∃ us, rows = Ty.encs us ∧ us.length = rows.length ∧ Ty.oks us
 | [], _ => ⟨[], rfl, rfl, trivial⟩
 | r :: rows, h => by
  obtain ⟨t, rfl, ht⟩ := h r (by simp)
  obtain ⟨us, rfl, h2, h3⟩ := rows_tys rows fun r hr => h r (by simp [hr])
  exact ⟨t :: us, rfl, by simp, ht, h3⟩
theorem rows_exs : ∀ (rows : List (List AV)), (∀ r ∈ rows, isEx r) → ∃ us, rows = Expr.encs us ∧ us.length = rows.length ∧ Expr.oks us
 | [], _ => ⟨[], rfl, rfl, trivial⟩
 | r :: rows, h => by
  obtain ⟨t, rfl, ht⟩ := h r (by simp)
  obtain ⟨us, rfl, h2, h3⟩ := rows_exs rows fun r hr => h r (by simp [hr])
  exact ⟨t :: us, rfl, by simp, ht, h3⟩
theorem rows_defs : ∀ (rows : List (List AV)), (∀ r ∈ rows, isDef r) → ∃ us, rows = Def.encs us ∧ us.length = rows.length ∧ ∀ d ∈ us, d.ok
 | [], _ => ⟨[], rfl, rfl, by simp⟩
 | r :: rows, h => by
  obtain ⟨t, rfl, ht⟩ := h r (by simp)
  obtain ⟨us, rfl, h2, h3⟩ := rows_defs rows fun r hr => h r (by simp [hr])
  exact ⟨t :: us, rfl, by simp, fun d hd => by
   rcases List.mem_cons.1 hd with rfl | hd
   ·exact ht
   ·exact h3 d hd⟩
theorem rows_strs : ∀ (rows : List (List AV)), (∀ r ∈ rows, isStr r) → ∃ us, rows = strs us ∧ us.length = rows.length ∧ ∀ s ∈ us, s.size ≤ 281474976710656
 | [], _ => ⟨[], rfl, rfl, by simp⟩
 | r :: rows, h => by
  obtain ⟨t, rfl, ht⟩ := h r (by simp)
  obtain ⟨us, rfl, h2, h3⟩ := rows_strs rows fun r hr => h r (by simp [hr])
  exact ⟨t :: us, rfl, by simp, fun d hd => by
   rcases List.mem_cons.1 hd with rfl | hd
   ·exact ht
   ·exact h3 d hd⟩
theorem rows_ints : ∀ (rows : List (List AV)), (∀ r ∈ rows, isInt r) → ∃ us, rows = ints us ∧ us.length = rows.length
 | [], _ => ⟨[], rfl, rfl⟩
 | r :: rows, h => by
  obtain ⟨n, rfl, _⟩ := h r (by simp)
  obtain ⟨us, rfl, h2⟩ := rows_ints rows fun r hr => h r (by simp [hr])
  exact ⟨n :: us, rfl, by simp⟩
theorem small {n b : Nat} (hb : 1 ≤ b) (h : n * b ≤ reachBytes) : n ≤ 281474976710656 := by
 have : n * 1 ≤ n * b := Nat.mul_le_mul_left n hb
 unfold reachBytes at h
 omega
theorem rd_ty : ∀ F, RdF enc Tryz.prog W base sp hd F 26 isTy
 | 0 => fun fuel hf cs x hx _ => by
  obtain rfl : fuel = 0 := by omega
  simp [DataW.trod] at hx
 | F + 1 => by
  have ih := rd_ty F
  have hs := (rd_slice (F := F) (n := 3) Tryz.underlying24 (by kernel_rfl) (by omega) (of_decide_eq_true (by kernel_rfl)) ih).mono (Nat.le_succ F)
  refine (rd_struct (F := F) (Rs := [isInt, isInt, _]) Tryz.underlying26 (by kernel_rfl) ⟨by kernel_rfl, rd_i F, by kernel_rfl, rd_i F, by kernel_rfl, hs, trivial⟩).imp fun row h => ?_
  obtain ⟨_, _, rfl, ⟨k, rfl, hk⟩, _, _, rfl, ⟨v, rfl, hv⟩, _, _, rfl, ⟨rows, rfl, hl, hr⟩, rfl⟩ := h
  obtain ⟨us, rfl, hu, ho⟩ := rows_tys rows hr
  exact ⟨.mk k v us, by simp [Ty.enc], hk, hv, by rw [hu]; exact small (of_decide_eq_true (by kernel_rfl)) hl, ho⟩
theorem rd_ex : ∀ F, RdF enc Tryz.prog W base sp hd F 29 isEx
 | 0 => fun fuel hf cs x hx _ => by
  obtain rfl : fuel = 0 := by omega
  simp [DataW.trod] at hx
 | F + 1 => by
  have ih := rd_ex F
  have hs := (rd_slice (F := F) (n := 7) Tryz.underlying27 (by kernel_rfl) (by omega) (of_decide_eq_true (by kernel_rfl)) ih).mono (Nat.le_succ F)
  refine (rd_struct (F := F) (Rs := [isInt, isInt, isInt, isTy, _]) Tryz.underlying29 (by kernel_rfl) ⟨by kernel_rfl, rd_i F, by kernel_rfl, rd_i F, by kernel_rfl, rd_i F, by kernel_rfl, rd_ty F, by kernel_rfl, hs, trivial⟩).imp fun row h => ?_
  obtain ⟨_, _, rfl, ⟨k, rfl, hk⟩, _, _, rfl, ⟨n, rfl, hn⟩, _, _, rfl, ⟨v, rfl, hv⟩, _, _, rfl, ⟨t, rfl, ht⟩, _, _, rfl, ⟨rows, rfl, hl, hr⟩, rfl⟩ := h
  obtain ⟨us, rfl, hu, ho⟩ := rows_exs rows hr
  obtain ⟨tk, tv, tl⟩ := t
  exact ⟨.mk k n v (.mk tk tv tl) us, by simp [Expr.enc, Ty.enc], hk, hn, hv, ht, by rw [hu]; exact small (of_decide_eq_true (by kernel_rfl)) hl, ho⟩
theorem rd_def (F : Nat) : RdF enc Tryz.prog W base sp hd (F + 1) 54 isDef := by
 refine (rd_struct (F := F) (Rs := [isStr, isTy, isTy, isEx]) Tryz.underlying54 (by kernel_rfl) ⟨by kernel_rfl, rd_s F, by kernel_rfl, rd_ty F, by kernel_rfl, rd_ty F, by kernel_rfl, rd_ex F, trivial⟩).imp fun row h => ?_
 obtain ⟨_, _, rfl, ⟨s, rfl, hs⟩, _, _, rfl, ⟨t, rfl, ht⟩, _, _, rfl, ⟨u, rfl, hu⟩, _, _, rfl, ⟨e, rfl, he⟩, rfl⟩ := h
 exact ⟨⟨s, t, u, e⟩, by simp [Def.enc], hs, ht, hu, he⟩
theorem rd_prog (F : Nat) : RdF enc Tryz.prog W base sp hd (F + 3) 31 isProg := by
 have h1 := rd_slice (F := F + 1) (n := 1) Tryz.underlying22 (by kernel_rfl) (by omega) (of_decide_eq_true (by kernel_rfl)) (rd_s (enc := enc) (W := W) (base := base) (sp := sp) (hd := hd) (F + 1))
 have h2 := rd_slice (F := F + 1) (n := 14) Tryz.underlying23 (by kernel_rfl) (by omega) (of_decide_eq_true (by kernel_rfl)) (rd_def (enc := enc) (W := W) (base := base) (sp := sp) (hd := hd) F)
 refine (rd_struct (F := F + 2) (Rs := [_, _, isEx]) Tryz.underlying31 (by kernel_rfl) ⟨by kernel_rfl, h1, by kernel_rfl, h2, by kernel_rfl, rd_ex (F + 2), trivial⟩).imp fun row h => ?_
 obtain ⟨_, _, rfl, ⟨rows, rfl, hl, hr⟩, _, _, rfl, ⟨rows2, rfl, hl2, hr2⟩, _, _, rfl, ⟨e, rfl, he⟩, rfl⟩ := h
 obtain ⟨us, rfl, hu, ho⟩ := rows_strs rows hr
 obtain ⟨ds, rfl, hdl, hdo⟩ := rows_defs rows2 hr2
 exact ⟨⟨us, ds, e⟩, by simp [Prog.enc], by rw [hu]; exact small (of_decide_eq_true (by kernel_rfl)) hl, ho, by rw [hdl]; exact small (of_decide_eq_true (by kernel_rfl)) hl2, hdo, he⟩
theorem arg_prog {v : Value} {d : DataW H} {p : List MemPlace} (hv : ∃ cs : Array Value, v = .agg cs) (h : DataW.Trod enc Tryz.prog W base sp hd 31 v d p) (hw : ∀ n ∈ d.weights Tryz.prog 31, n ≤ reachBytes) :
  ∃ q : Prog, RepV (memOf W) [] (.agg q.enc) v ∧ q.ok := by
 obtain ⟨cs, rfl⟩ := hv
 obtain ⟨fuel, hf⟩ := h
 obtain ⟨row, ⟨q, rfl, ho⟩, hrd⟩ := rd_prog fuel fuel (by omega) _ _ hf hw
 refine ⟨q, ?_, ho⟩
 have := RepV.agg (M := memOf W) (μ := []) (cs := q.enc) (us := cs.toList) (by simpa [Value.cells] using hrd.1) fun j a u e1 e2 => (hrd.2 j a u e1 (by simpa [Value.cells] using e2)).2
 simpa using this
theorem arg_ints {v : Value} {d : DataW H} {p : List MemPlace} (hv : ∃ a len cap, v = .slice a len cap) (h : DataW.Trod enc Tryz.prog W base sp hd 32 v d p) (hw : ∀ n ∈ d.weights Tryz.prog 32, n ≤ reachBytes) :
  ∃ us : List Int, RepV (memOf W) [] (.sl 1 (ints us) false) v ∧ us.length ≤ 17592186043904 := by
 obtain ⟨a, len, cap, rfl⟩ := hv
 obtain ⟨fuel, hf⟩ := h
 obtain ⟨row, ⟨rows, rfl, hl, hr⟩, hrd⟩ := rd_slice (F := fuel) (n := 1) Tryz.underlying32 (by kernel_rfl) (by omega) (of_decide_eq_true (by kernel_rfl)) (rd_i fuel) fuel (by omega) _ _ hf hw
 obtain ⟨us, rfl, hu⟩ := rows_ints rows hr
 refine ⟨us, (hrd.2 0 _ _ rfl rfl).2, ?_⟩
 rw [show Tryz.prog.bytesOf 3 = 8 by kernel_rfl] at hl
 rw [hu]
 unfold reachBytes at hl
 omega
end
end Go.Ae

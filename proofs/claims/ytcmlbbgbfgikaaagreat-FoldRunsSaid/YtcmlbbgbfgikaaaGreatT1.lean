/- Part 1 of the proof: Ae5, Ae6, Ae7, Ae8, Ae9. -/
import Derived.Test.YtcmlbbgbfgikaaaGreatT0
import Derived.Laws.StructEq
import Derived.Laws.IdiomStrings
set_option linter.unusedSimpArgs false
set_option linter.unusedVariables false
namespace Go.Ae
def AllP : List Prop → Prop
 | [] => True
 | p :: l => p ∧ AllP l
theorem ob0 : AllP [] := trivial
theorem ob1 {p : Prop} {l : List Prop} (h : p) (k : AllP l) : AllP (p :: l) := ⟨h, k⟩
theorem AllP_append {l k : List Prop} : AllP (l ++ k) ↔ AllP l ∧ AllP k := by
 induction l with
 | nil => simp [AllP]
 | cons p l ih => simp [AllP, ih, and_assoc]
def Res.adj (en : Ent) (res : Res) : Res :=
 match en with
 | .bit b => match res.r with
  | .sc (.bool x) => { res with r := .sc (.bool b), ob := res.ob ++ [x = b] }
  | _ => res
 | .int n => match res.r with
  | .sc (.int k x) => { res with r := .sc (.int k n), ob := res.ob ++ [x = n] }
  | _ => res
 | .str s => match res.r with
  | .sc (.string x) => { res with r := .sc (.string s), ob := res.ob ++ [x = s] }
  | _ => res
 | .rows ys => match res.r with
  | .sl sz xs f => { res with r := .sl sz ys f, ob := res.ob ++ [xs = ys] }
  | _ => res
 | _ => res
theorem OpOk.adj {M : Mem} {μ : List Bd} {st : List AObj} {w : World} {res : Res} {run : Result Next} {en : Ent} (hob : AllP (res.adj en).ob)
  (h : AllP res.ob → OpOk M μ st w res run) : OpOk M μ st w (res.adj en) run := by
 unfold Res.adj at *
 cases en with
 | bit b =>
  simp only at *
  split at hob
  ·rename_i x hx
   simp only [AllP_append, AllP, and_true] at hob
   obtain ⟨v, w', M', μ', h1, h2, h3, h4, h5⟩ := h hob.1
   refine ⟨v, w', M', μ', h1, h2, h3, h4, ?_⟩
   rw [hx, hob.2] at h5
   exact h5
  ·exact h hob
 | int n =>
  simp only at *
  split at hob
  ·rename_i k x hx
   simp only [AllP_append, AllP, and_true] at hob
   obtain ⟨v, w', M', μ', h1, h2, h3, h4, h5⟩ := h hob.1
   refine ⟨v, w', M', μ', h1, h2, h3, h4, ?_⟩
   rw [hx, hob.2] at h5
   exact h5
  ·exact h hob
 | str s =>
  simp only at *
  split at hob
  ·rename_i x hx
   simp only [AllP_append, AllP, and_true] at hob
   obtain ⟨v, w', M', μ', h1, h2, h3, h4, h5⟩ := h hob.1
   refine ⟨v, w', M', μ', h1, h2, h3, h4, ?_⟩
   rw [hx, hob.2] at h5
   exact h5
  ·exact h hob
 | rows ys =>
  simp only at *
  split at hob
  ·rename_i sz xs f hx
   simp only [AllP_append, AllP, and_true] at hob
   obtain ⟨v, w', M', μ', h1, h2, h3, h4, h5⟩ := h hob.1
   refine ⟨v, w', M', μ', h1, h2, h3, h4, ?_⟩
   rw [hx, hob.2] at h5
   exact h5
  ·exact h hob
 | _ => exact h hob
section
variable {P : Program} {M : Mem} {μ : List Bd} {st : List AObj} {w : World} {ρ : Operand → AV} {ρc : Operand → Value} {o : Oper} {en : Ent} {slot : Nat}
theorem ok_move (hst : StoreOk M μ st w) (hρ : ∀ x, RepV M μ (ρ x) (ρc x)) {x : Operand} (ho : o.op = .move x) : OpOk M μ st w ⟨ρ x, [], [], []⟩ ((execOp ρc o).run P w) :=
 OpOk.val hst (by simp [execOp, ho]) (hρ x)
theorem ok_assign (hst : StoreOk M μ st w) (hρ : ∀ x, RepV M μ (ρ x) (ρc x)) {x : Operand} (ho : o.op = .assign x) : OpOk M μ st w ⟨ρ x, [], [], []⟩ ((execOp ρc o).run P w) :=
 OpOk.val hst (by simp [execOp, ho]) (hρ x)
def pickA (c a b : AV) : Option Res :=
 match c with
 | .sc (.bool t) => match t with
  | true => some ⟨a, [], [], []⟩
  | false => some ⟨b, [], [], []⟩
 | _ => none
theorem ok_pick (hst : StoreOk M μ st w) (hρ : ∀ x, RepV M μ (ρ x) (ρc x)) {c x y : Operand} (ho : o.op = .pick c x y) {res : Res} (h : pickA (ρ c) (ρ x) (ρ y) = some res) :
  OpOk M μ st w res ((execOp ρc o).run P w) := by
 unfold pickA at h
 have hc := hρ c
 split at h
 ·rename_i t e
  rw [e] at hc
  have ev := hc.scv
  cases t with
  | true => cases h; exact OpOk.val hst (by simp [execOp, ho, ev, asBool]) (hρ x)
  | false => cases h; exact OpOk.val hst (by simp [execOp, ho, ev, asBool]) (hρ y)
 ·cases h
def zeroA (P : Program) (t : TypeId) : Option (List AV) := (P.info? t).bind fun i => i.zero.bind fun z =>
 bif (z.cells.toList.map cvt1).all oneB then some (z.cells.toList.map cvt1) else none
theorem zeroA_rep {t : TypeId} {cs : List AV} (h : zeroA P t = some cs) (M : Mem) (μ : List Bd) : ∃ i z, P.info? t = some i ∧ i.zero = some z ∧ RL M μ cs z.cells := by
 unfold zeroA at h
 obtain ⟨i, hi, h⟩ := Option.bind_eq_some_iff.1 h
 obtain ⟨z, hz, h⟩ := Option.bind_eq_some_iff.1 h
 cases hb : (z.cells.toList.map cvt1).all oneB with
 | false => rw [hb] at h; cases h
 | true =>
  rw [hb] at h
  cases h
  rw [List.all_eq_true] at hb
  refine ⟨i, z, hi, hz, by simp, fun j a e => ?_⟩
  have hm := hb a (List.mem_of_getElem? e)
  rw [List.getElem?_map] at e
  obtain ⟨v, e1, rfl⟩ := Option.map_eq_some_iff.1 e
  exact ⟨v, by rw [← Array.getElem?_toList]; exact e1, oneB_spec hm (cvt1_rep M μ v), cvt1_rep M μ v⟩
def allocA (P : Program) (slot : Nat) (t : TypeId) : Option Res :=
 (zeroA P t).map fun cs => ⟨.lp slot 0, [(slot, .cells cs [])], [(slot, true)], []⟩
theorem ok_alloc (hst : StoreOk M μ st w) (hs : st[slot]? = some .gone) {t : TypeId} (ho : o.op = .alloc t) {res : Res} (h : allocA P slot t = some res) :
  OpOk M μ st w res ((execOp ρc o).run P w) := by
 obtain ⟨cs, hz, rfl⟩ := Option.map_eq_some_iff.1 h
 obtain ⟨i, z, hi, hz, hr⟩ := zeroA_rep hz M μ
 exact OpOk.newCells hst hs hr (t := t) (by simp [execOp, ho, Instr.alloc, run_zeroValue w hi hz, newVar, newRow])
def boxA (slot : Nat) (x : AV) : Option Res := (cellsOf x).map fun cs => ⟨.lp slot 0, [(slot, .cells cs [])], [(slot, true)], []⟩
theorem ok_box (hst : StoreOk M μ st w) (hs : st[slot]? = some .gone) (hρ : ∀ x, RepV M μ (ρ x) (ρc x)) {t : TypeId} {x : Operand} (ho : o.op = .box t x) {res : Res} (h : boxA slot (ρ x) = some res) :
  OpOk M μ st w res ((execOp ρc o).run P w) := by
 obtain ⟨cs, hc, rfl⟩ := Option.map_eq_some_iff.1 h
 exact OpOk.newCells hst hs (cellsOf_rep hc (hρ x)) (t := t) (by simp [execOp, ho, Instr.box, newVar, newRow])
def partsA (ρ : Operand → AV) (ps : Array (Nat × Operand)) : List (Nat × AV) := ps.toList.map fun p => (p.1, ρ p.2)
theorem partsA_rep (hρ : ∀ x, RepV M μ (ρ x) (ρc x)) (ps : Array (Nat × Operand)) : (partsA ρ ps).length = (ps.map fun (i, x) => (i, ρc x)).toList.length ∧
  ∀ (j : Nat) (p : Nat × AV) (q : Nat × Value), (partsA ρ ps)[j]? = some p → (ps.map fun (i, x) => (i, ρc x)).toList[j]? = some q → p.1 = q.1 ∧ RepV M μ p.2 q.2 := by
 refine ⟨by simp [partsA], fun j p q e1 e2 => ?_⟩
 simp only [partsA, List.getElem?_map] at e1
 rw [Array.toList_map, List.getElem?_map] at e2
 obtain ⟨x, e3, rfl⟩ := Option.map_eq_some_iff.1 e1
 rw [e3] at e2
 cases e2
 exact ⟨rfl, hρ _⟩
def placesL (P : Program) : List Field → Option (List (Nat × Nat))
 | [] => some []
 | f :: fs => match szT P f.type, placesL P fs with
  | some n, some l => some ((f.offset, n) :: l)
  | _, _ => none
theorem run_places (fields : Array Field) {l : List (Nat × Nat)} (h : placesL P fields.toList = some l) (w : World) :
  ((fields.mapM fun f => Prod.mk f.offset <$> sizeOf f.type) : Sem (Array (Nat × Nat))).run P w = .ok l.toArray w := by
 have key : ∀ (fs : List Field) (l : List (Nat × Nat)), placesL P fs = some l → ((fs.mapM fun f => Prod.mk f.offset <$> sizeOf f.type) : Sem (List (Nat × Nat))).run P w = .ok l w := by
  intro fs
  induction fs with
  | nil => intro l h; simp only [placesL, Option.some.injEq] at h; subst h; simp
  | cons f fs ih =>
   intro l h
   simp only [placesL] at h
   split at h
   ·rename_i n l' h1 h2
    cases h
    obtain ⟨i, hi, rfl⟩ := Option.map_eq_some_iff.1 h1
    simp [run_sizeOf w hi, ih l' h2]
   ·cases h
 rw [← Array.toArray_toList (xs := fields)]
 simp only [List.mapM_toArray]
 simp [key _ _ h]
def buildA (P : Program) (t : TypeId) (ps : List (Nat × AV)) : Option Res :=
 match P.underlying t with
 | some (.struct fields) => match zeroA P t, placesL P fields.toList with
  | some zs, some pl => (fillA (fun i => pl[i]?) zs ps).map fun cs => ⟨.agg cs, [], [], []⟩
  | _, _ => none
 | _ => none
theorem ok_build (hst : StoreOk M μ st w) (hρ : ∀ x, RepV M μ (ρ x) (ρc x)) {t : TypeId} {ps : Array (Nat × Operand)} (ho : o.op = .build t ps) {res : Res}
  (h : buildA P t (partsA ρ ps) = some res) : OpOk M μ st w res ((execOp ρc o).run P w) := by
 unfold buildA at h
 split at h
 ·rename_i fields hu
  split at h
  ·rename_i zs pl hz hp
   obtain ⟨cs, hf, rfl⟩ := Option.map_eq_some_iff.1 h
   obtain ⟨i, z, hi, hz, hr⟩ := zeroA_rep hz M μ
   obtain ⟨h1, h2⟩ := partsA_rep hρ ps
   obtain ⟨c', k1, k2⟩ := fill_rep _ _ _ _ _ hf hr h1 h2
   refine OpOk.val hst (v := .agg c') ?_ k2.toAgg
   have k1' : Instr.fill (fun x => pl[x]?) z.cells (ps.toList.map fun x => (x.1, ρc x.2)) = some c' := by simpa using k1
   simp [execOp, ho, Instr.build, run_zeroValue w hi hz, run_underlying hu, run_places fields hp, k1']
  ·cases h
 ·cases h
def chunk (sz : Nat) : Nat → List AV → List (List AV)
 | 0, _ => []
 | n + 1, l => l.take sz :: chunk sz n (l.drop sz)
theorem chunk_length (sz : Nat) : ∀ (n : Nat) (l : List AV), (chunk sz n l).length = n
 | 0, _ => rfl
 | n + 1, l => by simp [chunk, chunk_length sz n]
theorem chunk_get (sz : Nat) : ∀ (n : Nat) (l : List AV) (i : Nat), i < n → (chunk sz n l)[i]? = some ((l.drop (i * sz)).take sz)
 | 0, _, _, h => by omega
 | n + 1, l, 0, _ => by simp [chunk]
 | n + 1, l, i + 1, h => by
  simp only [chunk, List.getElem?_cons_succ]
  rw [chunk_get sz n _ i (by omega), List.drop_drop, show sz + i * sz = (i + 1) * sz by rw [Nat.succ_mul, Nat.add_comm]]
theorem RL.rows {M : Mem} {cs : List AV} {c : Array Value} {sz n : Nat} (h : RL M μ cs c) (hl : cs.length = n * sz) (hd : cs.all (dataB 6) = true) : RowsIn M sz (chunk sz n cs) c := by
 have hget : ∀ (i : Nat) (row : List AV), (chunk sz n cs)[i]? = some row → i < n ∧ row = (cs.drop (i * sz)).take sz := fun i row e => by
  have hi : i < n := by rw [← chunk_length sz n cs]; exact (List.getElem?_eq_some_iff.1 e).1
  rw [chunk_get sz n cs i hi] at e
  cases e
  exact ⟨hi, rfl⟩
 have hle : ∀ i, i < n → i * sz + sz ≤ n * sz := fun i hi => by rw [← Nat.succ_mul]; exact Nat.mul_le_mul_right sz hi
 refine ⟨fun i row e => ?_, fun i row j a e1 e2 => ?_⟩
 ·obtain ⟨hi, rfl⟩ := hget i row e
  have := hle i hi
  simp; omega
 ·obtain ⟨hi, rfl⟩ := hget i row e1
  have hj : j < sz := by
   have := (List.getElem?_eq_some_iff.1 e2).1
   simp at this; omega
  rw [List.getElem?_take, if_pos hj, List.getElem?_drop] at e2
  obtain ⟨v, e3, e4, e5⟩ := h.2 _ a e2
  rw [List.all_eq_true] at hd
  exact ⟨v, e3, e4, e5.ofData 6 (hd a (List.mem_of_getElem? e2))⟩
theorem RL.zeros {zs : List AV} {z : Array Value} (h : RL M μ zs z) (n : Nat) (hn : zs ≠ []) :
  RL M μ ((List.range n).map fun k => zs.getD (k % zs.length) .any) ((Array.range n).map (z[· % z.size]!)) := by
 refine ⟨by simp, fun j a e => ?_⟩
 rw [List.getElem?_map] at e
 obtain ⟨k, e1, rfl⟩ := Option.map_eq_some_iff.1 e
 have hj : j < n := by
  have := (List.getElem?_eq_some_iff.1 e1).1
  simpa using this
 rw [List.getElem?_range hj] at e1
 cases e1
 have hp : 0 < zs.length := List.length_pos_iff.2 hn
 have hlt : j % zs.length < zs.length := Nat.mod_lt _ hp
 obtain ⟨v, e2, e3, e4⟩ := h.2 (j % zs.length) _ (List.getElem?_eq_getElem hlt)
 refine ⟨v, ?_, e3, by rw [List.getD_eq_getElem?_getD, List.getElem?_eq_getElem hlt]; exact e4⟩
 rw [Array.getElem?_map, Array.getElem?_range, if_pos hj]
 simp only [Option.map_some, Option.some.injEq]
 rw [h.1, getElem!_def, e2]
def buildSliceA (P : Program) (slot : Nat) (en : Ent) (t : TypeId) (n : Nat) (ps : List (Nat × AV)) : Option Res :=
 match P.underlying t with
 | some (.slice e) => match szT P e, zeroA P e with
  | some sz, some zs =>
   bif Nat.ble 1 sz && Nat.ble 1 zs.length && Nat.ble (n * sz) 16777216 then
    (fillA (fun i => some (i * sz, sz)) ((List.range (n * sz)).map fun k => zs.getD (k % zs.length) .any) ps).bind fun cs =>
     bif cs.all (dataB 6) && Nat.beq cs.length (n * sz) then (match en with
      | .loc => bif Nat.ble 1 n then some ⟨.la slot 1, [(slot, .arr 1 sz (chunk sz n cs))], [(slot, true)], []⟩ else none
      | _ => some ⟨.sl sz (chunk sz n cs) true, [], [], []⟩) else none
   else none
  | _, _ => none
 | _ => none
theorem ok_buildSlice (hst : StoreOk M μ st w) (hs : st[slot]? = some .gone) (hρ : ∀ x, RepV M μ (ρ x) (ρc x)) {t : TypeId} {n : Nat} {ps : Array (Nat × Operand)} (ho : o.op = .buildSlice t n ps) {res : Res}
  (h : buildSliceA P slot en t n (partsA ρ ps) = some res) : OpOk M μ st w res ((execOp ρc o).run P w) := by
 unfold buildSliceA at h
 split at h
 ·rename_i e hu
  split at h
  ·rename_i sz zs hsz hz
   cases hb : (Nat.ble 1 sz && Nat.ble 1 zs.length && Nat.ble (n * sz) 16777216) with
   | false => rw [hb] at h; cases h
   | true =>
    rw [hb] at h
    simp only [cond_true] at h
    simp only [Bool.and_eq_true] at hb
    have h1 : 1 ≤ sz := Nat.le_of_ble_eq_true hb.1.1
    have h2 : 1 ≤ zs.length := Nat.le_of_ble_eq_true hb.1.2
    have h3 : n * sz ≤ 16777216 := Nat.le_of_ble_eq_true hb.2
    obtain ⟨i, hi, rfl⟩ := Option.map_eq_some_iff.1 hsz
    obtain ⟨i', z, hi', hz, hr⟩ := zeroA_rep hz M μ
    rw [hi] at hi'
    cases hi'
    have hne : zs ≠ [] := fun e => by subst e; simp at h2
    obtain ⟨cs, hf, h⟩ := Option.bind_eq_some_iff.1 h
    have hr0 := hr.zeros (n * i.size) hne
    obtain ⟨k1, k2⟩ := partsA_rep hρ ps
    obtain ⟨c', g1, g2⟩ := fill_rep _ _ _ _ _ hf hr0 k1 k2
    cases hb2 : (cs.all (dataB 6) && Nat.beq cs.length (n * i.size)) with
    | false => rw [hb2] at h; cases h
    | true =>
     rw [hb2] at h
     simp only [cond_true] at h
     simp only [Bool.and_eq_true] at hb2
     have hl := Nat.eq_of_beq_eq_true hb2.2
     have hrows := g2.rows hl hb2.1
     have hrun : (execOp ρc o).run P w = .ok (.value (.slice (some ⟨w.heap.size, 0, none⟩) n n)) (({ w with drawn := w.drawn } : World).alloc (.cells c' e)) := by
      have hps : (ps.map fun (x : Nat × Operand) => (x.fst, ρc x.snd)).toList = (ps.map fun (i, x) => (i, ρc x)).toList := rfl
      by_cases h0 : n * i.size = 0
      ·have g1' : Instr.fill (fun i_1 => some (i_1 * i.size, i.size)) ((Array.range (n * i.size)).map ((#[] : Array Value)[· % (#[] : Array Value).size]!)) (ps.map fun (i, x) => (i, ρc x)).toList = some c' := by
        rw [← g1]; simp [h0, Array.range_zero']
       simp only [execOp, ho, Instr.buildSlice, Sem.run_bind, run_underlying hu, Result.andThen_ok, run_sizeOf w hi]
       rw [if_neg (by omega), if_pos h0]
       simp only [Sem.run_bind, Sem.run_pure, Result.andThen_ok, hps, g1']
       simp [newRow]
      ·have g1' : Instr.fill (fun i_1 => some (i_1 * i.size, i.size)) ((Array.range (n * i.size)).map (z.cells[· % z.cells.size]!)) (ps.map fun (i, x) => (i, ρc x)).toList = some c' := by
        rw [← g1]
       simp only [execOp, ho, Instr.buildSlice, Sem.run_bind, run_underlying hu, Result.andThen_ok, run_sizeOf w hi]
       rw [if_neg (by omega), if_neg h0]
       simp only [Sem.run_bind, Sem.run_pure, Result.andThen_ok, run_zeroValue w hi hz, hps, g1']
       simp [newRow]
     have hn := chunk_length i.size n cs
     cases en with
     | loc =>
      simp only at h
      cases hb3 : Nat.ble 1 n with
      | false => rw [hb3] at h; cases h
      | true =>
       rw [hb3] at h
       cases h
       exact OpOk.newArr hst hs hrows hn (Nat.le_refl n) (by rw [g2.1, hl]) hrun
     | _ =>
      cases h
      exact OpOk.newRow hst hrows hn (Nat.le_refl n) (fun _ => rfl) hrun
  ·cases h
 ·cases h
end
end Go.Ae
namespace Go.Ae
theorem getO_some {st : List AObj} {l : Nat} {o : AObj} (h : getO st l = o) (hh : o.here = true) : st[l]? = some o := by
 unfold getO at h
 rw [List.getD_eq_getElem?_getD] at h
 cases e : st[l]? with
 | none => rw [e] at h; simp at h; subst h; cases hh
 | some x => rw [e] at h; simp at h; rw [h]
section
variable {P : Program} {M : Mem} {μ : List Bd} {st : List AObj} {w : World} {ρ : Operand → AV} {ρc : Operand → Value} {o : Oper} {en : Ent} {slot : Nat}
theorem obj_cells (hst : StoreOk M μ st w) {l off : Nat} {cs : List AV} {ro : List Nat} {v : Value} (h : getO st l = .cells cs ro) (hr : RepV M μ (.lp l off) v) :
  ∃ b c t, v = .pointer (some ⟨b, off, none⟩) ∧ w.heap[b]? = some (.cells c t (0, 0)) ∧ RL M μ cs c ∧ st[l]? = some (.cells cs ro) ∧ μ[l]? = some (Bd.at b) ∧ (∀ x, x ∉ ro → M b x = none) := by
 have e1 := getO_some h rfl
 cases hr with
 | lp e2 =>
  obtain ⟨b, c, t, e3, h2, h3, h4, h5⟩ := hst.rep l _ _ e1 e2
  have e4 := congrArg Bd.b e3
  simp only [Bd.at, Option.some.injEq] at e4
  subst e4
  exact ⟨_, c, t, rfl, h2, ⟨h3, h4⟩, e1, e2, h5⟩
theorem obj_arr (hst : StoreOk M μ st w) {l g sz : Nat} {rows : List (List AV)} (h : getO st l = .arr g sz rows) :
  ∃ bd, st[l]? = some (.arr g sz rows) ∧ μ[l]? = some bd ∧ RepO M μ w (.arr g sz rows) bd := by
 have e1 := getO_some h rfl
 have hl : l < μ.length := by rw [hst.len]; exact (List.getElem?_eq_some_iff.1 e1).1
 exact ⟨μ[l], e1, List.getElem?_eq_getElem hl, hst.rep l _ _ e1 (List.getElem?_eq_getElem hl)⟩
theorem exec_v {x : Sem Value} {v : Value} {w w' : World} (h : x.run P w = .ok v w') : (do pure (Next.value (← x)) : Sem Next).run P w = .ok (.value v) w' := by simp [h]
theorem exec_u {x : Sem Unit} {w w' : World} (h : x.run P w = .ok () w') : (do x; pure Next.skip : Sem Next).run P w = .ok .skip w' := by simp [h]
def loadA (P : Program) (look : Nat → AObj) (en : Ent) (t : TypeId) (p : AV) : Option Res :=
 match p with
 | .ip (c :: cs) off => (ldA P t (c :: cs) off).map fun r => ⟨r, [], [], []⟩
 | .lp l off => match look l with
  | .cells cs _ => (ldA P t cs off).map fun r => ⟨r, [], [(l, false)], []⟩
  | _ => none
 | .le l g i off => match look l with
  | .arr c _ rows => match en with
   | .row _ cs => bif Nat.beq g c then (ldA P t cs off).map fun r => ⟨r, [], [(l, false)], [rows[i]? = some cs]⟩ else none
   | _ => none
  | _ => none
 | _ => none
theorem ok_load (hst : StoreOk M μ st w) (hρ : ∀ x, RepV M μ (ρ x) (ρc x)) {t : TypeId} {x : Operand} (ho : o.op = .load t x) {res : Res}
  (h : loadA P (getO st) en t (ρ x) = some res) (hob : AllP res.ob) : OpOk M μ st w res ((execOp ρc o).run P w) := by
 have hx := hρ x
 have key : ∀ v, (Instr.loadAt t (ρc x)).run P w = .ok v w → (execOp ρc o).run P w = .ok (.value v) w := fun v hv => by
  simp only [execOp, ho]; exact exec_v hv
 unfold loadA at h
 split at h
 ·rename_i c0 cs off e
  obtain ⟨r, hl, rfl⟩ := Option.map_eq_some_iff.1 h
  rw [e] at hx
  generalize ρc x = v at *
  cases hx with
  | ip f hne hm hr =>
   obtain ⟨v, h1, h2⟩ := run_loadAt (P := P) w hl (fun j a e => ⟨f j, (hst.mem _ _ _ (hm j a e)).1, hr j a e⟩)
   exact OpOk.val hst (key v h1) h2.data
 ·rename_i l off e
  split at h
  ·rename_i cs ro hl
   obtain ⟨r, hld, rfl⟩ := Option.map_eq_some_iff.1 h
   rw [e] at hx
   obtain ⟨b, c, ty, hv, h2, h3, _⟩ := obj_cells hst hl hx
   obtain ⟨v, h4, h5⟩ := run_loadAt (P := P) (b := b) (o := 0) w hld (fun j a e => by
    obtain ⟨v, e1, _, e2⟩ := h3.2 j a e
    exact ⟨v, by rw [cell_of_heap h2, Nat.zero_add]; exact e1, e2⟩)
   rw [Nat.zero_add, ← hv] at h4
   exact OpOk.val hst (key v h4) h5
  ·cases h
 ·rename_i l g i off e
  split at h
  ·rename_i c sz rows hl
   split at h
   ·rename_i k cs
    cases hg : Nat.beq g c with
    | false => rw [hg] at h; cases h
    | true =>
     rw [hg] at h
     simp only [cond_true] at h
     obtain ⟨r, hld, rfl⟩ := Option.map_eq_some_iff.1 h
     have := Nat.eq_of_beq_eq_true hg
     subst this
     simp only [AllP, and_true] at hob
     rw [e] at hx
     obtain ⟨bd, e1, e2, q1, q2, q3, q4, q5⟩ := obj_arr hst hl
     generalize ρc x = v at *
     cases hx with
     | le k1 k2 k3 k4 k5 =>
      rw [e2] at k1
      cases k1
      obtain ⟨b, hb, rfl⟩ := k4 q2
      rw [hb] at q5
      obtain ⟨c, ty, m1, m2, m3, m4, m5, m6⟩ := q5
      obtain ⟨v, h4, h5⟩ := run_loadAt (P := P) (M := M) (μ := []) (b := b) (o := i * bd.sz) w hld (fun j a e => by
       obtain ⟨v, z1, _, z2⟩ := m5 i cs j a hob e
       exact ⟨v, by rw [cell_of_heap m1, q3]; exact z1, z2⟩)
      exact OpOk.val hst (key v h4) h5.data
   ·cases h
  ·cases h
 ·cases h
def storeA (P : Program) (look : Nat → AObj) (en : Ent) (t : TypeId) (p x : AV) : Option Res :=
 match szT P t, cellsOf x with
 | some n, some vs => match p with
  | .lp l off => match look l with
   | .cells cs ro => bif Nat.beq vs.length n && Nat.ble (off + n) cs.length && (List.range n).all (fun j => !memB (off + j) ro) then
     some ⟨.sc undef, [(l, .cells (putL cs off vs) ro)], [(l, true)], []⟩ else none
   | _ => none
  | .le l g i off => match look l with
   | .arr c sz rows => match en with
    | .row _ cs => bif Nat.beq g c && Nat.beq vs.length n && Nat.ble (off + n) cs.length && vs.all (dataB 6) then
      some ⟨.sc undef, [(l, .arr c sz (rows.set i (putL cs off vs)))], [(l, true)], [rows[i]? = some cs]⟩ else none
    | _ => none
   | _ => none
  | _ => none
 | _, _ => none
theorem cell_put {w w' : World} {b : Nat} {c : Array Value} {t : TypeId} (h : Put w w' b c t) {b' x : Nat} (hb : b' ≠ b) : w'.cell? ⟨b', x, none⟩ = w.cell? ⟨b', x, none⟩ := by
 simp only [World.cell?, h.other b' hb]
theorem ok_store (hst : StoreOk M μ st w) (hρ : ∀ x, RepV M μ (ρ x) (ρc x)) {t : TypeId} {p x : Operand} (ho : o.op = .store t p x) {res : Res}
  (h : storeA P (getO st) en t (ρ p) (ρ x) = some res) (hob : AllP res.ob) : OpOk M μ st w res ((execOp ρc o).run P w) := by
 have hp := hρ p
 have hx := hρ x
 have key : ∀ w', (Instr.storeAt t (ρc p) (ρc x)).run P w = .ok () w' → (execOp ρc o).run P w = .ok .skip w' := fun w' hv => by
  simp only [execOp, ho]; exact exec_u hv
 unfold storeA at h
 split at h
 ·rename_i n vs hn hvs
  have hvr := cellsOf_rep hvs hx
  obtain ⟨i, hi, rfl⟩ := Option.map_eq_some_iff.1 hn
  split at h
  ·rename_i l off ep
   split at h
   ·rename_i cs ro hl
    cases hc : (Nat.beq vs.length i.size && Nat.ble (off + i.size) cs.length && (List.range i.size).all (fun j => !memB (off + j) ro)) with
    | false => rw [hc] at h; cases h
    | true =>
     rw [hc] at h
     cases h
     simp only [Bool.and_eq_true] at hc
     have h1 : vs.length = i.size := Nat.eq_of_beq_eq_true hc.1.1
     have h2 : off + i.size ≤ cs.length := Nat.le_of_ble_eq_true hc.1.2
     have h3 : ∀ j, j < i.size → off + j ∉ ro := fun j hj hm => by
      have := List.all_eq_true.1 hc.2 j (by simpa using hj)
      rw [memB_iff.2 hm] at this
      cases this
     rw [ep] at hp
     obtain ⟨b, c, ty, hv, q2, q3, q4, q5, q6⟩ := obj_cells hst hl hp
     obtain ⟨w', g1, g2⟩ := run_storeAt (P := P) w hi (by rw [hvr.1, h1]) q2 (by rw [hvr.1, q3.1, h1]; exact h2) hvr.one
     rw [← hv] at g1
     have hlt : l < st.length := (List.getElem?_eq_some_iff.1 q4).1
     have hset : μ.set l (Bd.at b) = μ := by
      apply List.ext_getElem?
      intro j
      by_cases hj : j = l
      ·subst hj; rw [List.getElem?_set_self (by rw [hst.len]; exact hlt), q5]
      ·rw [List.getElem?_set_ne (Ne.symm hj)]
     have hup : StoreOk M (μ.set l (Bd.at b)) (st.set l (.cells (putL cs off vs) ro)) w' := by
      refine hst.update hlt (.refl M) (fun bd e => by rw [q5] at e; cases e; exact .refl _) (fun b' _ ⟨j, y, q, hj, e1, hy, e2, e3⟩ => ?_) (fun j y q b' e1 hy e2 e3 => hst.lt e1 hy e2 e3) ?_ (fun e => by cases e) (fun b' e _ j y q hj e1 hy e2 e3 => ?_) (fun b' y u e => ?_)
      ·have hne : b' ≠ b := fun e => hst.apart l j _ y _ q b (Ne.symm hj) q4 e1 rfl hy q5 e2 rfl (e ▸ e3)
       exact ⟨g2.other b' hne, fun _ h => h⟩
      ·rw [hset]
       have hput := q3.put hvr (off := off) (by rw [h1]; exact h2)
       exact ⟨b, _, ty, rfl, g2.here, hput.1, hput.2, q6⟩
      ·cases e
       exact hst.apart l j _ y _ q b (Ne.symm hj) q4 e1 rfl hy q5 e2 rfl e3
      ·obtain ⟨k1, k2⟩ := hst.mem b' y u e
       refine ⟨?_, k2⟩
       by_cases hb : b' = b
       ·subst hb
        rw [cell_of_heap q2] at k1
        rw [cell_of_heap g2.here, putA_get _ _ _ _ (by rw [Array.length_toList, hvr.1, q3.1, h1]; exact h2)]
        rw [if_neg, k1]
        intro hy
        rw [Array.length_toList, hvr.1, h1] at hy
        have : y ∉ ro := by
         have := h3 (y - off) (by omega)
         rwa [show off + (y - off) = y by omega] at this
        rw [q6 y this] at e
        cases e
       ·rw [cell_put g2 hb]; exact k1
     rw [hset] at hup
     refine ⟨undef, w', M, μ, .inr ⟨key w' g1, rfl⟩, hup, ⟨g2.os, g2.tape, g2.output, by rw [g2.size]; exact Nat.le_refl _, fun b' hb' hown => ?_, .refl M, fun b' y u e k => by simp [e] at k, fun b' hown => .inr ?_⟩, .refl μ, .sc⟩
     ·exact g2.other b' fun e => hown ⟨l, _, _, q4, rfl, q5, by rw [e]; rfl⟩
     ·obtain ⟨j, y, q, e1, hy, e2, e3⟩ := hown
      by_cases hj : j = l
      ·subst hj
       exact ⟨j, _, q, q4, rfl, e2, e3⟩
      ·simp only [applyWr, List.foldl_cons, List.foldl_nil] at e1
       rw [List.getElem?_set_ne (Ne.symm hj)] at e1
       exact ⟨j, y, q, e1, hy, e2, e3⟩
   ·cases h
  ·rename_i l g i' off ep
   split at h
   ·rename_i gc sz rows hl
    split at h
    ·rename_i kk cs
     cases hc : (Nat.beq g gc && Nat.beq vs.length i.size && Nat.ble (off + i.size) cs.length && vs.all (dataB 6)) with
     | false => rw [hc] at h; cases h
     | true =>
      rw [hc] at h
      cases h
      simp only [Bool.and_eq_true] at hc
      have h0 := Nat.eq_of_beq_eq_true hc.1.1.1
      subst h0
      have h1 : vs.length = i.size := Nat.eq_of_beq_eq_true hc.1.1.2
      have h2 : off + i.size ≤ cs.length := Nat.le_of_ble_eq_true hc.1.2
      have hd := List.all_eq_true.1 hc.2
      simp only [AllP, and_true] at hob
      obtain ⟨bd, q1, q2, r1, r2, r3, r4, r5⟩ := obj_arr hst hl
      rw [ep] at hp
      generalize hpv : ρc p = pv at *
      cases hp with
      | le k1 k2 k3 k4 k5 =>
       rw [q2] at k1
       cases k1
       obtain ⟨b, hb, rfl⟩ := k4 r2
       rw [hb] at r5
       obtain ⟨c, ty, m1, m2, m3, m4, m5, m6⟩ := r5
       have hlen := m4 i' cs hob
       have hi' : i' < rows.length := (List.getElem?_eq_some_iff.1 hob).1
       have hle : i' * sz + sz ≤ c.size := by
        rw [m2, ← Nat.succ_mul]
        exact Nat.mul_le_mul_right sz (by omega)
       obtain ⟨w', g1, g2⟩ := run_storeAt (P := P) (off := i' * bd.sz + off) w hi (by rw [hvr.1, h1]) m1 (by rw [hvr.1, h1, r3]; omega) hvr.one
       have hlt : l < st.length := (List.getElem?_eq_some_iff.1 q1).1
       have hset : μ.set l bd = μ := by
        apply List.ext_getElem?
        intro j
        by_cases hj : j = l
        ·subst hj; rw [List.getElem?_set_self (by rw [hst.len]; exact hlt), q2]
        ·rw [List.getElem?_set_ne (Ne.symm hj)]
       have hrep : RepO M μ w' (.arr g sz (rows.set i' (putL cs off vs))) bd := by
        refine ⟨r1, r2, r3, by simpa using r4, ?_⟩
        rw [hb]
        refine ⟨_, ty, g2.here, by rw [putA_size]; exact m2, by simpa using m3, fun j row e => ?_, fun j row jj a e1 e2 => ?_, m6⟩
        ·by_cases hj : j = i'
         ·subst hj
          rw [List.getElem?_set_self hi'] at e
          cases e
          rw [putL_length (by omega)]; exact hlen
         ·rw [List.getElem?_set_ne (Ne.symm hj)] at e
          exact m4 j row e
        ·have hputl : i' * bd.sz + off + (ρc x).cells.toList.length ≤ c.size := by rw [Array.length_toList, hvr.1, h1, r3]; omega
         rw [putA_get _ _ _ _ hputl]
         rw [Array.length_toList, hvr.1, h1, r3]
         by_cases hj : j = i'
         ·subst hj
          rw [List.getElem?_set_self hi'] at e1
          cases e1
          rw [putL_get (by omega)] at e2
          have hjj : jj < sz := by
           by_cases hz : off ≤ jj ∧ jj < off + vs.length
           ·omega
           ·rw [if_neg hz] at e2
            have := (List.getElem?_eq_some_iff.1 e2).1
            omega
          by_cases hz : off ≤ jj ∧ jj < off + vs.length
          ·rw [if_pos hz] at e2
           rw [if_pos (by omega), show j * sz + jj - (j * sz + off) = jj - off by omega, Array.getElem?_toList]
           obtain ⟨v, z1, z2, z3⟩ := hvr.2 _ a e2
           exact ⟨v, z1, z2, z3.ofData 6 (hd a (List.mem_of_getElem? e2))⟩
          ·rw [if_neg hz] at e2
           rw [if_neg (by omega)]
           exact m5 j cs jj a hob e2
         ·rw [List.getElem?_set_ne (Ne.symm hj)] at e1
          have hjj : jj < sz := by
           rw [← m4 j row e1]
           exact (List.getElem?_eq_some_iff.1 e2).1
          rw [if_neg]
          ·exact m5 j row jj a e1 e2
          ·intro hz
           rcases Nat.lt_or_gt_of_ne hj with hlt2 | hlt2
           ·have : j * sz + sz ≤ i' * sz := by rw [← Nat.succ_mul]; exact Nat.mul_le_mul_right sz hlt2
            omega
           ·have : i' * sz + sz ≤ j * sz := by rw [← Nat.succ_mul]; exact Nat.mul_le_mul_right sz hlt2
            omega
       have hup : StoreOk M (μ.set l bd) (st.set l (.arr g sz (rows.set i' (putL cs off vs)))) w' := by
        refine hst.update hlt (.refl M) (fun q e => by rw [q2] at e; cases e; exact .refl _) (fun b' _ ⟨j, y, q, hj, e1, hy, e2, e3⟩ => ?_) (fun j y q b' e1 hy e2 e3 => hst.lt e1 hy e2 e3) ?_ (fun e => by cases e) (fun b' e _ j y q hj e1 hy e2 e3 => ?_) (fun b' y u e => ?_)
        ·have hne : b' ≠ b := fun e => hst.apart l j _ y _ q b (Ne.symm hj) q1 e1 rfl hy q2 e2 hb (e ▸ e3)
         exact ⟨g2.other b' hne, fun _ h => h⟩
        ·rw [hset]; exact hrep
        ·rw [hb] at e
         cases e
         exact hst.apart l j _ y _ q b (Ne.symm hj) q1 e1 rfl hy q2 e2 hb e3
        ·obtain ⟨z1, z2⟩ := hst.mem b' y u e
         refine ⟨?_, z2⟩
         by_cases hbb : b' = b
         ·subst hbb; rw [m6 y] at e; cases e
         ·rw [cell_put g2 hbb]; exact z1
       rw [hset] at hup
       refine ⟨undef, w', M, μ, .inr ⟨key w' g1, rfl⟩, hup, ⟨g2.os, g2.tape, g2.output, by rw [g2.size]; exact Nat.le_refl _, fun b' hb' hown => ?_, .refl M, fun b' y u e k => by simp [e] at k, fun b' hown => .inr ?_⟩, .refl μ, .sc⟩
       ·exact g2.other b' fun e => hown ⟨l, _, _, q1, rfl, q2, by rw [e]; exact hb⟩
       ·obtain ⟨j, y, q, e1, hy, e2, e3⟩ := hown
        by_cases hj : j = l
        ·subst hj
         exact ⟨j, _, q, q1, rfl, e2, e3⟩
        ·simp only [applyWr, List.foldl_cons, List.foldl_nil] at e1
         rw [List.getElem?_set_ne (Ne.symm hj)] at e1
         exact ⟨j, y, q, e1, hy, e2, e3⟩
    ·cases h
   ·cases h
  ·cases h
 ·cases h
end
end Go.Ae
namespace Go.Ae
section
variable {P : Program} {M : Mem} {μ : List Bd} {st : List AObj} {w : World} {ρ : Operand → AV} {ρc : Operand → Value} {o : Oper} {en : Ent} {slot : Nat}
def nilCheckA (look : Nat → AObj) (x : AV) : Option Res :=
 match x with
 | .lp .. => some ⟨x, [], [], []⟩
 | .ip cs _ => match cs with
  | [] => none
  | _ :: _ => some ⟨x, [], [], []⟩
 | .fn .. => some ⟨x, [], [], []⟩
 | .ifc .. => some ⟨x, [], [], []⟩
 | .le l g _ _ => match look l with
  | .arr c _ _ => bif Nat.beq g c then some ⟨x, [], [(l, false)], []⟩ else none
  | _ => none
 | _ => none
theorem RepV.leCur (hst : StoreOk M μ st w) {l g i off c sz : Nat} {rows : List (List AV)} {v : Value} (hl : getO st l = .arr c sz rows) (hg : Nat.beq g c = true) (h : RepV M μ (.le l g i off) v) :
  ∃ bd b, μ[l]? = some bd ∧ bd.g = g ∧ 0 < g ∧ bd.sz = sz ∧ bd.b = some b ∧ v = .pointer (some ⟨b, i * sz + off, none⟩) := by
 have := Nat.eq_of_beq_eq_true hg
 subst this
 obtain ⟨bd, e1, e2, q1, q2, q3, q4, q5⟩ := obj_arr hst hl
 cases h with
 | le k1 k2 k3 k4 k5 =>
  rw [e2] at k1
  cases k1
  obtain ⟨b, hb, rfl⟩ := k4 q2
  exact ⟨bd, b, e2, q2, k2, q3, hb, by rw [q3]⟩
theorem ok_nilCheck (hst : StoreOk M μ st w) (hρ : ∀ x, RepV M μ (ρ x) (ρc x)) {x : Operand} (ho : o.op = .nilCheck x) {res : Res} (h : nilCheckA (getO st) (ρ x) = some res) :
  OpOk M μ st w res ((execOp ρc o).run P w) := by
 have hx := hρ x
 have key : ∀ v, ρc x = v → (match v with | .pointer (some _) => True | .func (.func _) _ _ => True | .iface .. => True | _ => False) → (execOp ρc o).run P w = .ok (.value v) w := fun v e hv => by
  simp only [execOp, ho, e]
  split at hv <;> first | rfl | exact hv.elim
 generalize hax : ρ x = ax at h hx
 cases ax with
 | lp l off =>
  simp only [nilCheckA, Option.some.injEq] at h
  subst h
  refine OpOk.val hst (key _ rfl ?_) hx
  generalize ρc x = v at hx
  cases hx; trivial
 | ip cs off =>
  cases cs with
  | nil => simp [nilCheckA] at h
  | cons c cs =>
   simp only [nilCheckA, Option.some.injEq] at h
   subst h
   refine OpOk.val hst (key _ rfl ?_) hx
   generalize ρc x = v at hx
   cases hx; trivial
 | fn f cs =>
  simp only [nilCheckA, Option.some.injEq] at h
  subst h
  refine OpOk.val hst (key _ rfl ?_) hx
  generalize ρc x = v at hx
  cases hx; trivial
 | ifc t y =>
  simp only [nilCheckA, Option.some.injEq] at h
  subst h
  refine OpOk.val hst (key _ rfl ?_) hx
  generalize ρc x = v at hx
  cases hx; trivial
 | le l g i off =>
  simp only [nilCheckA] at h
  split at h
  ·rename_i c sz rows hl
   cases hg : Nat.beq g c with
   | false => rw [hg] at h; cases h
   | true =>
    rw [hg] at h
    cases h
    obtain ⟨bd, b, k1, k2, k3, k4, k5, k6⟩ := hx.leCur hst hl hg
    exact OpOk.val hst (key _ rfl (by rw [k6]; trivial)) hx
  ·cases h
 | _ => simp [nilCheckA] at h
def fieldOff (P : Program) (s : TypeId) (f : Nat) : Option Nat :=
 match P.underlying s with
 | some (.struct fields) => match fields[f]? with
  | some fd => match szT P fd.type with
   | some n => bif Nat.ble 1 n then some fd.offset else none
   | none => none
  | none => none
 | _ => none
theorem run_fieldAt {s : TypeId} {f fo : Nat} (h : fieldOff P s f = some fo) (b o : Nat) (w : World) :
  (Instr.fieldAt s (.pointer (some ⟨b, o, none⟩)) f).run P w = .ok (.pointer (some ⟨b, o + fo, none⟩)) w := by
 unfold fieldOff at h
 split at h
 ·rename_i fields hu
  split at h
  ·rename_i fd hf
   split at h
   ·rename_i n hn
    cases hb : Nat.ble 1 n with
    | false => rw [hb] at h; cases h
    | true =>
     rw [hb] at h
     cases h
     have hn1 : 1 ≤ n := Nat.le_of_ble_eq_true hb
     obtain ⟨i, hi, rfl⟩ := Option.map_eq_some_iff.1 hn
     simp only [Instr.fieldAt, Sem.run_bind, run_underlying hu, Result.andThen_ok, hf]
     simp only [Sem.run_bind, Instr.sureAddr, Sem.run_pure, Result.andThen_ok, fieldPlace, run_sizeOf w hi]
     rw [if_neg (by omega)]
     simp [addr_add]
   ·cases h
  ·cases h
 ·cases h
def fieldAddrA (P : Program) (look : Nat → AObj) (s : TypeId) (x : AV) (f : Nat) : Option Res :=
 match fieldOff P s f with
 | some fo => match x with
  | .lp l o => some ⟨.lp l (o + fo), [], [], []⟩
  | .ip (c :: cs) o => some ⟨.ip (c :: cs) (o + fo), [], [], []⟩
  | .le l g i o => match look l with
   | .arr c _ _ => bif Nat.beq g c then some ⟨.le l g i (o + fo), [], [(l, false)], []⟩ else none
   | _ => none
  | _ => none
 | none => none
theorem ok_fieldAddr (hst : StoreOk M μ st w) (hρ : ∀ x, RepV M μ (ρ x) (ρc x)) {s : TypeId} {x : Operand} {f : Nat} (ho : o.op = .fieldAddr s x f) {res : Res}
  (h : fieldAddrA P (getO st) s (ρ x) f = some res) : OpOk M μ st w res ((execOp ρc o).run P w) := by
 have hx := hρ x
 unfold fieldAddrA at h
 split at h
 ·rename_i fo hfo
  have key : ∀ b o', ρc x = .pointer (some ⟨b, o', none⟩) → (execOp ρc o).run P w = .ok (.value (.pointer (some ⟨b, o' + fo, none⟩))) w := fun b o' e => by
   simp only [execOp, ho, e]; exact exec_v (run_fieldAt hfo b o' w)
  split at h
  ·rename_i l off e
   cases h
   rw [e] at hx
   generalize hv : ρc x = v at *
   cases hx with
   | lp e2 => exact OpOk.val hst (key _ _ rfl) (.lp e2)
  ·rename_i c0 cs off e
   cases h
   rw [e] at hx
   generalize hv : ρc x = v at *
   cases hx with
   | ip fv hne hm hr => exact OpOk.val hst (key _ _ rfl) (by rw [Nat.add_assoc]; exact .ip fv hne hm hr)
  ·rename_i l g i off e
   split at h
   ·rename_i c sz rows hl
    cases hg : Nat.beq g c with
    | false => rw [hg] at h; cases h
    | true =>
     rw [hg] at h
     cases h
     rw [e] at hx
     obtain ⟨bd, b, k1, k2, k3, k4, k5, k6⟩ := hx.leCur hst hl hg
     exact OpOk.val hst (key _ _ k6) (.le k1 k3 (by omega) (fun _ => ⟨b, k5, by rw [k4, Nat.add_assoc]⟩) rfl)
   ·cases h
  ·cases h
 ·cases h
def fieldA (P : Program) (s : TypeId) (x : AV) (f : Nat) : Option Res :=
 match P.underlying s with
 | some (.struct fields) => match fields[f]?, x with
  | some fd, .agg cs => (ldA P fd.type cs fd.offset).map fun r => ⟨r, [], [], []⟩
  | _, _ => none
 | _ => none
theorem run_part {t : TypeId} {cs : List AV} {off : Nat} {r : AV} {us : List Value} (h : ldA P t cs off = some r) (hl : us.length = cs.length)
  (hc : ∀ (j : Nat) (a : AV) (u : Value), cs[j]? = some a → us[j]? = some u → RepV M μ a u) (w : World) :
  ∃ v, (part t us.toArray off).run P w = .ok v w ∧ RepV M μ r v := by
 unfold ldA at h
 cases ha : aggT P t with
 | none => simp [ha] at h
 | some agg =>
  cases hs : szT P t with
  | none => cases agg <;> simp [ha, hs] at h
  | some n =>
   obtain ⟨i, hi, rfl⟩ := Option.map_eq_some_iff.1 hs
   cases agg with
   | false =>
    simp only [ha, hs] at h
    have hoff : off < us.length := by rw [hl]; exact (List.getElem?_eq_some_iff.1 h).1
    refine ⟨us[off], ?_, hc off r _ h (List.getElem?_eq_getElem hoff)⟩
    simp only [part, Sem.run_bind, run_isAgg w ha, Result.andThen_ok, Bool.false_eq_true, if_false]
    have : us.toArray[off]? = some us[off] := by simp [hoff]
    rw [this]; rfl
   | true =>
    simp only [ha, hs] at h
    cases hb : Nat.beq ((cs.drop off).take i.size).length i.size with
    | false => rw [hb] at h; cases h
    | true =>
     rw [hb] at h
     cases h
     refine ⟨.agg ((us.drop off).take i.size).toArray, ?_, .agg (by simp [hl]) fun j a u e1 e2 => ?_⟩
     ·simp only [part, Sem.run_bind, run_isAgg w ha, Result.andThen_ok, if_true, run_sizeOf w hi, Sem.run_pure]
      congr 2
      apply Array.ext'
      simp
     ·rw [List.getElem?_take] at e1 e2
      split at e1
      ·rw [List.getElem?_drop] at e1 e2
       exact hc _ a u e1 (by simpa [*] using e2)
      ·cases e1
theorem ok_field (hst : StoreOk M μ st w) (hρ : ∀ x, RepV M μ (ρ x) (ρc x)) {s : TypeId} {x : Operand} {f : Nat} (ho : o.op = .field s x f) {res : Res}
  (h : fieldA P s (ρ x) f = some res) : OpOk M μ st w res ((execOp ρc o).run P w) := by
 have hx := hρ x
 unfold fieldA at h
 split at h
 ·rename_i fields hu
  split at h
  ·rename_i fd cs hf e
   obtain ⟨r, hld, rfl⟩ := Option.map_eq_some_iff.1 h
   rw [e] at hx
   generalize hv : ρc x = v at *
   cases hx with
   | agg hl hr =>
    obtain ⟨u, h1, h2⟩ := run_part (P := P) hld hl hr w
    refine OpOk.val hst (v := u) ?_ h2
    simp only [execOp, ho, hv]
    exact exec_v (by simp [Instr.field, run_underlying hu, hf, asAgg, h1])
  ·cases h
 ·cases h
def indexAddrA (P : Program) (look : Nat → AObj) (en : Ent) (t : TypeId) (x ix : AV) : Option Res :=
 match P.underlying t with
 | some (.slice e) => match szT P e, ix with
  | some n, .sc (.int _ i) => match x with
   | .sl sz xs _ => match en with
    | .row k cs => bif Nat.beq n sz && Nat.ble 1 sz then some ⟨.ip cs 0, [], [], [i = (k : Int), xs[k]? = some cs]⟩ else none
    | _ => none
   | .la l g => match look l with
    | .arr c sz rows => match en with
     | .nat k => bif Nat.beq g c && Nat.beq n sz then some ⟨.le l g k 0, [], [(l, false)], [i = (k : Int), k < rows.length]⟩ else none
     | _ => none
    | _ => none
   | _ => none
  | _, _ => none
 | _ => none
theorem run_indexAt {t e : TypeId} {i : TypeInfo} (hu : P.underlying t = some (.slice e)) (hi : P.info? e = some i) {b o n c k : Nat} {kd : IntKind} (hk : k < n) (w : World) :
  (Instr.indexAt t (.slice (some ⟨b, o, none⟩) n c) (.int kd (k : Int))).run P w = .ok (.pointer (some ⟨b, o + k * i.size, none⟩)) w := by
 simp only [Instr.indexAt, Sem.run_bind, asIntOf, Sem.run_pure, Result.andThen_ok, run_underlying hu]
 rw [if_pos ⟨by omega, by omega⟩]
 simp [run_sizeOf w hi, addr_add]
theorem RepV.slc {M : Mem} {μ : List Bd} {sz : Nat} {xs : List (List AV)} {full : Bool} {v : Value} (h : RepV M μ (.sl sz xs full) v) : ∃ A c, v = .slice A xs.length c ∧ xs.length ≤ c ∧ (full = true → c = xs.length) := by
 cases h with
 | sl0 => exact ⟨_, _, rfl, Nat.zero_le _, by simp⟩
 | sl0f => exact ⟨_, _, rfl, Nat.zero_le _, by simp⟩
 | sl f hne hc hf => exact ⟨_, _, rfl, hc, hf⟩
theorem RepV.laCur (hst : StoreOk M μ st w) {l g c sz : Nat} {rows : List (List AV)} {v : Value} (hl : getO st l = .arr c sz rows) (hg : Nat.beq g c = true) (h : RepV M μ (.la l g) v) :
  ∃ bd, st[l]? = some (.arr g sz rows) ∧ μ[l]? = some bd ∧ bd.g = g ∧ 0 < g ∧ bd.sz = sz ∧ bd.k = rows.length ∧
   ((bd.b = none ∧ rows = [] ∧ bd.n = 0 ∧ ∃ A, v = .slice A 0 0) ∨
    ∃ b cc t, bd.b = some b ∧ v = .slice (some ⟨b, 0, none⟩) rows.length bd.n ∧ w.heap[b]? = some (.cells cc t (0, 0)) ∧ cc.size = bd.n * sz ∧ rows.length ≤ bd.n ∧ RowsIn M sz rows cc ∧ ∀ x, M b x = none) := by
 have := Nat.eq_of_beq_eq_true hg
 subst this
 obtain ⟨bd, e1, e2, q1, q2, q3, q4, q5⟩ := obj_arr hst hl
 cases h with
 | la k1 k2 k3 k4 k5 =>
  rw [e2] at k1
  cases k1
  have hv := k4 q2
  refine ⟨bd, e1, e2, q2, k2, q3, q4, ?_⟩
  unfold LaOk at hv
  cases hb : bd.b with
  | none => rw [hb] at hv q5; exact .inl ⟨rfl, q5.1, q5.2, hv⟩
  | some b =>
   rw [hb] at hv q5
   obtain ⟨cc, t, m1, m2, m3, m4, m5, m6⟩ := q5
   exact .inr ⟨b, cc, t, rfl, by rw [hv, q4], m1, m2, m3, ⟨m4, m5⟩, m6⟩
theorem ok_indexAddr (hst : StoreOk M μ st w) (hρ : ∀ x, RepV M μ (ρ x) (ρc x)) {t : TypeId} {x ix : Operand} (ho : o.op = .indexAddr t x ix) {res : Res}
  (h : indexAddrA P (getO st) en t (ρ x) (ρ ix) = some res) (hob : AllP res.ob) : OpOk M μ st w res ((execOp ρc o).run P w) := by
 have hx := hρ x
 have hix := hρ ix
 unfold indexAddrA at h
 split at h
 ·rename_i e hu
  split at h
  ·rename_i n kd i hn ei
   obtain ⟨ti, hti, rfl⟩ := Option.map_eq_some_iff.1 hn
   rw [ei] at hix
   have hiv := hix.scv
   split at h
   ·rename_i sz xs full ex
    split at h
    ·rename_i k cs
     cases hb : (Nat.beq ti.size sz && Nat.ble 1 sz) with
     | false => rw [hb] at h; cases h
     | true =>
      rw [hb] at h
      cases h
      simp only [Bool.and_eq_true] at hb
      have hsz := Nat.eq_of_beq_eq_true hb.1
      have hpos : 1 ≤ sz := Nat.le_of_ble_eq_true hb.2
      simp only [AllP, and_true] at hob
      obtain ⟨rfl, hget⟩ := hob
      rw [ex] at hx
      have hk : k < xs.length := (List.getElem?_eq_some_iff.1 hget).1
      generalize hxv : ρc x = v at *
      cases hx with
      | sl0 => simp at hk
      | sl0f => simp at hk
      | @sl _ _ _ _ b o' c f hne hc hf hz hm hr =>
       refine OpOk.val hst (v := .pointer (some ⟨b, o' + k * ti.size, none⟩)) ?_ ?_
       ·simp only [execOp, ho, hxv, hiv]
        exact exec_v (run_indexAt hu hti hk w)
       ·rw [hsz]
        exact .ip (b := b) (o := o' + k * sz) (off := 0) (f k) (by intro e; have := hz k cs hget; rw [e] at this; simp at this; omega) (fun j a e => hm k cs j a hget e) (fun j a e => hr k cs j a hget e)
    ·cases h
   ·rename_i l g ex
    split at h
    ·rename_i c sz rows hl
     split at h
     ·rename_i k
      cases hb : (Nat.beq g c && Nat.beq ti.size sz) with
      | false => rw [hb] at h; cases h
      | true =>
       rw [hb] at h
       cases h
       simp only [Bool.and_eq_true] at hb
       have hsz := Nat.eq_of_beq_eq_true hb.2
       simp only [AllP, and_true] at hob
       obtain ⟨rfl, hk⟩ := hob
       rw [ex] at hx
       obtain ⟨bd, e1, e2, e3, e4, e5, e6, h7⟩ := hx.laCur hst hl hb.1
       rcases h7 with ⟨_, rfl, _⟩ | ⟨b, cc, ty, k1, k2, _⟩
       ·simp at hk
       ·refine OpOk.val hst (v := .pointer (some ⟨b, 0 + k * ti.size, none⟩)) ?_ (.le e2 e4 (by omega) (fun _ => ⟨b, k1, by rw [e5, hsz, Nat.zero_add, Nat.add_zero]⟩) rfl)
        simp only [execOp, ho, k2, hiv]
        exact exec_v (run_indexAt hu hti hk w)
     ·cases h
    ·cases h
   ·cases h
  ·cases h
 ·cases h
def indexA (P : Program) (en : Ent) (t : TypeId) (x ix : AV) : Option Res :=
 match P.underlying t with
 | some .string => match x, ix with
  | .sc (.string s), .sc (.int _ i) => match en with
   | .byte k c => some ⟨.sc (.int .u8 c.toNat), [], [], [i = (k : Int), s[k]? = some c]⟩
   | _ => none
  | _, _ => none
 | _ => none
theorem ok_index (hst : StoreOk M μ st w) (hρ : ∀ x, RepV M μ (ρ x) (ρc x)) {t : TypeId} {x ix : Operand} (ho : o.op = .index t x ix) {res : Res}
  (h : indexA P en t (ρ x) (ρ ix) = some res) (hob : AllP res.ob) : OpOk M μ st w res ((execOp ρc o).run P w) := by
 have hx := hρ x
 have hix := hρ ix
 unfold indexA at h
 split at h
 ·rename_i hu
  split at h
  ·rename_i s kd i ex ei
   split at h
   ·rename_i k c
    cases h
    simp only [AllP, and_true] at hob
    obtain ⟨rfl, hget⟩ := hob
    rw [ex] at hx
    rw [ei] at hix
    refine OpOk.val hst (v := .int .u8 c.toNat) ?_ .sc
    simp only [execOp, ho, hx.scv, hix.scv]
    refine exec_v ?_
    simp only [Instr.index, Sem.run_bind, asIntOf, Sem.run_pure, Result.andThen_ok, run_underlying hu]
    rw [if_pos (by omega), Int.toNat_natCast, hget]
    rfl
   ·cases h
  ·cases h
 ·cases h
def extractA (x : AV) (i : Nat) : Option Res :=
 match x with
 | .tup vs => (vs[i]?).map fun r => ⟨r, [], [], []⟩
 | _ => none
theorem ok_extract (hst : StoreOk M μ st w) (hρ : ∀ x, RepV M μ (ρ x) (ρc x)) {x : Operand} {i : Nat} (ho : o.op = .extract x i) {res : Res}
  (h : extractA (ρ x) i = some res) : OpOk M μ st w res ((execOp ρc o).run P w) := by
 have hx := hρ x
 unfold extractA at h
 split at h
 ·rename_i vs e
  obtain ⟨r, hr, rfl⟩ := Option.map_eq_some_iff.1 h
  rw [e] at hx
  generalize hv : ρc x = v at *
  cases hx with
  | @tup _ _ us hl hrep =>
   have hi : i < us.length := by rw [hl]; exact (List.getElem?_eq_some_iff.1 hr).1
   refine OpOk.val hst (v := us[i]) ?_ (hrep i r _ hr (List.getElem?_eq_getElem hi))
   simp only [execOp, ho, hv]
   refine exec_v ?_
   have : us.toArray[i]? = some us[i] := by simp [hi]
   simp only [Instr.extract, this]; rfl
 ·cases h
def ifcA (P : Program) (t : TypeId) (x : AV) : Option Res :=
 match P.underlying t with
 | some (.interface _) => none
 | some _ => some ⟨.ifc t x, [], [], []⟩
 | none => none
theorem ok_makeInterface (hst : StoreOk M μ st w) (hρ : ∀ x, RepV M μ (ρ x) (ρc x)) {t : TypeId} {x : Operand} (ho : o.op = .makeInterface t x) {res : Res}
  (h : ifcA P t (ρ x) = some res) : OpOk M μ st w res ((execOp ρc o).run P w) := by
 unfold ifcA at h
 split at h
 ·cases h
 ·rename_i d hne hu
  cases h
  refine OpOk.val hst (v := .iface t (ρc x)) ?_ (.ifc (hρ x))
  simp only [execOp, ho]
  refine exec_v ?_
  simp only [Instr.makeInterface, Sem.run_bind, run_underlying hu, Result.andThen_ok]
  cases d <;> first | rfl | exact absurd rfl (hne _)
 ·cases h
def fnA (fn : Fn) (first : Array Operand) (caps : List AV) : Option Res :=
 match fn with
 | .func f => bif Nat.beq first.size 0 then some ⟨.fn f caps, [], [], []⟩ else none
 | _ => none
theorem ok_makeFunc (hst : StoreOk M μ st w) (hρ : ∀ x, RepV M μ (ρ x) (ρc x)) {fn : Fn} {first caps : Array Operand} (ho : o.op = .makeFunc fn first caps) {res : Res}
  (h : fnA fn first (caps.toList.map ρ) = some res) : OpOk M μ st w res ((execOp ρc o).run P w) := by
 unfold fnA at h
 split at h
 ·rename_i f
  cases hb : Nat.beq first.size 0 with
  | false => rw [hb] at h; cases h
  | true =>
   rw [hb] at h
   cases h
   have h0 : first = #[] := Array.eq_empty_of_size_eq_zero (Nat.eq_of_beq_eq_true hb)
   subst h0
   refine OpOk.val hst (v := .func (.func f) #[] (caps.toList.map ρc).toArray) ?_ (.fn (by simp) fun j a u e1 e2 => ?_)
   ·simp only [execOp, ho]
    refine exec_v ?_
    have : Array.map ρc caps = (List.map ρc caps.toList).toArray := by apply Array.ext'; simp
    simp [Instr.makeFunc, this]
   ·rw [List.getElem?_map] at e1 e2
    obtain ⟨x, e3, rfl⟩ := Option.map_eq_some_iff.1 e1
    rw [e3] at e2
    cases e2
    exact hρ x
 ·cases h
end
end Go.Ae
namespace Go.Ae
section
variable {P : Program} {M : Mem} {μ : List Bd} {st : List AObj} {w : World} {ρ : Operand → AV} {ρc : Operand → Value} {o : Oper} {en : Ent} {slot : Nat}
def intOpA (op : BinOp) (k : IntKind) (a b : Int) : Option Res :=
 match op with
 | .add => some ⟨.sc (.int k (k.wrap (a + b))), [], [], []⟩
 | .sub => some ⟨.sc (.int k (k.wrap (a - b))), [], [], []⟩
 | .mul => some ⟨.sc (.int k (k.wrap (a * b))), [], [], []⟩
 | .quo => some ⟨.sc (.int k (k.wrap (a.tdiv b))), [], [], [b ≠ 0]⟩
 | .rem => some ⟨.sc (.int k (a.tmod b)), [], [], [b ≠ 0]⟩
 | .eql => some ⟨.sc (.bool (a == b)), [], [], []⟩
 | .neq => some ⟨.sc (.bool (a != b)), [], [], []⟩
 | .lss => some ⟨.sc (.bool (decide (a < b))), [], [], []⟩
 | .leq => some ⟨.sc (.bool (decide (a ≤ b))), [], [], []⟩
 | .gtr => some ⟨.sc (.bool (decide (b < a))), [], [], []⟩
 | .geq => some ⟨.sc (.bool (decide (b ≤ a))), [], [], []⟩
 | _ => none
def strOpA (op : BinOp) (x y : ByteArray) : Option Res :=
 match op with
 | .add => some ⟨.sc (.string (x ++ y)), [], [], [x.size + y.size ≤ 9223372036854775807]⟩
 | .eql => some ⟨.sc (.bool (x.toList == y.toList)), [], [], []⟩
 | .neq => some ⟨.sc (.bool (!(x.toList == y.toList))), [], [], []⟩
 | _ => none
def nilP : AV → Option Bool
 | .sc v => match v with
  | .pointer none => some true
  | _ => none
 | .lp .. => some false
 | .ip cs _ => match cs with
  | [] => some true
  | _ :: _ => some false
 | _ => none
theorem nilP_spec {M : Mem} {μ : List Bd} {a : AV} {v : Value} {b : Bool} (h : nilP a = some b) (hr : RepV M μ a v) : ∃ p : Option Addr, v = .pointer p ∧ p.isNone = b := by
 cases a with
 | sc u =>
  have := hr.scv
  subst this
  simp only [nilP] at h
  split at h
  ·cases h; exact ⟨none, rfl, rfl⟩
  ·cases h
 | lp l off => simp only [nilP, Option.some.injEq] at h; subst h; cases hr; exact ⟨_, rfl, rfl⟩
 | ip cs off =>
  cases cs with
  | nil =>
   simp only [nilP, Option.some.injEq] at h; subst h
   cases hr with
   | ip0 => exact ⟨_, rfl, rfl⟩
   | ip f hne => exact absurd rfl hne
  | cons c cs => simp only [nilP, Option.some.injEq] at h; subst h; cases hr; exact ⟨_, rfl, rfl⟩
 | _ => simp [nilP] at h
def ptrOpA (P : Program) (op : BinOp) (t : TypeId) (x y : AV) : Option Res :=
 match P.underlying t, nilP x, nilP y with
 | some (.pointer _), some a, some b =>
  bif a || b then (match op with
   | .eql => some ⟨.sc (.bool (a && b)), [], [], []⟩
   | .neq => some ⟨.sc (.bool (!(a && b))), [], [], []⟩
   | _ => none) else none
 | _, _, _ => none
def boolOpA (P : Program) (op : BinOp) (t : TypeId) (a b : Bool) : Option Res :=
 match P.underlying t with
 | some .bool => match op with
  | .eql => some ⟨.sc (.bool (a == b)), [], [], []⟩
  | .neq => some ⟨.sc (.bool (!(a == b))), [], [], []⟩
  | _ => none
 | _ => none
def scOpA (P : Program) (op : BinOp) (t : TypeId) (x y : AV) (u v : Value) : Option Res :=
 match u with
 | .int k a => match v with
  | .int k' b => bif decide (k = k') then intOpA op k a b else none
  | _ => none
 | .string a => match v with
  | .string b => strOpA op a b
  | _ => none
 | .bool a => match v with
  | .bool b => boolOpA P op t a b
  | _ => none
 | _ => ptrOpA P op t x y
def eqFs (P : Program) (xs ys : List AV) : List Field → Option Bool
 | [] => some true
 | f :: fs => bif f.name == "_" then none else match ldA P f.type xs f.offset, ldA P f.type ys f.offset with
  | some (.sc (.int k a)), some (.sc (.int k' b)) => match P.underlying f.type with
   | some (.int _) => bif decide (k = k') then (match eqFs P xs ys fs with
    | some r => some ((a == b) && r)
    | none => none) else none
   | _ => none
  | some (.sc (.string a)), some (.sc (.string b)) => match P.underlying f.type with
   | some .string => (match eqFs P xs ys fs with
    | some r => some ((a == b) && r)
    | none => none)
   | _ => none
  | _, _ => none
def structEqA (P : Program) (op : BinOp) (t : TypeId) (xs ys : List AV) : Option Res :=
 match P.underlying t with
 | some (.struct fs) => bif P.stoodInHeld t || P.eqGuardType P.depth t then none else match eqFs P xs ys fs.toList with
  | some b => match op with
   | .eql => some ⟨.sc (.bool b), [], [], []⟩
   | .neq => some ⟨.sc (.bool (!b)), [], [], []⟩
   | _ => none
  | none => none
 | _ => none
def binOpA (P : Program) (op : BinOp) (t : TypeId) (x y : AV) : Option Res :=
 match x with
 | .sc u => match y with
  | .sc v => scOpA P op t x y u v
  | _ => ptrOpA P op t x y
 | .agg xs => match y with
  | .agg ys => structEqA P op t xs ys
  | _ => none
 | _ => ptrOpA P op t x y
theorem run_eq_ptr {t e : TypeId} (hu : P.underlying t = some (.pointer e)) (p q : Option Addr) (h : (p.isNone || q.isNone) = true) (w : World) :
  (Op.equal t (.pointer p) (.pointer q)).run P w = .ok (p.isNone && q.isNone) w := by
 have key : ∀ d, (Op.equalIn (d + 1) t (.pointer p) (.pointer q)).run P w = .ok (p.isNone && q.isNone) w := fun d => by
  cases p <;> cases q <;> first | (simp at h; done) | simp [Op.equalIn, run_underlying hu]
 exact key 9999
theorem ok_ptr (hst : StoreOk M μ st w) {op : BinOp} {t : TypeId} {x y : Operand} {yt : TypeId} (hρ : ∀ x, RepV M μ (ρ x) (ρc x)) (ho : o.op = .binOp op t x y yt) {res : Res} (h : ptrOpA P op t (ρ x) (ρ y) = some res) :
  OpOk M μ st w res ((execOp ρc o).run P w) := by
 unfold ptrOpA at h
 split at h
 ·rename_i e a b hu ha hb
  obtain ⟨p, hp, rfl⟩ := nilP_spec ha (hρ x)
  obtain ⟨q, hq, rfl⟩ := nilP_spec hb (hρ y)
  cases hab : (p.isNone || q.isNone) with
  | false => rw [hab] at h; cases h
  | true =>
   rw [hab] at h
   have hr := run_eq_ptr hu p q hab w
   simp only [cond_true] at h
   cases op with
   | eql =>
    cases h
    refine OpOk.val hst (v := .bool (p.isNone && q.isNone)) ?_ .sc
    simp only [execOp, ho, hp, hq]
    refine exec_v ?_
    simp only [eqGuard_at_pointer, pure_bind]
    simp only [binOp]
    simp [hr]
   | neq =>
    cases h
    refine OpOk.val hst (v := .bool (!(p.isNone && q.isNone))) ?_ .sc
    simp only [execOp, ho, hp, hq]
    refine exec_v ?_
    simp only [eqGuard_at_pointer, pure_bind]
    simp only [binOp]
    simp [hr]
   | _ => cases h
 ·cases h
theorem run_eqFs {xs ys : List AV} {us vs : List Value} (hl : us.length = xs.length) (hr : ∀ (j : Nat) (a : AV) (u : Value), xs[j]? = some a → us[j]? = some u → RepV M μ a u)
  (hl2 : vs.length = ys.length) (hr2 : ∀ (j : Nat) (a : AV) (u : Value), ys[j]? = some a → vs[j]? = some u → RepV M μ a u) (d : Nat) (w : World) :
  ∀ (fs : List Field) (b : Bool), eqFs P xs ys fs = some b → (Op.eqFields (d + 1) us.toArray vs.toArray fs).run P w = .ok b w
 | [], b, h => by
  simp only [eqFs, Option.some.injEq] at h
  subst h
  simp [Op.eqFields]
 | f :: fs, b, h => by
  simp only [eqFs] at h
  cases hn : (f.name == "_") with
  | true => rw [hn] at h; cases h
  | false =>
   rw [hn] at h
   have hne : f.name ≠ "_" := by simpa using hn
   simp only [cond_false] at h
   split at h
   ·rename_i k a k' c e1 e2
    obtain ⟨u1, p1, r1⟩ := run_part (P := P) e1 hl hr w
    obtain ⟨u2, p2, r2⟩ := run_part (P := P) e2 hl2 hr2 w
    have q1 := r1.scv
    have q2 := r2.scv
    subst q1; subst q2
    split at h
    ·rename_i k0 hu
     by_cases hk : k = k'
     ·subst hk
      simp only [decide_true, cond_true] at h
      split at h
      ·rename_i r hr'
       cases h
       have ih := run_eqFs hl hr hl2 hr2 d w fs r hr'
       simp only [Op.eqFields, if_pos hne, Sem.run_bind, p1, p2, Result.andThen_ok, run_equalIn_int w d f.type k k0 a c hu]
       cases hac : (a == c) <;> simp [ih]
      ·cases h
     ·rw [decide_eq_false hk] at h; cases h
    ·cases h
   ·rename_i a c e1 e2
    obtain ⟨u1, p1, r1⟩ := run_part (P := P) e1 hl hr w
    obtain ⟨u2, p2, r2⟩ := run_part (P := P) e2 hl2 hr2 w
    have q1 := r1.scv
    have q2 := r2.scv
    subst q1; subst q2
    split at h
    ·rename_i hu
     split at h
     ·rename_i r hr'
      cases h
      have ih := run_eqFs hl hr hl2 hr2 d w fs r hr'
      simp only [Op.eqFields, if_pos hne, Sem.run_bind, p1, p2, Result.andThen_ok, run_equalIn_string w d f.type a c hu]
      rw [← beq_toListBytes]
      cases hac : (a == c) <;> simp [ih]
     ·cases h
    ·cases h
   ·cases h
theorem ok_struct (hst : StoreOk M μ st w) {op : BinOp} {t : TypeId} {x y : Operand} {yt : TypeId} {xs ys : List AV} (hx : RepV M μ (.agg xs) (ρc x)) (hy : RepV M μ (.agg ys) (ρc y)) (ho : o.op = .binOp op t x y yt) {res : Res}
  (h : structEqA P op t xs ys = some res) : OpOk M μ st w res ((execOp ρc o).run P w) := by
 unfold structEqA at h
 split at h
 ·rename_i fs hu
  cases hg : (P.stoodInHeld t || P.eqGuardType P.depth t) with
  | true => rw [hg] at h; cases h
  | false =>
   rw [hg] at h
   simp only [Bool.or_eq_false_iff] at hg
   simp only [cond_false] at h
   split at h
   ·rename_i b hb
    generalize hvx : ρc x = v1 at hx
    generalize hvy : ρc y = v2 at hy
    cases hx with
    | @agg _ _ us hl hr =>
     cases hy with
     | @agg _ _ vs hl2 hr2 =>
      have hfo : P.fieldsOf t = fs := by unfold Program.fieldsOf; rw [hu]
      have hrun := run_equalIn_agg (P := P) w 9999 t us.toArray vs.toArray (by rw [hfo]; exact hu) hg.1
      rw [hfo, run_eqFs hl hr hl2 hr2 9998 w fs.toList b hb] at hrun
      cases op with
      | eql =>
       cases h
       refine OpOk.val hst (v := .bool b) ?_ .sc
       simp only [execOp, ho, hvx, hvy]
       refine exec_v ?_
       simp [run_eqGuard_agg w .eql t x y us.toArray vs.toArray hg.2, run_eql_struct w t us.toArray vs.toArray, hrun]
      | neq =>
       cases h
       refine OpOk.val hst (v := .bool (!b)) ?_ .sc
       simp only [execOp, ho, hvx, hvy]
       refine exec_v ?_
       simp [run_eqGuard_agg w .neq t x y us.toArray vs.toArray hg.2, run_neq_struct w t us.toArray vs.toArray, hrun]
      | _ => cases h
   ·cases h
 ·cases h
theorem ok_binOp (hst : StoreOk M μ st w) (hρ : ∀ x, RepV M μ (ρ x) (ρc x)) {op : BinOp} {t : TypeId} {x y : Operand} {yt : TypeId} (ho : o.op = .binOp op t x y yt) {res : Res}
  (h : binOpA P op t (ρ x) (ρ y) = some res) (hob : AllP res.ob) : OpOk M μ st w res ((execOp ρc o).run P w) := by
 have hx := hρ x
 have hy := hρ y
 have hptr := fun {res : Res} (h : ptrOpA P op t (ρ x) (ρ y) = some res) => ok_ptr (P := P) hst hρ ho h
 unfold binOpA at h
 split at h
 ·rename_i u eu
  split at h
  ·rename_i v ev
   unfold scOpA at h
   split at h
   ·rename_i k a
    split at h
    ·rename_i k' b
     by_cases hk : k = k'
     ·subst hk
      simp only [decide_true, cond_true] at h
      rw [eu] at hx
      rw [ev] at hy
      have key : ∀ (v : Value), (binOp op t (.int k a) (.int k b)).run P w = .ok v w → (execOp ρc o).run P w = .ok (.value v) w := fun v hv => by
       simp only [execOp, ho, hx.scv, hy.scv, eqGuard_at_int]
       exact exec_v (by simpa using hv)
      cases op with
      | add => cases h; exact OpOk.val hst (key _ (by rw [binOp_add]; rfl)) .sc
      | sub => cases h; exact OpOk.val hst (key _ (by rw [binOp_sub]; rfl)) .sc
      | mul => cases h; exact OpOk.val hst (key _ (by rw [binOp_mul]; rfl)) .sc
      | quo =>
       cases h
       simp only [AllP, and_true] at hob
       exact OpOk.val hst (key _ (by rw [binOp_quo, Op.intDiv, if_neg hob]; rfl)) .sc
      | rem =>
       cases h
       simp only [AllP, and_true] at hob
       exact OpOk.val hst (key _ (by rw [binOp_rem, Op.intDiv, if_neg hob]; rfl)) .sc
      | eql => cases h; exact OpOk.val hst (key _ (by rw [binOp_eql]; rfl)) .sc
      | neq => cases h; exact OpOk.val hst (key _ (by rw [binOp_neq]; rfl)) .sc
      | lss => cases h; exact OpOk.val hst (key _ (by rw [binOp_lss]; rfl)) .sc
      | leq => cases h; exact OpOk.val hst (key _ (by rw [binOp_leq]; rfl)) .sc
      | gtr => cases h; exact OpOk.val hst (key _ (by rw [binOp_gtr]; rfl)) .sc
      | geq => cases h; exact OpOk.val hst (key _ (by rw [binOp_geq]; rfl)) .sc
      | _ => cases h
     ·rw [decide_eq_false hk] at h; cases h
    ·cases h
   ·rename_i a
    split at h
    ·rename_i b
     rw [eu] at hx
     rw [ev] at hy
     have key : ∀ (v : Value), (Op.stringOp op a b).run P w = .ok v w → (execOp ρc o).run P w = .ok (.value v) w := fun v hv => by
      simp only [execOp, ho, hx.scv, hy.scv, eqGuard_at_string]
      refine exec_v ?_
      have : binOp op t (.string a) (.string b) = Op.stringOp op a b := by cases op <;> rfl
      simpa [this] using hv
     cases op with
     | add =>
      cases h
      simp only [AllP, and_true] at hob
      refine OpOk.val hst (key _ ?_) .sc
      simp only [Op.stringOp]
      rw [if_neg (by rw [IntKind.max_i64]; omega)]
      rfl
     | eql => cases h; exact OpOk.val hst (key _ rfl) .sc
     | neq => cases h; exact OpOk.val hst (key _ rfl) .sc
     | _ => cases h
    ·cases h
   ·rename_i a
    split at h
    ·rename_i b
     unfold boolOpA at h
     split at h
     ·rename_i hu
      rw [eu] at hx
      rw [ev] at hy
      cases op with
      | eql =>
       cases h
       refine OpOk.val hst (v := .bool (a == b)) ?_ .sc
       simp only [execOp, ho, hx.scv, hy.scv, eqGuard_at_bool]
       exact exec_v (by simpa using run_eql_bool w t a b hu)
      | neq =>
       cases h
       refine OpOk.val hst (v := .bool (!(a == b))) ?_ .sc
       simp only [execOp, ho, hx.scv, hy.scv, eqGuard_at_bool]
       exact exec_v (by simpa using run_neq_bool w t a b hu)
      | _ => cases h
     ·cases h
    ·cases h
   ·exact hptr h
  ·exact hptr h
 ·rename_i xs ex
  split at h
  ·rename_i ys ey
   rw [ex] at hx
   rw [ey] at hy
   exact ok_struct hst hx hy ho h
  ·cases h
 ·exact hptr h
def cstB : Operand → Bool
 | .const _ => true
 | _ => false
def isNilI : AV → Option Bool
 | .sc v => match v with
  | .nilIface => some true
  | _ => none
 | .ifc .. => some false
 | _ => none
def ifcOpA (P : Program) (op : BinOp) (t : TypeId) (c : Bool) (x y : AV) : Option Res :=
 match P.underlying t with
 | some (.interface _) => bif c then (match isNilI x, isNilI y with
  | some a, some b => bif a || b then (match op with
   | .eql => some ⟨.sc (.bool (a && b)), [], [], []⟩
   | .neq => some ⟨.sc (.bool (!(a && b))), [], [], []⟩
   | _ => none) else none
  | _, _ => none) else none
 | _ => none
def binOpB (P : Program) (op : BinOp) (t : TypeId) (x y : Operand) (ρ : Operand → AV) : Option Res :=
 match ifcOpA P op t (cstB x || cstB y) (ρ x) (ρ y) with
 | some r => some r
 | none => binOpA P op t (ρ x) (ρ y)
theorem isNilI_spec {a : AV} {v : Value} {b : Bool} (h : isNilI a = some b) (hr : RepV M μ a v) : (b = true ∧ v = .nilIface) ∨ (b = false ∧ ∃ t u, v = .iface t u) := by
 cases a with
 | sc u =>
  have := hr.scv
  subst this
  simp only [isNilI] at h
  split at h
  ·cases h; exact .inl ⟨rfl, rfl⟩
  ·cases h
 | ifc t x =>
  simp only [isNilI, Option.some.injEq] at h
  subst h
  cases hr
  exact .inr ⟨rfl, _, _, rfl⟩
 | _ => simp [isNilI] at h
theorem ok_ifcOp (hst : StoreOk M μ st w) (hρ : ∀ x, RepV M μ (ρ x) (ρc x)) {op : BinOp} {t : TypeId} {x y : Operand} {yt : TypeId} (ho : o.op = .binOp op t x y yt) {res : Res}
  (h : ifcOpA P op t (cstB x || cstB y) (ρ x) (ρ y) = some res) : OpOk M μ st w res ((execOp ρc o).run P w) := by
 unfold ifcOpA at h
 split at h
 ·rename_i ms hu
  cases hc : (cstB x || cstB y) with
  | false => rw [hc] at h; cases h
  | true =>
   rw [hc] at h
   simp only [cond_true] at h
   split at h
   ·rename_i a b ha hb
    have hx := isNilI_spec ha (hρ x)
    have hy := isNilI_spec hb (hρ y)
    generalize hvx : ρc x = v1 at hx
    generalize hvy : ρc y = v2 at hy
    cases hab : (a || b) with
    | false => rw [hab] at h; cases h
    | true =>
     rw [hab] at h
     simp only [cond_true] at h
     have hguard : ∀ op, (eqGuard op t x y v1 v2).run P w = .ok () w := fun op => by
      rcases hx with ⟨_, rfl⟩ | ⟨_, t1, u1, rfl⟩ <;> rcases hy with ⟨_, rfl⟩ | ⟨_, t2, u2, rfl⟩
      ·clear ha hb hvx hvy ho
       cases x <;> cases y <;> first | (simp [cstB] at hc; done) | (cases op <;> simp [eqGuard])
      ·cases op <;> simp [eqGuard]
      ·cases op <;> simp [eqGuard]
      ·cases op <;> simp [eqGuard]
     have heq : (Op.equal t v1 v2).run P w = .ok (a && b) w := by
      have key : ∀ d, (Op.equalIn (d + 1) t v1 v2).run P w = .ok (a && b) w := fun d => by
       rcases hx with ⟨rfl, rfl⟩ | ⟨rfl, t1, u1, rfl⟩ <;> rcases hy with ⟨rfl, rfl⟩ | ⟨rfl, t2, u2, rfl⟩
       ·simp [Op.equalIn, run_underlying hu]
       ·simp [Op.equalIn, run_underlying hu]
       ·simp [Op.equalIn, run_underlying hu]
       ·simp at hab
      exact key 9999
     have hbin : ∀ (f : Bool → Bool) (opx : BinOp), (binOp opx t v1 v2 = do pure (.bool (f (← Op.equal t v1 v2)))) → (binOp opx t v1 v2).run P w = .ok (.bool (f (a && b))) w := fun f opx e => by
      rw [e]; simp [heq]
     cases op with
     | eql =>
      cases h
      refine OpOk.val hst (v := .bool (a && b)) ?_ .sc
      simp only [execOp, ho, hvx, hvy]
      refine exec_v ?_
      have := hbin id .eql (by rcases hx with ⟨_, rfl⟩ | ⟨_, t1, u1, rfl⟩ <;> rcases hy with ⟨_, rfl⟩ | ⟨_, t2, u2, rfl⟩ <;> rfl)
      simp only [Sem.run_bind, hguard, Result.andThen_ok, this, id]
     | neq =>
      cases h
      refine OpOk.val hst (v := .bool (!(a && b))) ?_ .sc
      simp only [execOp, ho, hvx, hvy]
      refine exec_v ?_
      have := hbin not .neq (by rcases hx with ⟨_, rfl⟩ | ⟨_, t1, u1, rfl⟩ <;> rcases hy with ⟨_, rfl⟩ | ⟨_, t2, u2, rfl⟩ <;> rfl)
      simp only [Sem.run_bind, hguard, Result.andThen_ok, this]
     | _ => cases h
   ·cases h
 ·cases h
theorem ok_binOpB (hst : StoreOk M μ st w) (hρ : ∀ x, RepV M μ (ρ x) (ρc x)) {op : BinOp} {t : TypeId} {x y : Operand} {yt : TypeId} (ho : o.op = .binOp op t x y yt) {res : Res}
  (h : binOpB P op t x y ρ = some res) (hob : AllP res.ob) : OpOk M μ st w res ((execOp ρc o).run P w) := by
 unfold binOpB at h
 split at h
 ·rename_i r hr
  cases h
  exact ok_ifcOp hst hρ ho hr
 ·exact ok_binOp hst hρ ho h hob
def unOpA (op : UnOp) (x : AV) : Option Res :=
 match op with
 | .not => match x with
  | .sc (.bool b) => some ⟨.sc (.bool (!b)), [], [], []⟩
  | _ => none
 | .neg => match x with
  | .sc (.int k n) => some ⟨.sc (.int k (k.wrap (0 - n))), [], [], []⟩
  | _ => none
 | _ => none
theorem ok_unOp (hst : StoreOk M μ st w) (hρ : ∀ x, RepV M μ (ρ x) (ρc x)) {op : UnOp} {t : TypeId} {x : Operand} (ho : o.op = .unOp op t x) {res : Res}
  (h : unOpA op (ρ x) = some res) : OpOk M μ st w res ((execOp ρc o).run P w) := by
 have hx := hρ x
 unfold unOpA at h
 split at h
 ·split at h
  ·rename_i b e
   cases h
   rw [e] at hx
   refine OpOk.val hst (v := .bool (!b)) ?_ .sc
   simp only [execOp, ho, hx.scv]
   exact exec_v rfl
  ·cases h
 ·split at h
  ·rename_i k n e
   cases h
   rw [e] at hx
   refine OpOk.val hst (v := .int k (k.wrap (0 - n))) ?_ .sc
   simp only [execOp, ho, hx.scv]
   exact exec_v rfl
  ·cases h
 ·cases h
def bytesL : List UInt8 → List (List AV)
 | [] => []
 | b :: l => [.sc (.int .u8 (b.toNat : Int))] :: bytesL l
theorem bytesL_eq : ∀ l : List UInt8, bytesL l = l.map fun b => [AV.sc (.int .u8 (b.toNat : Int))]
 | [] => rfl
 | b :: l => by rw [bytesL, bytesL_eq l]; rfl
def convertA (P : Program) (src dst : TypeId) (x : AV) : Option Res :=
 match P.underlying src, P.underlying dst with
 | some _, some (.int k) => match x with
  | .sc (.int _ n) => some ⟨.sc (.int k (k.wrap n)), [], [], []⟩
  | _ => none
 | some .string, some .string => match x with
  | .sc (.string s) => some ⟨.sc (.string s), [], [], []⟩
  | _ => none
 | some .string, some (.slice e) => match P.underlying e with
  | some (.int .u8) => match x with
   | .sc (.string s) => some ⟨.sl 1 (bytesL s.data.toList) false, [], [], []⟩
   | _ => none
  | _ => none
 | _, _ => none
theorem ok_convert (hst : StoreOk M μ st w) (hρ : ∀ x, RepV M μ (ρ x) (ρc x)) {src dst : TypeId} {x : Operand} (ho : o.op = .convert src dst x) {res : Res}
  (h : convertA P src dst (ρ x) = some res) : OpOk M μ st w res ((execOp ρc o).run P w) := by
 have hx := hρ x
 unfold convertA at h
 split at h
 ·rename_i d k hs hd
  split at h
  ·rename_i kk n e
   cases h
   rw [e] at hx
   refine OpOk.val hst (v := .int k (k.wrap n)) ?_ .sc
   simp only [execOp, ho, hx.scv]
   refine exec_v ?_
   simp [convert, run_underlying hs, run_underlying hd, Conv.intToInt]
  ·cases h
 ·rename_i hs hd
  split at h
  ·rename_i s e
   cases h
   rw [e] at hx
   refine OpOk.val hst (v := .string s) ?_ .sc
   simp only [execOp, ho, hx.scv]
   refine exec_v ?_
   simp [convert, run_underlying hs, run_underlying hd]
  ·cases h
 ·rename_i e hs hd
  split at h
  ·rename_i he
   split at h
   ·rename_i s ex
    cases h
    rw [ex] at hx
    have hrun : (execOp ρc o).run P w = .ok (.value (.slice (some ⟨w.heap.size, 0, none⟩) s.size (grownCap w s.size 0 e)))
      ({ w with drawn := w.drawn + 1 }.alloc (.cells (bytesRow s (grownCap w s.size 0 e)) e ((bytesRow s (grownCap w s.size 0 e)).size, (bytesRow s (grownCap w s.size 0 e)).size + 1))) := by
     simp only [execOp, ho, hx.scv]
     exact exec_v (run_bytes_of_string (P := P) w src dst e s hs hd he)
    have hcap : s.size ≤ grownCap w s.size 0 e := by unfold grownCap; exact Nat.le_add_right _ _
    have hlen : (bytesL s.data.toList).length = s.size := by rw [bytesL_eq, List.length_map]; rfl
    refine OpOk.newRow hst ⟨fun i row e1 => ?_, fun i row j a e1 e2 => ?_⟩ hlen hcap (by simp) hrun
    ·rw [bytesL_eq, List.getElem?_map] at e1
     obtain ⟨b, _, rfl⟩ := Option.map_eq_some_iff.1 e1
     rfl
    ·rw [bytesL_eq, List.getElem?_map] at e1
     obtain ⟨b, hb, rfl⟩ := Option.map_eq_some_iff.1 e1
     cases j with
     | zero =>
      simp at e2
      subst e2
      refine ⟨.int .u8 b.toNat, ?_, rfl, .sc⟩
      have hb' : s.data[i]? = some b := by rw [← Array.getElem?_toList]; exact hb
      have hi : i < s.data.size := (Array.getElem?_eq_some_iff.1 hb').1
      unfold bytesRow
      rw [Nat.mul_one, Nat.add_zero, Array.getElem?_append_left (by simpa using hi), Array.getElem?_map, hb']
      rfl
     | succ j => simp at e2
   ·cases h
  ·cases h
 ·cases h
def lenA (P : Program) (look : Nat → AObj) (t : TypeId) (x : AV) : Option Res :=
 match P.underlying t with
 | some .string => match x with
  | .sc (.string s) => some ⟨.sc (.int .i64 (s.size : Int)), [], [], []⟩
  | _ => none
 | some (.slice _) => match x with
  | .nil => some ⟨.sc (.int .i64 0), [], [], []⟩
  | .sl _ xs _ => some ⟨.sc (.int .i64 (xs.length : Int)), [], [], []⟩
  | .la l g => match look l with
   | .arr c _ rows => bif Nat.beq g c then some ⟨.sc (.int .i64 (rows.length : Int)), [], [(l, false)], []⟩ else none
   | _ => none
  | _ => none
 | _ => none
theorem exec_builtin {b : Builtin} {args : Array Operand} {ts : Array TypeId} (ho : o.op = .call { callee := .builtin b, args := args, argTypes := ts }) :
  ∃ consts, execOp ρc o = builtin b ts o.type consts (args.map ρc) := ⟨_, by simp only [execOp, ho, resolve]; rfl⟩
theorem ok_len (hst : StoreOk M μ st w) (hρ : ∀ x, RepV M μ (ρ x) (ρc x)) {t : TypeId} {x : Operand} (ho : o.op = .call { callee := .builtin .len, args := #[x], argTypes := #[t] }) {res : Res}
  (h : lenA P (getO st) t (ρ x) = some res) : OpOk M μ st w res ((execOp ρc o).run P w) := by
 have hx := hρ x
 obtain ⟨cs, hex⟩ := exec_builtin (ρc := ρc) ho
 have key : ∀ v, (Builtin.len_ #[t] o.type #[ρc x]).run P w = .ok v w → (execOp ρc o).run P w = .ok (.value v) w := fun v hv => by
  rw [hex]; simp only [builtin]; exact exec_v (by simpa using hv)
 unfold lenA at h
 split at h
 ·rename_i hu
  split at h
  ·rename_i s e
   cases h
   rw [e] at hx
   exact OpOk.val hst (key _ (by rw [hx.scv]; simp [Builtin.len_, run_underlying hu, goInt])) .sc
  ·cases h
 ·rename_i el hu
  have hl : ∀ A n c, ρc x = .slice A n c → (Builtin.len_ #[t] o.type #[ρc x]).run P w = .ok (.int .i64 (n : Int)) w := fun A n c e => by
   rw [e]; simp [Builtin.len_, run_underlying hu, goInt]
  split at h
  ·rename_i e
   cases h
   rw [e] at hx
   generalize hv : ρc x = v at *
   cases hx with
   | nil => exact OpOk.val hst (key _ (by have := hl _ _ _ rfl; simpa using this)) .sc
  ·rename_i sz xs full e
   cases h
   rw [e] at hx
   obtain ⟨A, c, hv, _⟩ := hx.slc
   exact OpOk.val hst (key _ (hl _ _ _ hv)) .sc
  ·rename_i l g e
   split at h
   ·rename_i c sz rows hlk
    cases hg : Nat.beq g c with
    | false => rw [hg] at h; cases h
    | true =>
     rw [hg] at h
     cases h
     rw [e] at hx
     obtain ⟨bd, e1, e2, e3, e4, e5, e6, h7⟩ := hx.laCur hst hlk hg
     rcases h7 with ⟨_, rfl, _, A, hv⟩ | ⟨b, cc, ty, k1, hv, _⟩
     ·exact OpOk.val hst (key _ (by have := hl _ _ _ hv; simpa using this)) .sc
     ·exact OpOk.val hst (key _ (hl _ _ _ hv)) .sc
   ·cases h
  ·cases h
 ·cases h
def maxA (x y : AV) : Option Res :=
 match x with
 | .sc (.int k a) => match y with
  | .sc (.int _ b) => some ⟨.sc (.int k (if b > a then b else a)), [], [], []⟩
  | _ => none
 | _ => none
theorem ok_max (hst : StoreOk M μ st w) (hρ : ∀ x, RepV M μ (ρ x) (ρc x)) {ts : Array TypeId} {x y : Operand} (ho : o.op = .call { callee := .builtin .max, args := #[x, y], argTypes := ts }) {res : Res}
  (h : maxA (ρ x) (ρ y) = some res) : OpOk M μ st w res ((execOp ρc o).run P w) := by
 have hx := hρ x
 have hy := hρ y
 obtain ⟨cs, hex⟩ := exec_builtin (ρc := ρc) ho
 unfold maxA at h
 split at h
 ·rename_i k a ex
  split at h
  ·rename_i k' b ey
   cases h
   rw [ex] at hx
   rw [ey] at hy
   refine OpOk.val hst (v := .int k (if b > a then b else a)) ?_ .sc
   rw [hex]
   simp only [builtin]
   refine exec_v ?_
   have : #[x, y].map ρc = #[.int k a, .int k' b] := by simp [hx.scv, hy.scv]
   rw [this]
   exact run_max_int2 w ts o.type k k' a b
  ·cases h
 ·cases h
def minA (x y : AV) : Option Res :=
 match x with
 | .sc (.int k a) => match y with
  | .sc (.int _ b) => some ⟨.sc (.int k (if b < a then b else a)), [], [], []⟩
  | _ => none
 | _ => none
theorem ok_min (hst : StoreOk M μ st w) (hρ : ∀ x, RepV M μ (ρ x) (ρc x)) {ts : Array TypeId} {x y : Operand} (ho : o.op = .call { callee := .builtin .min, args := #[x, y], argTypes := ts }) {res : Res}
  (h : minA (ρ x) (ρ y) = some res) : OpOk M μ st w res ((execOp ρc o).run P w) := by
 have hx := hρ x
 have hy := hρ y
 obtain ⟨cs, hex⟩ := exec_builtin (ρc := ρc) ho
 unfold minA at h
 split at h
 ·rename_i k a ex
  split at h
  ·rename_i k' b ey
   cases h
   rw [ex] at hx
   rw [ey] at hy
   refine OpOk.val hst (v := .int k (if b < a then b else a)) ?_ .sc
   rw [hex]
   simp only [builtin]
   refine exec_v ?_
   have : #[x, y].map ρc = #[.int k a, .int k' b] := by simp [hx.scv, hy.scv]
   rw [this]
   exact run_min_int2 w ts o.type k k' a b
  ·cases h
 ·cases h
end
end Go.Ae
namespace Go.Ae
section
variable {P : Program} {M : Mem} {μ : List Bd} {st : List AObj} {w : World} {ρ : Operand → AV} {ρc : Operand → Value} {o : Oper} {en : Ent} {slot : Nat}
def bndA (ρ : Operand → AV) : Option Operand → Option (Option Int)
 | none => some none
 | some x => match ρ x with
  | .sc (.int _ n) => some (some n)
  | _ => none
theorem bndA_spec (hρ : ∀ x, RepV M μ (ρ x) (ρc x)) {x : Option Operand} {b : Option Int} (h : bndA ρ x = some b) :
  (x.map ρc = none ∧ b = none) ∨ ∃ k n, x.map ρc = some (.int k n) ∧ b = some n := by
 cases x with
 | none => simp only [bndA, Option.some.injEq] at h; exact .inl ⟨rfl, h.symm⟩
 | some x =>
  simp only [bndA] at h
  split at h
  ·rename_i k n e
   cases h
   have := hρ x
   rw [e] at this
   exact .inr ⟨k, n, by simp [this.scv], rfl⟩
  ·cases h
theorem run_bound {k : IntKind} {i : Int} {y : Nat} {code : BoundsCode} (h0 : 0 ≤ i) (h1 : i ≤ y) (w : World) : (Instr.sliceBound (.int k i) y code).run P w = .ok i.toNat w := by
 simp [Instr.sliceBound, asIntOf, h0, h1]
theorem run_bounds {isS : Bool} {len cap : Nat} {lo hi mx : Option Value} {l h m : Option Int}
  (hl : (lo = none ∧ l = none) ∨ ∃ k n, lo = some (.int k n) ∧ l = some n) (hh : (hi = none ∧ h = none) ∨ ∃ k n, hi = some (.int k n) ∧ h = some n)
  (hm : (mx = none ∧ m = none) ∨ ∃ k n, mx = some (.int k n) ∧ m = some n) (hmh : m = none ∨ (∃ n, h = some n ∧ m = some n))
  (h1 : 0 ≤ l.getD 0) (h2 : l.getD 0 ≤ h.getD len) (h3 : h.getD len ≤ cap) (w : World) :
  (Instr.sliceBounds isS len cap lo hi mx).run P w = .ok ((l.getD 0).toNat, (h.getD len).toNat, if m = none then cap else (h.getD len).toNat) w := by
 rcases hm with ⟨rfl, rfl⟩ | ⟨km, nm, rfl, rfl⟩
 ·rcases hh with ⟨rfl, rfl⟩ | ⟨kh, nh, rfl, rfl⟩
  ·rcases hl with ⟨rfl, rfl⟩ | ⟨kl, nl, rfl, rfl⟩
   ·simp [Instr.sliceBounds]
   ·simp only [Option.getD_some, Option.getD_none] at *
    simp [Instr.sliceBounds, run_bound (P := P) h1 h2 w]
  ·rcases hl with ⟨rfl, rfl⟩ | ⟨kl, nl, rfl, rfl⟩
   ·simp only [Option.getD_some, Option.getD_none] at *
    simp [Instr.sliceBounds, run_bound (P := P) (i := nh) (by omega) h3 w]
   ·simp only [Option.getD_some] at *
    simp [Instr.sliceBounds, run_bound (P := P) (i := nh) (by omega) h3 w, run_bound (P := P) (y := nh.toNat) h1 (by omega) w]
 ·rcases hmh with hmh | ⟨n, e1, e2⟩
  ·cases hmh
  ·cases e2
   subst e1
   rcases hh with ⟨_, e⟩ | ⟨kh, nh, rfl, e⟩
   ·cases e
   ·cases e
    rcases hl with ⟨rfl, rfl⟩ | ⟨kl, nl, rfl, rfl⟩
    ·simp only [Option.getD_some, Option.getD_none] at *
     simp [Instr.sliceBounds, run_bound (P := P) (i := nm) (by omega) h3 w, run_bound (P := P) (i := nm) (y := nm.toNat) (by omega) (by omega) w]
    ·simp only [Option.getD_some] at *
     simp [Instr.sliceBounds, run_bound (P := P) (i := nm) (by omega) h3 w, run_bound (P := P) (i := nm) (y := nm.toNat) (by omega) (by omega) w, run_bound (P := P) (y := nm.toNat) h1 (by omega) w]
def cutObs (l h : Int) (n : Nat) : List Prop := [0 ≤ l, l ≤ h, h ≤ (n : Int)]
def sliceA (P : Program) (look : Nat → AObj) (t : TypeId) (x : AV) (lo hi mx : Option (Option Int)) : Option Res :=
 match lo, hi, mx with
 | some l, some h, some m => match P.underlying t with
  | some .string => match x with
   | .sc (.string s) => match m with
    | none => some ⟨.sc (.string (s.extract (l.getD 0).toNat (h.getD s.size).toNat)), [], [], cutObs (l.getD 0) (h.getD s.size) s.size⟩
    | some _ => none
   | _ => none
  | some (.slice e) => match szT P e with
   | some n => match x with
    | .sl sz xs _ => bif Nat.beq n sz then (match m with
     | none => some ⟨.sl sz ((xs.take (h.getD xs.length).toNat).drop (l.getD 0).toNat) false, [], [], cutObs (l.getD 0) (h.getD xs.length) xs.length⟩
     | some mv => match h with
      | some hv => some ⟨.sl sz ((xs.take hv.toNat).drop (l.getD 0).toNat) true, [], [], cutObs (l.getD 0) hv xs.length ++ [mv = hv]⟩
      | none => none) else none
    | .la lb g => match look lb with
     | .arr c sz rows => match l, m, h with
      | none, none, some hv => bif Nat.beq g c && Nat.beq n sz then
        some ⟨.la lb (g + 1), [(lb, .arr (g + 1) sz (rows.take hv.toNat))], [(lb, true)], cutObs 0 hv rows.length⟩ else none
      | _, _, _ => none
     | _ => none
    | _ => none
   | none => none
  | _ => none
 | _, _, _ => none
theorem run_slice_sl {t e : TypeId} {i : TypeInfo} (hu : P.underlying t = some (.slice e)) (hinf : P.info? e = some i) {A : Option Addr} {len cap : Nat} {lo hi mx : Option Value} {L H Mx : Nat}
  (hb : (Instr.sliceBounds true len cap lo hi mx).run P w = .ok (L, H, Mx) w) :
  (Instr.sliceAt t (.slice A len cap) lo hi mx).run P w = .ok (.slice (if Mx = L then A else A.map (·.add (L * i.size))) (H - L) (Mx - L)) w := by
 simp only [Instr.sliceAt, Sem.run_bind, run_underlying hu, Result.andThen_ok, Instr.slice, hb, run_sizeOf w hinf, Sem.run_pure]
theorem ok_slice (hst : StoreOk M μ st w) (hρ : ∀ x, RepV M μ (ρ x) (ρc x)) {t : TypeId} {x : Operand} {lo hi mx : Option Operand} (ho : o.op = .slice t x lo hi mx) {res : Res}
  (h : sliceA P (getO st) t (ρ x) (bndA ρ lo) (bndA ρ hi) (bndA ρ mx) = some res) (hob : AllP res.ob) : OpOk M μ st w res ((execOp ρc o).run P w) := by
 have hx := hρ x
 have key : ∀ v, (Instr.sliceAt t (ρc x) (lo.map ρc) (hi.map ρc) (mx.map ρc)).run P w = .ok v w → (execOp ρc o).run P w = .ok (.value v) w := fun v hv => by
  simp only [execOp, ho]; exact exec_v hv
 unfold sliceA at h
 split at h
 ·rename_i l hh m el eh em
  have bl := bndA_spec hρ el
  have bh := bndA_spec hρ eh
  have bm := bndA_spec hρ em
  split at h
  ·rename_i hu
   split at h
   ·rename_i s ex
    split at h
    ·cases h
     simp only [AllP, cutObs, and_true] at hob
     obtain ⟨o1, o2, o3⟩ := hob
     rw [ex] at hx
     have hmx : mx.map ρc = none := by rcases bm with ⟨h, _⟩ | ⟨_, _, _, e⟩ <;> first | exact h | cases e
     have hb := run_bounds (P := P) (isS := false) (len := s.size) (cap := s.size) bl bh (.inl ⟨rfl, rfl⟩) (.inl rfl) o1 o2 o3 w
     refine OpOk.val hst (key _ ?_) .sc
     rw [hx.scv, hmx]
     simp only [Instr.sliceAt, Sem.run_bind, run_underlying hu, Result.andThen_ok, Instr.slice, Option.isSome_none, Bool.false_eq_true, if_false]
     simp [hb]
    ·cases h
   ·cases h
  ·rename_i e hu
   split at h
   ·rename_i n hn
    obtain ⟨ti, hti, rfl⟩ := Option.map_eq_some_iff.1 hn
    split at h
    ·rename_i sz xs full ex
     cases hz : Nat.beq ti.size sz with
     | false => rw [hz] at h; cases h
     | true =>
      rw [hz] at h
      have hsz := Nat.eq_of_beq_eq_true hz
      simp only [cond_true] at h
      rw [ex] at hx
      have cut : ∀ (L H Mx : Nat) (f : Bool), L ≤ H → H ≤ xs.length → (∀ A c, ρc x = .slice A xs.length c → H ≤ Mx) → (f = true → Mx = H) →
        ∀ A c, ρc x = .slice A xs.length c → RepV M μ (.sl sz ((xs.take H).drop L) f) (.slice (if Mx = L then A else A.map (·.add (L * ti.size))) (H - L) (Mx - L)) := by
       intro L H Mx f hLH hHx hHM hf A c hv
       have hlen : ((xs.take H).drop L).length = H - L := by simp; omega
       by_cases hne : (xs.take H).drop L = []
       ·have h0 : H - L = 0 := by rw [← hlen, hne]; rfl
        rw [hne, h0]
        cases f with
        | false => exact .sl0
        | true =>
         have := hf rfl
         subst this
         rw [h0]
         exact .sl0f
       ·have hpos : 0 < H - L := by rw [← hlen]; exact List.length_pos_iff.2 hne
        have hHM' := hHM A c hv
        rw [if_neg (by omega)]
        rw [hv] at hx
        cases hx with
        | sl0 => simp at hHx; omega
        | sl0f => simp at hHx; omega
        | @sl _ _ _ _ b o' _ fv hne' hc hf' hz' hm hr =>
         rw [← hlen]
         simp only [Option.map_some, addr_add, hsz]
         have hget : ∀ (i : Nat) (row : List AV), ((xs.take H).drop L)[i]? = some row → xs[L + i]? = some row := fun i row e => by
          rw [List.getElem?_drop, List.getElem?_take] at e
          split at e
          ·exact e
          ·cases e
         have hof : ∀ i j, o' + L * sz + i * sz + j = o' + (L + i) * sz + j := fun i j => by rw [Nat.add_mul]; omega
         exact .sl (fun i j => fv (L + i) j) hne (by omega) (fun e => by rw [hlen, hf e]) (fun i row e => hz' _ row (hget i row e))
          (fun i row j a e1 e2 => by rw [hof]; exact hm _ row j a (hget i row e1) e2) (fun i row j a e1 e2 => hr _ row j a (hget i row e1) e2)
      obtain ⟨A, c, hv, hc, _⟩ := hx.slc
      split at h
      ·cases h
       simp only [AllP, cutObs, and_true] at hob
       obtain ⟨o1, o2, o3⟩ := hob
       have hmx : mx.map ρc = none := by rcases bm with ⟨h, _⟩ | ⟨_, _, _, e⟩ <;> first | exact h | cases e
       have hb := run_bounds (P := P) (isS := true) (len := xs.length) (cap := c) bl bh (.inl ⟨rfl, rfl⟩) (.inl rfl) o1 o2 (by omega) w
       simp only [if_true] at hb
       rw [← hmx] at hb
       have hrun := run_slice_sl hu hti (A := A) hb
       rw [← hv] at hrun
       exact OpOk.val hst (key _ hrun) (cut _ _ _ false (by omega) (by omega) (fun A' c' e => by rw [hv] at e; cases e; omega) (by simp) A c hv)
      ·rename_i mv
       split at h
       ·rename_i hv2
        cases h
        simp only [cutObs, List.cons_append, List.nil_append, AllP, and_true] at hob
        obtain ⟨o1, o2, o3, rfl⟩ := hob
        have hb := run_bounds (P := P) (isS := true) (len := xs.length) (cap := c) bl bh bm (.inr ⟨_, rfl, rfl⟩) o1 (by simpa using o2) (by simp only [Option.getD_some]; omega) w
        simp only [reduceCtorEq, if_false, Option.getD_some] at hb
        have hrun := run_slice_sl hu hti (A := A) hb
        rw [← hv] at hrun
        exact OpOk.val hst (key _ hrun) (cut _ _ _ true (by omega) (by omega) (fun A' c' e => Nat.le_refl _) (fun _ => rfl) A c hv)
       ·cases h
    ·rename_i lb g ex
     split at h
     ·rename_i cg sz rows hlk
      split at h
      ·rename_i hv2
       cases hz : (Nat.beq g cg && Nat.beq ti.size sz) with
       | false => rw [hz] at h; cases h
       | true =>
        rw [hz] at h
        cases h
        simp only [Bool.and_eq_true] at hz
        have hsz := Nat.eq_of_beq_eq_true hz.2
        simp only [AllP, cutObs, and_true] at hob
        obtain ⟨o1, o2, o3⟩ := hob
        rw [ex] at hx
        obtain ⟨bd, e1, e2, e3, e4, e5, e6, h7⟩ := hx.laCur hst hlk hz.1
        have hmx : mx.map ρc = none := by rcases bm with ⟨h, _⟩ | ⟨_, _, _, e⟩ <;> first | exact h | cases e
        have hlo : lo.map ρc = none := by rcases bl with ⟨h, _⟩ | ⟨_, _, _, e⟩ <;> first | exact h | cases e
        have hlt : lb < st.length := (List.getElem?_eq_some_iff.1 e1).1
        have upd : ∀ (bd' : Bd), bd'.b = bd.b → bd'.g = g + 1 → RepO M (μ.set lb bd') w (.arr (g + 1) sz (rows.take hv2.toNat)) bd' →
          StoreOk M (μ.set lb bd') (st.set lb (.arr (g + 1) sz (rows.take hv2.toNat))) w ∧ Stp M μ st w M (μ.set lb bd') (st.set lb (.arr (g + 1) sz (rows.take hv2.toNat))) w ∧ EvoAll μ (μ.set lb bd') := by
         intro bd' k1 k2 k3
         have hev : ∀ p, μ[lb]? = some p → p.evo bd' := fun p e => by
          rw [e2] at e; cases e
          exact .inr (.inr ⟨by omega, by omega⟩)
         refine ⟨hst.update hlt (.refl M) hev (fun b _ _ => ⟨rfl, fun _ h => h⟩) (fun i x p b z1 hx z2 z3 => hst.lt z1 hx z2 z3) k3 (fun e => by cases e) (fun b z _ i x p hi z1 hx z2 z3 => ?_) hst.mem, ?_, EvoAll.set hev⟩
         ·rw [k1] at z
          exact hst.apart lb i _ x bd p b (Ne.symm hi) e1 z1 rfl hx e2 z2 z z3
         ·refine ⟨rfl, rfl, rfl, Nat.le_refl _, fun _ _ _ => rfl, .refl M, fun b o v e k => by simp [e] at k, fun b ⟨i, x, p, z1, hx, z2, z3⟩ => .inr ?_⟩
          by_cases hi : i = lb
          ·subst hi
           rw [List.getElem?_set_self (by rw [hst.len]; exact hlt)] at z2
           cases z2
           exact ⟨i, _, bd, e1, rfl, e2, by rw [← k1]; exact z3⟩
          ·rw [List.getElem?_set_ne (Ne.symm hi)] at z1 z2
           exact ⟨i, x, p, z1, hx, z2, z3⟩
        rcases h7 with ⟨k0, rfl, k2, A, hv⟩ | ⟨b, cc, ty, k0, hv, k2, k3, k4, k5, k6⟩
        ·have h0 : hv2.toNat = 0 := by simp at o3; omega
         obtain ⟨u1, u2, u3⟩ := upd ⟨none, g + 1, 0, 0, sz⟩ k0.symm rfl ⟨by omega, rfl, rfl, by simp, by simp⟩
         have hb := run_bounds (P := P) (isS := true) (len := 0) (cap := 0) bl bh (.inl ⟨rfl, rfl⟩) (.inl rfl) (by simp) (by simpa using o2) (by simpa using o3) w
         rw [← hmx] at hb
         have hrun := run_slice_sl hu hti (A := A) hb
         rw [← hv] at hrun
         refine ⟨_, w, M, _, .inl (key _ hrun), u1, u2, u3, .la (List.getElem?_set_self (by rw [hst.len]; exact hlt)) (by omega) (Nat.le_refl _) (fun _ => ?_) rfl⟩
         simp only [Option.getD_some, h0, LaOk]
         exact ⟨A, by simp⟩
        ·have hle : hv2.toNat ≤ rows.length := by omega
         obtain ⟨u1, u2, u3⟩ := upd ⟨some b, g + 1, bd.n, hv2.toNat, sz⟩ k0.symm rfl ⟨by omega, rfl, rfl, by simp; omega, cc, ty, k2, k3, by simp; omega,
          fun i row e => k5.1 i row (by rw [List.getElem?_take] at e; split at e <;> first | exact e | cases e),
          fun i row j a z1 z2 => k5.2 i row j a (by rw [List.getElem?_take] at z1; split at z1 <;> first | exact z1 | cases z1) z2, k6⟩
         have hb := run_bounds (P := P) (isS := true) (len := rows.length) (cap := bd.n) bl bh (.inl ⟨rfl, rfl⟩) (.inl rfl) (by simp) (by simpa using o2) (by simp only [Option.getD_some]; omega) w
         rw [← hmx] at hb
         have hrun := run_slice_sl hu hti (A := some ⟨b, 0, none⟩) hb
         rw [← hv] at hrun
         refine ⟨_, w, M, _, .inl (key _ hrun), u1, u2, u3, .la (List.getElem?_set_self (by rw [hst.len]; exact hlt)) (by omega) (Nat.le_refl _) (fun _ => ?_) rfl⟩
         simp [LaOk, addr_add]
      ·cases h
     ·cases h
    ·cases h
   ·cases h
  ·cases h
 ·cases h
end
end Go.Ae

/- The abstract executor, part 5: operations without calls of functions: what they do, and that the model does just that. -/
import Derived.Test.YtpcnfjddleceiaaGreatAe4
namespace Go.Ae

def AllP : List Prop → Prop
  | [] => True
  | p :: l => p ∧ AllP l

theorem ob0 : AllP [] := trivial
theorem ob1 {p : Prop} {l : List Prop} (h : p) (k : AllP l) : AllP (p :: l) := ⟨h, k⟩
theorem AllP_append {l k : List Prop} : AllP (l ++ k) ↔ AllP l ∧ AllP k := by
  induction l with
  | nil => simp [AllP]
  | cons p l ih => simp [AllP, ih, and_assoc]

/-- What is told of a value's bool, number or text is put in its place. -/
def Res.adj (en : Ent) (res : Res) : Res :=
  match en with
  | .bit b => match res.r with
    | .sc (.bool x) => { res with r := .sc (.bool b), ob := res.ob ++ [x = b] }
    | _ => res
  | .int n => match res.r with
    | .sc (.int k x) => { res with r := .sc (.int k n), ob := res.ob ++ [x = n] }
    | _ => res
  | .str s => match res.r with
    | .sc (.string x) => { res with r := .sc (.string s), ob := res.ob ++ [x = s] }
    | _ => res
  | .rows ys => match res.r with
    | .sl sz xs f => { res with r := .sl sz ys f, ob := res.ob ++ [xs = ys] }
    | _ => res
  | _ => res

theorem OpOk.adj {M : Mem} {μ : List Bd} {st : List AObj} {w : World} {res : Res} {run : Result Next} {en : Ent} (hob : AllP (res.adj en).ob)
    (h : AllP res.ob → OpOk M μ st w res run) : OpOk M μ st w (res.adj en) run := by
  unfold Res.adj at *
  cases en with
  | bit b =>
    simp only at *
    split at hob
    · rename_i x hx
      simp only [AllP_append, AllP, and_true] at hob
      obtain ⟨v, w', M', μ', h1, h2, h3, h4, h5⟩ := h hob.1
      refine ⟨v, w', M', μ', h1, h2, h3, h4, ?_⟩
      rw [hx, hob.2] at h5
      exact h5
    · exact h hob
  | int n =>
    simp only at *
    split at hob
    · rename_i k x hx
      simp only [AllP_append, AllP, and_true] at hob
      obtain ⟨v, w', M', μ', h1, h2, h3, h4, h5⟩ := h hob.1
      refine ⟨v, w', M', μ', h1, h2, h3, h4, ?_⟩
      rw [hx, hob.2] at h5
      exact h5
    · exact h hob
  | str s =>
    simp only at *
    split at hob
    · rename_i x hx
      simp only [AllP_append, AllP, and_true] at hob
      obtain ⟨v, w', M', μ', h1, h2, h3, h4, h5⟩ := h hob.1
      refine ⟨v, w', M', μ', h1, h2, h3, h4, ?_⟩
      rw [hx, hob.2] at h5
      exact h5
    · exact h hob
  | rows ys =>
    simp only at *
    split at hob
    · rename_i sz xs f hx
      simp only [AllP_append, AllP, and_true] at hob
      obtain ⟨v, w', M', μ', h1, h2, h3, h4, h5⟩ := h hob.1
      refine ⟨v, w', M', μ', h1, h2, h3, h4, ?_⟩
      rw [hx, hob.2] at h5
      exact h5
    · exact h hob
  | _ => exact h hob

section
variable {P : Program} {M : Mem} {μ : List Bd} {st : List AObj} {w : World} {ρ : Operand → AV} {ρc : Operand → Value} {o : Oper} {en : Ent} {slot : Nat}

/-! ### move, assign, pick -/
theorem ok_move (hst : StoreOk M μ st w) (hρ : ∀ x, RepV M μ (ρ x) (ρc x)) {x : Operand} (ho : o.op = .move x) : OpOk M μ st w ⟨ρ x, [], [], []⟩ ((execOp ρc o).run P w) :=
  OpOk.val hst (by simp [execOp, ho]) (hρ x)
theorem ok_assign (hst : StoreOk M μ st w) (hρ : ∀ x, RepV M μ (ρ x) (ρc x)) {x : Operand} (ho : o.op = .assign x) : OpOk M μ st w ⟨ρ x, [], [], []⟩ ((execOp ρc o).run P w) :=
  OpOk.val hst (by simp [execOp, ho]) (hρ x)

def pickA (c a b : AV) : Option Res :=
  match c with
  | .sc (.bool t) => match t with
    | true => some ⟨a, [], [], []⟩
    | false => some ⟨b, [], [], []⟩
  | _ => none

theorem ok_pick (hst : StoreOk M μ st w) (hρ : ∀ x, RepV M μ (ρ x) (ρc x)) {c x y : Operand} (ho : o.op = .pick c x y) {res : Res} (h : pickA (ρ c) (ρ x) (ρ y) = some res) :
    OpOk M μ st w res ((execOp ρc o).run P w) := by
  unfold pickA at h
  have hc := hρ c
  split at h
  · rename_i t e
    rw [e] at hc
    have ev := hc.scv
    cases t with
    | true => cases h; exact OpOk.val hst (by simp [execOp, ho, ev, asBool]) (hρ x)
    | false => cases h; exact OpOk.val hst (by simp [execOp, ho, ev, asBool]) (hρ y)
  · cases h

/-! ### new variables -/
def zeroA (P : Program) (t : TypeId) : Option (List AV) := (P.info? t).bind fun i => i.zero.bind fun z =>
  bif (z.cells.toList.map cvt1).all oneB then some (z.cells.toList.map cvt1) else none

theorem zeroA_rep {t : TypeId} {cs : List AV} (h : zeroA P t = some cs) (M : Mem) (μ : List Bd) : ∃ i z, P.info? t = some i ∧ i.zero = some z ∧ RL M μ cs z.cells := by
  unfold zeroA at h
  obtain ⟨i, hi, h⟩ := Option.bind_eq_some_iff.1 h
  obtain ⟨z, hz, h⟩ := Option.bind_eq_some_iff.1 h
  cases hb : (z.cells.toList.map cvt1).all oneB with
  | false => rw [hb] at h; cases h
  | true =>
    rw [hb] at h
    cases h
    rw [List.all_eq_true] at hb
    refine ⟨i, z, hi, hz, by simp, fun j a e => ?_⟩
    have hm := hb a (List.mem_of_getElem? e)
    rw [List.getElem?_map] at e
    obtain ⟨v, e1, rfl⟩ := Option.map_eq_some_iff.1 e
    exact ⟨v, by rw [← Array.getElem?_toList]; exact e1, oneB_spec hm (cvt1_rep M μ v), cvt1_rep M μ v⟩

def allocA (P : Program) (slot : Nat) (t : TypeId) : Option Res :=
  (zeroA P t).map fun cs => ⟨.lp slot 0, [(slot, .cells cs [])], [(slot, true)], []⟩

theorem ok_alloc (hst : StoreOk M μ st w) (hs : st[slot]? = some .gone) {t : TypeId} (ho : o.op = .alloc t) {res : Res} (h : allocA P slot t = some res) :
    OpOk M μ st w res ((execOp ρc o).run P w) := by
  obtain ⟨cs, hz, rfl⟩ := Option.map_eq_some_iff.1 h
  obtain ⟨i, z, hi, hz, hr⟩ := zeroA_rep hz M μ
  exact OpOk.newCells hst hs hr (t := t) (by simp [execOp, ho, Instr.alloc, run_zeroValue w hi hz, newVar, newRow])

def boxA (slot : Nat) (x : AV) : Option Res := (cellsOf x).map fun cs => ⟨.lp slot 0, [(slot, .cells cs [])], [(slot, true)], []⟩

theorem ok_box (hst : StoreOk M μ st w) (hs : st[slot]? = some .gone) (hρ : ∀ x, RepV M μ (ρ x) (ρc x)) {t : TypeId} {x : Operand} (ho : o.op = .box t x) {res : Res} (h : boxA slot (ρ x) = some res) :
    OpOk M μ st w res ((execOp ρc o).run P w) := by
  obtain ⟨cs, hc, rfl⟩ := Option.map_eq_some_iff.1 h
  exact OpOk.newCells hst hs (cellsOf_rep hc (hρ x)) (t := t) (by simp [execOp, ho, Instr.box, newVar, newRow])

/-! ### structs and literals -/
def partsA (ρ : Operand → AV) (ps : Array (Nat × Operand)) : List (Nat × AV) := ps.toList.map fun p => (p.1, ρ p.2)

theorem partsA_rep (hρ : ∀ x, RepV M μ (ρ x) (ρc x)) (ps : Array (Nat × Operand)) : (partsA ρ ps).length = (ps.map fun (i, x) => (i, ρc x)).toList.length ∧
    ∀ (j : Nat) (p : Nat × AV) (q : Nat × Value), (partsA ρ ps)[j]? = some p → (ps.map fun (i, x) => (i, ρc x)).toList[j]? = some q → p.1 = q.1 ∧ RepV M μ p.2 q.2 := by
  refine ⟨by simp [partsA], fun j p q e1 e2 => ?_⟩
  simp only [partsA, List.getElem?_map] at e1
  rw [Array.toList_map, List.getElem?_map] at e2
  obtain ⟨x, e3, rfl⟩ := Option.map_eq_some_iff.1 e1
  rw [e3] at e2
  cases e2
  exact ⟨rfl, hρ _⟩

def placesL (P : Program) : List Field → Option (List (Nat × Nat))
  | [] => some []
  | f :: fs => match szT P f.type, placesL P fs with
    | some n, some l => some ((f.offset, n) :: l)
    | _, _ => none

theorem run_places (fields : Array Field) {l : List (Nat × Nat)} (h : placesL P fields.toList = some l) (w : World) :
    ((fields.mapM fun f => Prod.mk f.offset <$> sizeOf f.type) : Sem (Array (Nat × Nat))).run P w = .ok l.toArray w := by
  have key : ∀ (fs : List Field) (l : List (Nat × Nat)), placesL P fs = some l → ((fs.mapM fun f => Prod.mk f.offset <$> sizeOf f.type) : Sem (List (Nat × Nat))).run P w = .ok l w := by
    intro fs
    induction fs with
    | nil => intro l h; simp only [placesL, Option.some.injEq] at h; subst h; simp
    | cons f fs ih =>
      intro l h
      simp only [placesL] at h
      split at h
      · rename_i n l' h1 h2
        cases h
        obtain ⟨i, hi, rfl⟩ := Option.map_eq_some_iff.1 h1
        simp [run_sizeOf w hi, ih l' h2]
      · cases h
  rw [← Array.toArray_toList (xs := fields)]
  simp only [List.mapM_toArray]
  simp [key _ _ h]

def buildA (P : Program) (t : TypeId) (ps : List (Nat × AV)) : Option Res :=
  match P.underlying t with
  | some (.struct fields) => match zeroA P t, placesL P fields.toList with
    | some zs, some pl => (fillA (fun i => pl[i]?) zs ps).map fun cs => ⟨.agg cs, [], [], []⟩
    | _, _ => none
  | _ => none

theorem ok_build (hst : StoreOk M μ st w) (hρ : ∀ x, RepV M μ (ρ x) (ρc x)) {t : TypeId} {ps : Array (Nat × Operand)} (ho : o.op = .build t ps) {res : Res}
    (h : buildA P t (partsA ρ ps) = some res) : OpOk M μ st w res ((execOp ρc o).run P w) := by
  unfold buildA at h
  split at h
  · rename_i fields hu
    split at h
    · rename_i zs pl hz hp
      obtain ⟨cs, hf, rfl⟩ := Option.map_eq_some_iff.1 h
      obtain ⟨i, z, hi, hz, hr⟩ := zeroA_rep hz M μ
      obtain ⟨h1, h2⟩ := partsA_rep hρ ps
      obtain ⟨c', k1, k2⟩ := fill_rep _ _ _ _ _ hf hr h1 h2
      refine OpOk.val hst (v := .agg c') ?_ k2.toAgg
      have k1' : Instr.fill (fun x => pl[x]?) z.cells (ps.toList.map fun x => (x.1, ρc x.2)) = some c' := by simpa using k1
      simp [execOp, ho, Instr.build, run_zeroValue w hi hz, run_underlying hu, run_places fields hp, k1']
    · cases h
  · cases h

/-- A list cut into rows. -/
def chunk (sz : Nat) : Nat → List AV → List (List AV)
  | 0, _ => []
  | n + 1, l => l.take sz :: chunk sz n (l.drop sz)

theorem chunk_length (sz : Nat) : ∀ (n : Nat) (l : List AV), (chunk sz n l).length = n
  | 0, _ => rfl
  | n + 1, l => by simp [chunk, chunk_length sz n]

theorem chunk_get (sz : Nat) : ∀ (n : Nat) (l : List AV) (i : Nat), i < n → (chunk sz n l)[i]? = some ((l.drop (i * sz)).take sz)
  | 0, _, _, h => by omega
  | n + 1, l, 0, _ => by simp [chunk]
  | n + 1, l, i + 1, h => by
    simp only [chunk, List.getElem?_cons_succ]
    rw [chunk_get sz n _ i (by omega), List.drop_drop, show sz + i * sz = (i + 1) * sz by rw [Nat.succ_mul, Nat.add_comm]]

theorem RL.rows {M : Mem} {cs : List AV} {c : Array Value} {sz n : Nat} (h : RL M μ cs c) (hl : cs.length = n * sz) (hd : cs.all (dataB 6) = true) : RowsIn M sz (chunk sz n cs) c := by
  have hget : ∀ (i : Nat) (row : List AV), (chunk sz n cs)[i]? = some row → i < n ∧ row = (cs.drop (i * sz)).take sz := fun i row e => by
    have hi : i < n := by rw [← chunk_length sz n cs]; exact (List.getElem?_eq_some_iff.1 e).1
    rw [chunk_get sz n cs i hi] at e
    cases e
    exact ⟨hi, rfl⟩
  have hle : ∀ i, i < n → i * sz + sz ≤ n * sz := fun i hi => by rw [← Nat.succ_mul]; exact Nat.mul_le_mul_right sz hi
  refine ⟨fun i row e => ?_, fun i row j a e1 e2 => ?_⟩
  · obtain ⟨hi, rfl⟩ := hget i row e
    have := hle i hi
    simp; omega
  · obtain ⟨hi, rfl⟩ := hget i row e1
    have hj : j < sz := by
      have := (List.getElem?_eq_some_iff.1 e2).1
      simp at this; omega
    rw [List.getElem?_take, if_pos hj, List.getElem?_drop] at e2
    obtain ⟨v, e3, e4, e5⟩ := h.2 _ a e2
    rw [List.all_eq_true] at hd
    exact ⟨v, e3, e4, e5.ofData 6 (hd a (List.mem_of_getElem? e2))⟩

theorem RL.zeros {zs : List AV} {z : Array Value} (h : RL M μ zs z) (n : Nat) (hn : zs ≠ []) :
    RL M μ ((List.range n).map fun k => zs.getD (k % zs.length) .any) ((Array.range n).map (z[· % z.size]!)) := by
  refine ⟨by simp, fun j a e => ?_⟩
  rw [List.getElem?_map] at e
  obtain ⟨k, e1, rfl⟩ := Option.map_eq_some_iff.1 e
  have hj : j < n := by
    have := (List.getElem?_eq_some_iff.1 e1).1
    simpa using this
  rw [List.getElem?_range hj] at e1
  cases e1
  have hp : 0 < zs.length := List.length_pos_iff.2 hn
  have hlt : j % zs.length < zs.length := Nat.mod_lt _ hp
  obtain ⟨v, e2, e3, e4⟩ := h.2 (j % zs.length) _ (List.getElem?_eq_getElem hlt)
  refine ⟨v, ?_, e3, by rw [List.getD_eq_getElem?_getD, List.getElem?_eq_getElem hlt]; exact e4⟩
  rw [Array.getElem?_map, Array.getElem?_range, if_pos hj]
  simp only [Option.map_some, Option.some.injEq]
  rw [h.1, getElem!_def, e2]

/-- []T{..}: a slice whose cells never change, or (told so) a row of the call's own. -/
def buildSliceA (P : Program) (slot : Nat) (en : Ent) (t : TypeId) (n : Nat) (ps : List (Nat × AV)) : Option Res :=
  match P.underlying t with
  | some (.slice e) => match szT P e, zeroA P e with
    | some sz, some zs =>
      bif Nat.ble 1 sz && Nat.ble 1 zs.length && Nat.ble (n * sz) 16777216 then
        (fillA (fun i => some (i * sz, sz)) ((List.range (n * sz)).map fun k => zs.getD (k % zs.length) .any) ps).bind fun cs =>
          bif cs.all (dataB 6) && Nat.beq cs.length (n * sz) then (match en with
            | .loc => bif Nat.ble 1 n then some ⟨.la slot 1, [(slot, .arr 1 sz (chunk sz n cs))], [(slot, true)], []⟩ else none
            | _ => some ⟨.sl sz (chunk sz n cs) true, [], [], []⟩) else none
      else none
    | _, _ => none
  | _ => none

theorem ok_buildSlice (hst : StoreOk M μ st w) (hs : st[slot]? = some .gone) (hρ : ∀ x, RepV M μ (ρ x) (ρc x)) {t : TypeId} {n : Nat} {ps : Array (Nat × Operand)} (ho : o.op = .buildSlice t n ps) {res : Res}
    (h : buildSliceA P slot en t n (partsA ρ ps) = some res) : OpOk M μ st w res ((execOp ρc o).run P w) := by
  unfold buildSliceA at h
  split at h
  · rename_i e hu
    split at h
    · rename_i sz zs hsz hz
      cases hb : (Nat.ble 1 sz && Nat.ble 1 zs.length && Nat.ble (n * sz) 16777216) with
      | false => rw [hb] at h; cases h
      | true =>
        rw [hb] at h
        simp only [cond_true] at h
        simp only [Bool.and_eq_true] at hb
        have h1 : 1 ≤ sz := Nat.le_of_ble_eq_true hb.1.1
        have h2 : 1 ≤ zs.length := Nat.le_of_ble_eq_true hb.1.2
        have h3 : n * sz ≤ 16777216 := Nat.le_of_ble_eq_true hb.2
        obtain ⟨i, hi, rfl⟩ := Option.map_eq_some_iff.1 hsz
        obtain ⟨i', z, hi', hz, hr⟩ := zeroA_rep hz M μ
        rw [hi] at hi'
        cases hi'
        have hne : zs ≠ [] := fun e => by subst e; simp at h2
        obtain ⟨cs, hf, h⟩ := Option.bind_eq_some_iff.1 h
        have hr0 := hr.zeros (n * i.size) hne
        obtain ⟨k1, k2⟩ := partsA_rep hρ ps
        obtain ⟨c', g1, g2⟩ := fill_rep _ _ _ _ _ hf hr0 k1 k2
        cases hb2 : (cs.all (dataB 6) && Nat.beq cs.length (n * i.size)) with
        | false => rw [hb2] at h; cases h
        | true =>
          rw [hb2] at h
          simp only [cond_true] at h
          simp only [Bool.and_eq_true] at hb2
          have hl := Nat.eq_of_beq_eq_true hb2.2
          have hrows := g2.rows hl hb2.1
          have hrun : (execOp ρc o).run P w = .ok (.value (.slice (some ⟨w.heap.size, 0, none⟩) n n)) (({ w with drawn := w.drawn } : World).alloc (.cells c' e)) := by
            have hps : (ps.map fun (x : Nat × Operand) => (x.fst, ρc x.snd)).toList = (ps.map fun (i, x) => (i, ρc x)).toList := rfl
            by_cases h0 : n * i.size = 0
            · have g1' : Instr.fill (fun i_1 => some (i_1 * i.size, i.size)) ((Array.range (n * i.size)).map ((#[] : Array Value)[· % (#[] : Array Value).size]!)) (ps.map fun (i, x) => (i, ρc x)).toList = some c' := by
                rw [← g1]; simp [h0, Array.range_zero']
              simp only [execOp, ho, Instr.buildSlice, Sem.run_bind, run_underlying hu, Result.andThen_ok, run_sizeOf w hi]
              rw [if_neg (by omega), if_pos h0]
              simp only [Sem.run_bind, Sem.run_pure, Result.andThen_ok, hps, g1']
              simp [newRow]
            · have g1' : Instr.fill (fun i_1 => some (i_1 * i.size, i.size)) ((Array.range (n * i.size)).map (z.cells[· % z.cells.size]!)) (ps.map fun (i, x) => (i, ρc x)).toList = some c' := by
                rw [← g1]
              simp only [execOp, ho, Instr.buildSlice, Sem.run_bind, run_underlying hu, Result.andThen_ok, run_sizeOf w hi]
              rw [if_neg (by omega), if_neg h0]
              simp only [Sem.run_bind, Sem.run_pure, Result.andThen_ok, run_zeroValue w hi hz, hps, g1']
              simp [newRow]
          have hn := chunk_length i.size n cs
          cases en with
          | loc =>
            simp only at h
            cases hb3 : Nat.ble 1 n with
            | false => rw [hb3] at h; cases h
            | true =>
              rw [hb3] at h
              cases h
              exact OpOk.newArr hst hs hrows hn (Nat.le_refl n) (by rw [g2.1, hl]) hrun
          | _ =>
            cases h
            exact OpOk.newRow hst hrows hn (Nat.le_refl n) (fun _ => rfl) hrun
    · cases h
  · cases h

end
end Go.Ae

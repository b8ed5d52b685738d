/- The abstract executor, part 13: calls of functions; one step. -/
import Derived.Test.YtpcnfjddleceiaaGreatAe12
namespace Go.Ae

/-- A call of function f with these arguments, over these objects, comes to this value and these objects. -/
def SoundCall (P : Program) (f : FuncId) (args : List AV) (σ : List AObj) (r : AV) (σ' : List AObj) : Prop :=
  (∃ fn, P.funcs[f]? = some fn ∧ fn.body.isNone = false ∧ (fn.name == "runtime.NumGoroutine") = false) ∧ σ.length ≤ σ'.length ∧
  ∀ M μ w (vs : List Value), StoreOk M μ σ w → vs.length = args.length → (∀ (j : Nat) (a : AV) (v : Value), args[j]? = some a → vs[j]? = some v → RepV M μ a v) →
    Calls P f vs.toArray w fun e w' => ∃ v M' μ', e = .returned v ∧ StoreOk M' μ' σ' w' ∧ Stp M μ σ w M' μ' σ' w' ∧ EvoTo σ.length μ μ' ∧ RepV M' μ' r v

/-- The kinds of a type's cells: of a slice, how many cells an element has. -/
abbrev Kinds := List (Nat × List (Option Nat))

def kindsOf (K : Kinds) (t : Nat) : List (Option Nat) :=
  match K with
  | [] => []
  | (k, l) :: r => bif Nat.beq k t then l else kindsOf r t

def tidyArgs (K : Kinds) : List TypeId → List AV → List AV
  | [], as => as
  | _ :: _, [] => []
  | t :: ts, a :: as => tidyV (kindsOf K t) a :: tidyArgs K ts as

theorem tidyArgs_rep {M : Mem} {μ : List Bd} (K : Kinds) : ∀ (ts : List TypeId) (as : List AV) (vs : List Value),
    (∀ (j : Nat) (a : AV) (v : Value), as[j]? = some a → vs[j]? = some v → RepV M μ a v) →
    ∀ (j : Nat) (a : AV) (v : Value), (tidyArgs K ts as)[j]? = some a → vs[j]? = some v → RepV M μ a v
  | [], _, _, h => h
  | _ :: _, [], _, _ => by simp [tidyArgs]
  | t :: ts, a :: as, vs, h => fun j x v h1 h2 => by
    cases j with
    | zero => simp [tidyArgs] at h1; subst h1; exact (h 0 a v rfl h2).tidy _
    | succ j =>
      cases vs with
      | nil => simp at h2
      | cons u us => exact tidyArgs_rep K ts as us (fun j a v e1 e2 => h (j + 1) a v (by simpa using e1) (by simpa using e2)) j x v (by simpa [tidyArgs] using h1) (by simpa using h2)

theorem tidyArgs_length (K : Kinds) : ∀ (ts : List TypeId) (as : List AV), (tidyArgs K ts as).length = as.length
  | [], _ => rfl
  | _ :: _, [] => rfl
  | t :: ts, a :: as => by simp [tidyArgs, tidyArgs_length K ts as]

def methodOf (P : Program) (t : TypeId) (name : String) : Option FuncId :=
  match P.underlying t with
  | some (.pointer _) => match P.info? t with
    | some i => match i.methods.find? (·.name == name) with
      | some m => bif m.path.isEmpty then (match m.func with
        | some (g, true) => some g
        | _ => none) else none
      | none => none
    | none => none
  | _ => none

theorem run_methodOf {P : Program} {t : TypeId} {name : String} {g : FuncId} (h : methodOf P t name = some g) (n : Nat) (v : Value) (w : World) : (method (n + 1) t v name).run P w = .ok (g, v) w := by
  unfold methodOf at h
  split at h
  · rename_i e hu
    split at h
    · rename_i i hi
      split at h
      · rename_i m hm
        cases hp : m.path.isEmpty with
        | false => rw [hp] at h; cases h
        | true =>
          rw [hp] at h
          simp only [cond_true] at h
          split at h
          · rename_i g' hf
            cases h
            have hpe : m.path = #[] := by simpa using hp
            simp only [method, Sem.run_bind, run_typeInfo w hi, Result.andThen_ok, hm, hpe, follow, Sem.run_pure, hf]
            simp [receiverAt, run_underlying hu, Place.get]
          · cases h
      · cases h
    · cases h
  · cases h

/-- What a call calls, with which arguments. -/
def targetA (P : Program) (ρ : Operand → AV) (c : Call) : Option (FuncId × List AV) :=
  match c.callee with
  | .value f => match ρ f with
    | .fn g caps => some (g, c.args.toList.map ρ ++ caps)
    | _ => none
  | .invoke r name => match ρ r with
    | .ifc t x => (methodOf P t name).map fun g => (g, x :: c.args.toList.map ρ)
    | _ => none
  | .builtin _ => none

theorem map_rep {M : Mem} {μ : List Bd} {ρ : Operand → AV} {ρc : Operand → Value} (hρ : ∀ x, RepV M μ (ρ x) (ρc x)) (l : List Operand) :
    ∀ (j : Nat) (a : AV) (v : Value), (l.map ρ)[j]? = some a → (l.map ρc)[j]? = some v → RepV M μ a v := fun j a v e1 e2 => by
  rw [List.getElem?_map] at e1 e2
  obtain ⟨x, e3, rfl⟩ := Option.map_eq_some_iff.1 e1
  rw [e3] at e2
  cases e2
  exact hρ x

theorem targetA_ok {P : Program} {M : Mem} {μ : List Bd} {w : World} {ρ : Operand → AV} {ρc : Operand → Value} {o : Oper} {c : Call} (hρ : ∀ x, RepV M μ (ρ x) (ρc x)) (ho : o.op = .call c) {g : FuncId} {args : List AV}
    (h : targetA P ρ c = some (g, args)) (hg : ∃ fn, P.funcs[g]? = some fn ∧ fn.body.isNone = false ∧ (fn.name == "runtime.NumGoroutine") = false) :
    ∃ vs : List Value, vs.length = args.length ∧ (∀ (j : Nat) (a : AV) (v : Value), args[j]? = some a → vs[j]? = some v → RepV M μ a v) ∧ (execOp ρc o).run P w = .ok (.enter g vs.toArray) w := by
  obtain ⟨fn, hf, hb, hn⟩ := hg
  have hcall : ∀ (as : Array Value), (callFunc g as).run P w = .ok (.enter g as) w := fun as => by
    simp only [callFunc, Sem.run_bind, run_program, Result.andThen_ok, hf, hn, hb, Bool.false_eq_true, if_false, Sem.run_pure]
  unfold targetA at h
  split at h
  · rename_i f hc
    split at h
    · rename_i g' caps e
      cases h
      have hx := hρ f
      rw [e] at hx
      generalize hv : ρc f = v at hx
      cases hx with
      | @fn _ _ _ us hl hr =>
        refine ⟨c.args.toList.map ρc ++ us, by simp [hl], fun j a v e1 e2 => ?_, ?_⟩
        · by_cases hj : j < c.args.toList.length
          · rw [List.getElem?_append_left (by simpa using hj)] at e1 e2
            exact map_rep hρ c.args.toList j a v e1 e2
          · rw [List.getElem?_append_right (by simp at hj; simpa using hj)] at e1 e2
            simp only [List.length_map] at e1 e2
            exact hr _ a v e1 e2
        · simp only [execOp, ho, resolve, hc, hv, Deferred.ofValue]
          have : (#[] ++ c.args.map ρc) ++ us.toArray = (c.args.toList.map ρc ++ us).toArray := by apply Array.ext'; simp
          simp only [Sem.run_bind, Sem.run_pure, Result.andThen_ok, invoke]
          rw [hcall, this]
    · cases h
  · rename_i r name hc
    split at h
    · rename_i t x e
      obtain ⟨g', hm, hgg⟩ := Option.map_eq_some_iff.1 h
      simp only [Prod.mk.injEq] at hgg
      obtain ⟨rfl, rfl⟩ := hgg
      have hx := hρ r
      rw [e] at hx
      generalize hv : ρc r = v at hx
      cases hx with
      | @ifc _ _ _ u hu =>
        refine ⟨u :: c.args.toList.map ρc, by simp, fun j a v e1 e2 => ?_, ?_⟩
        · cases j with
          | zero => simp at e1 e2; subst e1; subst e2; exact hu
          | succ j =>
            rw [List.getElem?_cons_succ] at e1 e2
            exact map_rep hρ c.args.toList j a v e1 e2
        · simp only [execOp, ho, resolve, hc, hv]
          have h0 : (#[Value.iface t u] ++ c.args.map ρc)[0]? = some (.iface t u) := by rw [Array.getElem?_append_left (by simp)]; rfl
          have h1 : (#[Value.iface t u] ++ c.args.map ρc).extract 1 (#[Value.iface t u] ++ c.args.map ρc).size = c.args.map ρc := by
            apply Array.ext'; simp [List.take_of_length_le]
          have hfuel : P.types.size + Made.depth = (P.types.size + (Made.depth - 1)) + 1 := by
            have : 1 ≤ Made.depth := by decide
            omega
          have hargs : #[u] ++ c.args.map ρc = (u :: c.args.toList.map ρc).toArray := by apply Array.ext'; simp
          simp only [Sem.run_bind, Sem.run_pure, Result.andThen_ok, invoke, h0, h1, callMethod, run_program]
          rw [hfuel, run_methodOf hm]
          simp only [Result.andThen_ok]
          rw [hcall, hargs]
    · cases h
  · cases h

end Go.Ae

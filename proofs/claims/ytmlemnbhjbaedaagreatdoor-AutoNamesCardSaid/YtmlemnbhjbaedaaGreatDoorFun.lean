/-
  The engine's laws at a function's two ends: how its body is entered, how its results are read. Nothing here speaks of a program.
-/
import Derived.Test.YtmlemnbhjbaedaaGreatDoorFlow
namespace Go.Proofs.YtmlemnbhjbaedaaGreatDoor
open Go.RowKit
set_option linter.unusedSimpArgs false
set_option linter.unusedVariables false

def argF : Nat → List Value → Fr
  | _, [] => []
  | i, v :: vs => (i, v) :: argF (i + 1) vs
theorem argF_at : ∀ (i : Nat) (vs : List Value) (t : Nat) (v : Value), (argF i vs).lookup t = some v → i ≤ t ∧ vs[t - i]? = some v
  | i, [], t, v, h => by simp [argF] at h
  | i, x :: vs, t, v, h => by
    simp only [argF, List.lookup_cons] at h
    by_cases e : t = i
    · subst e; simp at h; simp [h]
    · have e' : (t == i) = false := by simpa using e
      rw [e'] at h
      obtain ⟨h1, h2⟩ := argF_at (i + 1) vs t v h
      refine ⟨by omega, ?_⟩
      rw [show t - i = (t - (i + 1)) + 1 from by omega]
      simpa using h2
theorem ag_args {N : Nat} {vs : List Value} (hN : vs.length ≤ N) : Ag N [] { tmps := vs.toArray ++ Array.replicate (N - vs.toArray.size) undef, defers := [] } (argF 0 vs) := by
  refine ⟨by simp; omega, rfl, fun t v h => ?_⟩
  obtain ⟨_, h2⟩ := argF_at 0 vs t v h
  have hlt := (List.getElem?_eq_some_iff.1 h2).1
  simp only [Nat.sub_zero] at h2 hlt
  rw [Array.getElem?_append_left (by simpa using hlt)]
  simpa using h2

section
variable {P : Program} {fn : Func} {c : Code} {f : FuncId} {vs : List Value} {w : World} {R : Ending → World → Prop} {H : Hp} {S : List World}
/-- a function's contract, off its body -/
theorem calls_cw (hf : P.funcs[f]? = some fn) (hb : fn.body = some c) (hN : vs.length ≤ fn.ntmps) (hk : Kn w H S) (h : CW P none fn.ntmps [] c (bodyPost P fn R) (argF 0 vs) H S) : Calls P f vs.toArray w R :=
  callsIn_wide.1 (callsIn_of_wp (F := Fence.wide) (n := 0) hf hb trivial (h.run _ w (ag_args hN) hk))
/-- .. whose body ranges over a function -/
theorem calls_cwm (hf : P.funcs[f]? = some fn) (hb : fn.body = some c) (hN : vs.length ≤ fn.ntmps) (hk : Kn w H S) (h : CW P none fn.ntmps [] c (bodyPostM Fence.wide 0 P fn R) (argF 0 vs) H S) : Calls P f vs.toArray w R :=
  callsIn_wide.1 (callsIn_of_wp_marks (F := Fence.wide) (n := 0) hf hb trivial (h.run _ w (ag_args hN) hk))
theorem kn0 (w : World) : Kn w [] [w] := ⟨by simp, by simp [keysOf], fun s hs => by simp at hs; subst hs; exact Keep.refl _ _⟩
theorem Kn.below {w w0 : World} {H : Hp} {S : List World} (h : Kn w H S) (hs : w0 ∈ S) (hx : ∀ k ∈ keysOf H, w0.heap.size ≤ k) : Below w0.heap.size w0 w := (h.keep w0 hs).below (Nat.le_refl _) hx
end

/-! ### results -/
section
variable {P : Program} {fn : Func} {R : Ending → World → Prop} {H : Hp} {S : List World} {fr : Fr} {N : Nat}
def resRun (P : Program) (tmps : Array Value) (w : World) (rv : ResultVar) (v : Value) : Prop :=
  match rv with
  | .tmp t => tmps.getD t undef = v
  | .cell p T => ∃ a, tmps.getD p undef = .pointer (some a) ∧ (loadVar T a).run P w = .ok v w
/-- a result reads as that -/
def ResIs (P : Program) (fr : Fr) (H : Hp) (S : List World) (rv : ResultVar) (v : Value) : Prop := ∀ N ds a w, Ag N ds a fr → Kn w H S → resRun P a.tmps w rv v
theorem res_tmp {t : Nat} {v : Value} (h : fr.lookup t = some v) : ResIs P fr H S (.tmp t) v := fun _ _ a w ha _ => by
  have := ha.at_ t v h
  simp [resRun, Array.getD_eq_getD_getElem?, this]
theorem res_cell {p T b off : Nat} {cs : Array Value} {t : TypeId} {f : Nat × Nat} {v : Value} (h : fr.lookup p = some (.pointer (some ⟨b, off, none⟩))) (hm : (b, Obj.cells cs t f) ∈ H) (ht : oneT P T = true) (hc : cs[off]? = some v) : ResIs P fr H S (.cell p T) v := fun _ _ a w ha hw => by
  have := ha.at_ p _ h
  refine ⟨⟨b, off, none⟩, by simp [Array.getD_eq_getD_getElem?, this], run_load_one ht ?_⟩
  simp [World.cell?, hw.has _ _ hm, hc]
theorem res_cell_agg {p T n b off : Nat} {cs cs' : Array Value} {t : TypeId} {f : Nat × Nat} (h : fr.lookup p = some (.pointer (some ⟨b, off, none⟩))) (hm : (b, Obj.cells cs t f) ∈ H) (ht : aggLen P T = some n) (hn : off + n ≤ cs.size) (hc : cs.extract off (off + n) = cs') : ResIs P fr H S (.cell p T) (.agg cs') := fun _ _ a w ha hw => by
  subst hc
  have := ha.at_ p _ h
  exact ⟨⟨b, off, none⟩, by simp [Array.getD_eq_getD_getElem?, this], by rw [run_loadVar_agg ht, kn_row (hw.has _ _ hm) hn]⟩
theorem results1 {rv : ResultVar} {v : Value} {tmps : Array Value} {w : World} (h : fn.results = #[rv]) (h1 : resRun P tmps w rv v) : (results fn tmps).run P w = .ok v w := by
  cases rv with
  | tmp t => simp only [resRun] at h1; simp [results, h]; simpa [Array.getD_eq_getD_getElem?] using h1
  | cell p T => obtain ⟨a, e1, e2⟩ := h1; have e1' : tmps[p]?.getD undef = .pointer (some a) := by simpa [Array.getD_eq_getD_getElem?] using e1
                simp [results, h, e1', asAddr, e2]
def oneRes (tmps : Array Value) : ResultVar → Sem Value := fun
  | .tmp t => pure (tmps.getD t undef)
  | .cell a t => do loadVar t (← asAddr (tmps.getD a undef))
theorem oneRes_run {tmps : Array Value} {w : World} {rv : ResultVar} {v : Value} (h1 : resRun P tmps w rv v) : (oneRes tmps rv).run P w = .ok v w := by
  cases rv with
  | tmp t => simp only [resRun] at h1; simp only [oneRes, Sem.run_pure, h1]
  | cell p T => obtain ⟨a, e1, e2⟩ := h1; simp only [oneRes, e1, asAddr, Sem.run_bind, Sem.run_pure, Result.andThen_ok, e2]
theorem results_eq (tmps : Array Value) : results fn tmps = (do let vs ← fn.results.mapM (oneRes tmps); pure (if h : vs.size = 1 then vs[0] else .tuple vs)) := by
  unfold results oneRes; rfl
def All2 {α β : Type} (R : α → β → Prop) : List α → List β → Prop
  | [], [] => True
  | x :: xs, y :: ys => R x y ∧ All2 R xs ys
  | _, _ => False
theorem resultsN {rvs : List ResultVar} {vs : List Value} {tmps : Array Value} {w : World} (h : fn.results = rvs.toArray) (hl : vs.length ≠ 1) (h1 : All2 (resRun P tmps w) rvs vs) : (results fn tmps).run P w = .ok (.tuple vs.toArray) w := by
  rw [results_eq, h]
  have key : (rvs.toArray.mapM (oneRes tmps)).run P w = .ok vs.toArray w := by
    rw [List.mapM_toArray, Sem.run_map]
    have : (rvs.mapM (oneRes tmps)).run P w = .ok vs w := by
      clear h hl
      induction rvs generalizing vs with
      | nil => cases vs with
        | nil => simp
        | cons => exact h1.elim
      | cons rv rvs ih => cases vs with
        | nil => exact h1.elim
        | cons v vs => rw [List.mapM_cons]; simp [oneRes_run h1.1, ih h1.2]
    rw [this]; rfl
  rw [Sem.run_bind, key]
  simp [hl]
section
variable {e : Exit} (he : e = .ret ∨ e = .normal)
include he
theorem fin1 {rv : ResultVar} {v : Value} (h : fn.results = #[rv]) (hv : ResIs P fr H S rv v) (hR : ∀ w, Kn w H S → R (.returned v) w) : QW N [] (bodyPost P fn R) e fr H S := ⟨fun a w ha hw => by
  rcases he with rfl | rfl <;> exact ⟨ha.defs, v, results1 h (hv _ _ a w ha hw), hR w hw⟩⟩
theorem finN {rvs : List ResultVar} {vs : List Value} (h : fn.results = rvs.toArray) (hl : vs.length ≠ 1) (hv : All2 (ResIs P fr H S) rvs vs) (hR : ∀ w, Kn w H S → R (.returned (.tuple vs.toArray)) w) : QW N [] (bodyPost P fn R) e fr H S := ⟨fun a w ha hw => by
  have hv' : All2 (resRun P a.tmps w) rvs vs := by
    clear h hl hR
    induction rvs generalizing vs with
    | nil => cases vs with
      | nil => trivial
      | cons => exact hv.elim
    | cons rv rvs ih => cases vs with
      | nil => exact hv.elim
      | cons v vs => exact ⟨hv.1 _ _ a w ha hw, ih hv.2⟩
  rcases he with rfl | rfl <;> exact ⟨ha.defs, _, resultsN h hl hv', hR w hw⟩⟩
end
end
end Go.Proofs.YtmlemnbhjbaedaaGreatDoor

/-
  Proved: the statement PurseGives holds for every input: the call returns true, and each argument reads as it did. No condition.
-/
import Derived.Test.YtgeelfdgnehdnaaZPurseGivesH
import Derived.Test.YtgeelfdgnehdnaaRows
import Derived.ProofKit
import Derived.OpenShut
import Derived.ShutString
import Derived.ChangeOld
namespace Go.Proofs.Ytgeelfdgnehdnaa.PurseGivesDone
open Go.ChangeShapes Go.WideShapes Go.ChangeAt Go.RowKit Go.Proofs.Ytgeelfdgnehdnaa
set_option linter.unusedVariables false
set_option linter.unusedSimpArgs false
theorem own : ownKnob Try.prog.godebug = none := by kernel_rfl
theorem laidOut : laidOutB Try.prog = true := by kernel_rfl
theorem pars : Try.f6.params = #[24, 59] := by kernel_rfl
theorem shapes : shAll Try.prog 9 [24, 59] = some [.st 2 [.sl 36 80 (.st 36 [.bool, .arr 32 1 (.int .u8), .sl 1 1 (.int .u8), .int .i64, .int .i64]), .int .i64], .st 34 [.int .u64, .arr 32 1 (.int .u8), .int .u64]] := by kernel_rfl
theorem rowed : rowedAll Try.prog [24, 59] = true := by kernel_rfl
theorem law : ∀ ws, FitL [.st 2 [.sl 36 80 (.st 36 [.bool, .arr 32 1 (.int .u8), .sl 1 1 (.int .u8), .int .i64, .int .i64]), .int .i64], .st 34 [.int .u64, .arr 32 1 (.int .u8), .int .u64]] ws → PS cfg (fun _ => none) 6 ws (.bool true) := by
  rintro ws ⟨w1, _, rfl, h1, w2, _, rfl, h2, rfl⟩
  obtain ⟨t, rfl, hb, _⟩ := fit_tree h1
  obtain ⟨d, rfl, _, hd⟩ := fit_depo h2
  exact gives_s t d hd (by omega)
theorem gl (n : Nat) : GlobOK cfg (DD (fun i => i < n) (rho0 0)) (rho0 0) := fun g hg => ⟨⟨by
  have := Nat.le_of_ble_eq_true (show Nat.ble (g + 1) 0 = true from hg)
  omega, Nat.zero_le _⟩, rfl, rfl⟩
theorem calls {W : World} {args : List Value} (hv : ∃ ws, FitL [.st 2 [.sl 36 80 (.st 36 [.bool, .arr 32 1 (.int .u8), .sl 1 1 (.int .u8), .int .i64, .int .i64]), .int .i64], .st 34 [.int .u64, .arr 32 1 (.int .u8), .int .u64]] ws ∧ HVL W ws args) : Calls Try.prog 6 args.toArray W fun e w' => e = .returned (.bool true) ∧ Below W.heap.size W w' :=
  calls_of mixed cfgOK fnsOK (known_none fun _ => rfl) law (Start.bare W 0 0) (gl 0) (fun g w _ hw => by cases hw) hv
set_option maxRecDepth 100000 in
theorem lifted (os : Os) (started : os.Started) (H : Type) (enc : TypeId × Value → H) :
    ReturnsInHanded {} Try.checked os 6 .any (Rows.purseGivesSpec.pre6 enc Try.prog Try.f6 Rows.purseGivesRow.domain false) (Rows.purseGivesSpec.post enc Try.prog Try.f6 false true false false) := by
  refine returns_wt (C := Try.checked) own started (by kernel_rfl) Try.func6
    (ChangeSpec.witness6 (enc := enc) (C := Try.checked) false ⟨#[], #[zVal (.st 2 [.sl 36 80 (.st 36 [.bool, .arr 32 1 (.int .u8), .sl 1 1 (.int .u8), .int .i64, .int .i64]), .int .i64]), zVal (.st 34 [.int .u64, .arr 32 1 (.int .u8), .int .u64])], []⟩ 8 (by kernel_rfl) (by kernel_rfl) (by kernel_rfl) (by kernel_rfl)) ?_
  intro W base args ds gs before hval0 hW hcnd hwt _
  have hval : ∀ (j : Nat) t v, Try.f6.params[j]? = some t → args[j]? = some v → Value.okWide Try.prog W .any base t v := hval0
  have hW' := hW
  obtain ⟨p, q, hA0, hV, rfl, hfz, hnd⟩ := hW
  have hA : DataW.TrodAll enc Try.prog W 0 (fun _ => true) true Try.f6.params.toList args.toList ds p := hA0
  obtain ⟨rfl, rfl⟩ := trodVars_none hV
  have hwt2 : ∀ n ∈ DataW.weightsEach Try.prog [24, 59] ds, n ≤ reachBytes := fun n hn => by
    have h1 : (DataW.weightsEach Try.prog (Try.f6.params.toList ++ []) (ds ++ [])).all (· ≤ reachBytes) = true := hwt
    rw [pars, List.append_nil, List.append_nil] at h1
    have := List.all_eq_true.1 h1 n hn
    simpa using this
  rw [pars] at hA hval
  have ho := open_all (enc := enc) (P := Try.prog) shapes (fun j t v h1 h2 => hval j t v (by simpa using h1) (by simpa using h2)) hA hwt2
  have hc := calls ho
  rw [Array.toArray_toList] at hc
  refine hc.mono fun e W' ⟨he, bel⟩ => ?_
  subst he
  have hB := Below.trodAll laidOut bel rowed hA
  obtain ⟨v0, vs0, d0, ds0, p0, q0, e0, rfl, rfl, x0, r0⟩ := trodAll_cons hA
  obtain ⟨v1, vs1, d1, ds1, p1, q1, rfl, rfl, rfl, x1, r1⟩ := trodAll_cons r0
  obtain ⟨rfl, rfl, rfl⟩ := trodAll_nil r1
  exact ⟨_, rfl, _, _, _, [], _, [], hW', trodAll_mk1 (shut_bool Try.underlying4 _), hB, rfl, bel.frame _, fun h => by cases h⟩
theorem over : Rows.purseGivesRow.holds Try.pinned (OpenSpec.ofChange Rows.purseGivesSpec) :=
  OpenClaim.holds_of_wide 6 Try.f6 rfl rfl rfl rfl rfl rfl rfl ⟨rfl, rfl, rfl, rfl, rfl⟩ rfl rfl rfl rfl rfl (by kernel_rfl) Try.func6 (by kernel_rfl)
    (of_decide_eq_true (by kernel_rfl)) (by unfold Func.isWrapper; first | (rw [if_pos (by decide +kernel)]; kernel_rfl) | (rw [if_neg (by decide +kernel)]; exact ⟨rfl, rfl⟩))
    (fun os started H enc _ => lifted os started H enc)
/-- the statement -/
theorem proved : Rows.PurseGivesSaid := over
end Go.Proofs.Ytgeelfdgnehdnaa.PurseGivesDone

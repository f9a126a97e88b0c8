/-
  Proved: the statement TaleNames holds for every input (it has none), its listed variable tied to the program's text: the call returns true. No condition.
-/
import Derived.Test.YthicobhmmikngaaGreatDoorZTaleNamesG
import Derived.Test.YthicobhmmikngaaGreatDoorRows
import Derived.Test.YthicobhmmikngaaGreatDoorTie
import Derived.Test.YthicobhmmikngaaGreatDoorCards
import Derived.ProofKit
import Derived.LaidMore
import Derived.Lay
import Derived.OpenShut
import Derived.Stop.Joined
import Derived.SevenTiedAt
namespace Go.Proofs.YthicobhmmikngaaGreatDoor.TaleNamesDone
open Go.ChangeShapes Go.WideShapes Go.ChangeAt Go.RowKit Go.Proofs.YthicobhmmikngaaGreatDoor
set_option linter.unusedVariables false
theorem own : ownKnob Tryz.prog.godebug = none := by kernel_rfl
theorem pars : Tryz.f3.params = #[] := by kernel_rfl
theorem gK : Tryz.prog.globalNamed "beadroll/sha.k" = some 0 := by kernel_rfl
/-- the door's own heap meets the condition -/
theorem door_met (os : Os) (args : Array Value) : laidMetH Tryz.prog Rows.taleNamesRow.laid ((World.laidAll Tryz.prog os Rows.taleNamesRow.laid).forCall (fun _ _ => 0) ⟨#[], args, []⟩).memory := by
  rw [MakeChecks.laidMetH_plain _ _ _ (by kernel_rfl)]
  exact laidMet_laidAll _ (by kernel_rfl) (by kernel_rfl)
/-- what the condition gives -/
theorem of_laid {W : World} (h : laidMetH Tryz.prog Rows.taleNamesRow.laid W) : ∃ cs ty fz, W.heap[0]? = some (.cells cs ty fz) ∧ cs.toList = cellsV (rho0 64) shaK := by
  rw [MakeChecks.laidMetH_plain _ _ _ (by kernel_rfl)] at h
  obtain ⟨ps, h, _, _⟩ := h
  obtain ⟨_, _, _, _, _, _, _, _, _, _, h, _⟩ := h
  obtain ⟨_, _, _, _, _, _, _, _, _, _, h, _⟩ := h
  obtain ⟨_, _, _, _, _, _, _, _, _, _, h, _⟩ := h
  obtain ⟨_, _, _, _, _, _, _, _, _, _, h, _⟩ := h
  obtain ⟨_, _, _, _, _, _, _, _, _, _, h, _⟩ := h
  obtain ⟨_, _, _, _, _, _, _, _, _, _, h, _⟩ := h
  obtain ⟨g0, t0, cs0, f0, p0, q0, hg0, ht0, hv0, hd0, _⟩ := h
  obtain rfl := Option.some.inj (gK.symm.trans hg0)
  have tK : (Tryz.prog.globals[0]?).map (·.type) = some 284 := by kernel_rfl
  obtain rfl := Option.some.inj (tK.symm.trans ht0)
  have ht : Tryz.prog.underlying 284 = some (.array 64 201) := by kernel_rfl
  have he : Tryz.prog.underlying 201 = some (.int .u32) := by kernel_rfl
  have hc : Tryz.prog.cellsOf 201 = 1 := by kernel_rfl
  have hct : Tryz.prog.cellsOf 284 = 64 := by kernel_rfl
  have e := trod_tab (ns := kInts) ht he hc hct (by rfl) hd0
  simp only [World.var?, gK, Option.bind_some] at hv0
  split at hv0
  · rename_i cs' ty fz hh
    cases hv0
    refine ⟨_, ty, fz, hh, ?_⟩
    rw [e]
    kernel_rfl
  · cases hv0
theorem calls {W : World} (h : laidMetH Tryz.prog Rows.taleNamesRow.laid W) : Calls Tryz.prog 3 #[] W fun e w' => e = .returned (.bool true) ∧ Below W.heap.size W w' := by
  obtain ⟨cs, ty, fz, h1, h2⟩ := of_laid h
  have hg : ∀ i, start.get i = if i = 0 then some (Blk.ro shaK) else none := fun i => by
    show (Tr.nil.set 0 (some (Blk.ro shaK))).get i = _
    rw [Tr.get_set, Tr.get_nil]
  refine law0 (h := start) (K := 64) mixed cfg7OK fns7OK known7OK run (fun g hg => Nat.le_of_ble_eq_true (show Nat.ble (g + 1) 10 = true from hg)) fun U hU => rel_start (fun i hi => ?_) hU fun i b hb => ?_
  · rw [hg, if_neg]
    rintro rfl
    exact absurd (show (10 : Nat) ≤ 0 from hi) (by decide)
  · rw [hg] at hb
    split at hb
    · rename_i e
      cases hb
      subst e
      exact ⟨shaK, cs, ty, fz, rfl, by kernel_rfl, by decide +kernel, h1, h2⟩
    · cases hb
set_option maxRecDepth 100000 in
theorem lifted (os : Os) (started : os.Started) (H : Type) (enc : TypeId × Value → H) :
    ReturnsInHanded Rows.taleNamesRow.assume Tryz.checked os 3 .any (fun w args => (Rows.taleNamesSpec.pre enc Tryz.prog Tryz.f3 [] false w args ∧ laidMetH Tryz.prog Rows.taleNamesRow.laid w) ∧ sizedMet enc Tryz.prog Tryz.f3 (OpenSpec.ofChange Rows.taleNamesSpec) false w args)
      (Rows.taleNamesSpec.post enc Tryz.prog Tryz.f3 false true false false) := by
  refine returnsInHanded_of_change_and (C := Tryz.checked) (X := fun w _ => laidMetH Tryz.prog Rows.taleNamesRow.laid w) (fun _ _ _ hh h => h.of_heap hh) own started (by kernel_rfl) Tryz.func3
    (ChangeSpec.witness_shaped (enc := enc) (C := Tryz.checked) (os := os) (X := fun w _ => laidMetH Tryz.prog Rows.taleNamesRow.laid w) false (World.laidAll Tryz.prog os Rows.taleNamesRow.laid) #[] 8 (World.laidAll_os _ _ _) (World.shaped_of_ZipB (by kernel_rfl) (by kernel_rfl)) (by kernel_rfl) (by kernel_rfl) (by kernel_rfl) (door_met os _)) ?_
  intro W base args ds gs before hval0 hW _ _ hL _
  have hval : ∀ (j : Nat) t v, Tryz.f3.params[j]? = some t → args[j]? = some v → Value.okWide Tryz.prog W .any base t v := hval0
  have hW' := hW
  obtain ⟨p, q, hA0, hV, rfl, hfz, hnd⟩ := hW
  have hA : DataW.TrodAll enc Tryz.prog W 0 (fun _ => true) true Tryz.f3.params.toList args.toList ds p := hA0
  rw [pars] at hA hval
  obtain ⟨hargs, rfl, rfl⟩ := trodAll_nil hA
  obtain rfl : args = #[] := by cases args; simp_all
  obtain ⟨rfl, rfl⟩ := trodVars_none hV
  clear hA0 hval0
  refine (calls hL).mono fun e W' ⟨he, bel⟩ => ?_
  subst he
  exact ⟨_, rfl, _, _, _, [], _, [], hW', trodAll_mk1 (shut_bool Tryz.underlying4 _), (trodAll_mk0), rfl, bel.frame _, fun h => by cases h⟩
theorem fIn : (Rows.taleNamesRow.inPlace == Tryz.prog.inPlace 3) = true := by kernel_rfl
theorem fUn : (Rows.taleNamesRow.unfollowed == Tryz.prog.unfollowed 3) = true := by kernel_rfl
theorem fRe : (Rows.taleNamesRow.recurses == Tryz.prog.recurses 3) = true := by kernel_rfl
theorem fNa : (Rows.taleNamesRow.named == Tryz.prog.varsNamed 3) = true := by kernel_rfl
theorem closed : joinedFacts Tryz.prog 3 Tryz.f3 Rows.taleNamesSpec Rows.taleNamesRow = true := by
  unfold joinedFacts
  rw [fIn, fUn, fRe, fNa]
  kernel_rfl
theorem over : Rows.TaleNamesSaid :=
  OpenClaim.holds_of_wide 3 Tryz.f3 rfl rfl rfl rfl rfl rfl rfl ⟨rfl, rfl, rfl, rfl, rfl⟩ rfl rfl rfl rfl rfl (by kernel_rfl) Tryz.func3 closed
    (of_decide_eq_true (by kernel_rfl)) (by unfold Func.isWrapper; first | (rw [if_pos (by decide +kernel)]; kernel_rfl) | (rw [if_neg (by decide +kernel)]; exact ⟨rfl, rfl⟩))
    (fun os started H enc _ => lifted os started H enc)
theorem pW : Rows.taleNamesRow.wfByText (OpenSpec.ofChange Rows.taleNamesSpec) = true := by kernel_rfl
theorem pM : Tryz.pinned.checked.prog.mainIs = some (true, String.toList "9277fbebf3b75dc268dc7a59edd20c91f815a3793233483233e6d8f38257848b") := by kernel_rfl
theorem pN : Tryz.prog.funcNamed "beadroll/beadrolllaw32.TaleNames" = some 3 := by kernel_rfl
theorem pL : true = Tryz.pinned.checked.prog.looks [] := by kernel_rfl
theorem pG : false = Rows.taleNamesRow.goesBy Tryz.pinned.checked.prog := by kernel_rfl
/-- the statement -/
theorem proved : Rows.TaleNamesCardSaid :=
  Claim7.holds_tied_plain_at .later [] [.data, .data, .data, .data, .sentinel, .sentinel, .data, .pinned] true (true, "9277fbebf3b75dc268dc7a59edd20c91f815a3793233483233e6d8f38257848b") true
    over (fun _ h => by cases h) pW (fun _ h => by cases h) taleNames_row_tie rfl ⟨rfl, rfl⟩ pM rfl
    (fun f fn hf hfn => by
      obtain rfl : f = 3 := Option.some.inj (pN.symm.trans hf) |>.symm
      obtain rfl : fn = Tryz.f3 := (Option.some.inj (Tryz.func3.symm.trans hfn)).symm
      exact ⟨pL, fun j t ht => by
        rw [pars] at ht
        simp at ht⟩)
    pG
end Go.Proofs.YthicobhmmikngaaGreatDoor.TaleNamesDone

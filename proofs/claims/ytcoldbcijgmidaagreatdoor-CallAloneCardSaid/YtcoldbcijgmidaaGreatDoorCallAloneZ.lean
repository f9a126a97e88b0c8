/-
  Proved: the statement CallAlone holds for every input, its listed variable tied to the program's text: the call returns true, and each argument reads as it did. No condition.
-/
import Derived.Test.YtcoldbcijgmidaaGreatDoorYCallAloneI
import Derived.Test.YtcoldbcijgmidaaGreatDoorRows
import Derived.Test.YtcoldbcijgmidaaGreatDoorTie
import Derived.Test.YtcoldbcijgmidaaGreatDoorCards
import Derived.ProofKit
import Derived.LaidMore
import Derived.OpenShut
import Derived.ShutString
import Derived.ChangeOld
import Derived.Stop.Joined
import Derived.SevenTiedAt
namespace Go.Proofs.YtcoldbcijgmidaaGreatDoor.CallAloneDone
open Go.ChangeShapes Go.WideShapes Go.ChangeAt Go.RowKit Go.Proofs.YtcoldbcijgmidaaGreatDoor
set_option linter.unusedVariables false
set_option linter.unusedSimpArgs false
noncomputable def kInts : List Int := [1116352408, 1899447441, 3049323471, 3921009573, 961987163, 1508970993, 2453635748, 2870763221, 3624381080, 310598401, 607225278, 1426881987, 1925078388, 2162078206, 2614888103, 3248222580, 3835390401, 4022224774, 264347078, 604807628, 770255983, 1249150122, 1555081692, 1996064986, 2554220882, 2821834349, 2952996808, 3210313671, 3336571891, 3584528711, 113926993, 338241895, 666307205, 773529912, 1294757372, 1396182291, 1695183700, 1986661051, 2177026350, 2456956037, 2730485921, 2820302411, 3259730800, 3345764771, 3516065817, 3600352804, 4094571909, 275423344, 430227734, 506948616, 659060556, 883997877, 958139571, 1322822218, 1537002063, 1747873779, 1955562222, 2024104815, 2227730452, 2361852424, 2428436474, 2756734187, 3204031479, 3329325298]
noncomputable def shaK : V := .arr 64 1 (kW.map u32V)
noncomputable def start : Heap := ⟨3, 3, (Tr.nil.set 1 (some (.ro shaK))).set 0 (some (.ro gapV))⟩
theorem own : ownKnob Tryz.prog.godebug = none := by kernel_rfl
theorem laidOut : laidOutB Tryz.prog = true := by kernel_rfl
theorem pars : Tryz.f3.params = #[25, 26, 27] := by kernel_rfl
theorem shapes : shAll Tryz.prog 14 [25, 26, 27] = some [.st 38 [.int .i64, .int .i64, .int .i64, .int .i64, .int .i64, .int .i64, .arr 32 1 (.int .u8)], .sl 33 56 (.st 33 [.arr 32 1 (.int .u8), .sl 1 1 (.int .u8)]), .sl 1 24 (.sl 1 1 (.int .u8))] := by kernel_rfl
theorem rowed : rowedAll Tryz.prog [25, 26, 27] = true := by kernel_rfl
theorem law : ∀ ws, FitL [.st 38 [.int .i64, .int .i64, .int .i64, .int .i64, .int .i64, .int .i64, .arr 32 1 (.int .u8)], .sl 33 56 (.st 33 [.arr 32 1 (.int .u8), .sl 1 1 (.int .u8)]), .sl 1 24 (.sl 1 1 (.int .u8))] ws → PS cfgA glT 3 ws (.bool true) := by
  rintro ws ⟨w1, _, rfl, h1, w2, _, rfl, h2, w3, _, rfl, h3, rfl⟩
  obtain ⟨r, rfl⟩ := fit_ru2 h1
  obtain ⟨l, rfl, hl, _⟩ := fit_sl h2 fun x hx => fit_pr hx
  obtain ⟨cs, rfl, hc⟩ := fit_fs h3
  exact alone27_s r l cs (by omega) hc
theorem gK : Tryz.prog.globalNamed "beadroll/sha.k" = some 1 := by kernel_rfl
theorem gG : Tryz.prog.globalNamed "beadroll/tap.gap" = some 0 := by kernel_rfl
/-- the door's own heap meets the condition -/
theorem door_met (os : Os) (args : Array Value) : laidMetH Tryz.prog Rows.callAloneRow.laid ((World.doorLaid Tryz.prog 400 os).forCall (fun _ _ => 0) ⟨#[], args, []⟩).memory :=
  laidMetH_of_parts3 (fuel := 8) (laidMet_of_run' 8 (by kernel_rfl) (by kernel_rfl)) (by kernel_rfl) (by kernel_rfl)
/-- what the condition gives -/
theorem of_laid {W : World} (h : laidMetH Tryz.prog Rows.callAloneRow.laid W) : (∃ cs ty fz, W.heap[1]? = some (.cells cs ty fz) ∧ cs.toList = cellsV (rho0 101) shaK) ∧ ∃ cs ty fz, W.heap[0]? = some (.cells cs ty fz) ∧ cs.toList = cellsV (rho0 101) gapV := by
  rw [MakeChecks.laidMetH_plain _ _ _ (by kernel_rfl)] at h
  obtain ⟨ps, ⟨g0, t0, cs0, f0, p0, q0, hg0, ht0, hv0, hd0, ⟨g1, t1, cs1, f1, p1, q1, hg1, ht1, hv1, hd1, _, _⟩, _⟩, _, _⟩ := h
  obtain rfl := Option.some.inj (gK.symm.trans hg0)
  obtain rfl := Option.some.inj (gG.symm.trans hg1)
  have tK : (Tryz.prog.globals[1]?).map (·.type) = some 453 := by kernel_rfl
  obtain rfl := Option.some.inj (tK.symm.trans ht0)
  have tG : (Tryz.prog.globals[0]?).map (·.type) = some 79 := by kernel_rfl
  obtain rfl := Option.some.inj (tG.symm.trans ht1)
  have ht : Tryz.prog.underlying 453 = some (.array 64 403) := by kernel_rfl
  have he : Tryz.prog.underlying 403 = some (.int .u32) := by kernel_rfl
  have hc : Tryz.prog.cellsOf 403 = 1 := by kernel_rfl
  have hct : Tryz.prog.cellsOf 453 = 64 := by kernel_rfl
  have e := trod_tab (ns := kInts) ht he hc hct (by rfl) hd0
  have eg := trod_gap hd1
  refine ⟨?_, ?_⟩
  · simp only [World.var?, gK, Option.bind_some] at hv0
    split at hv0
    · rename_i cs' ty fz hh
      cases hv0
      refine ⟨_, ty, fz, hh, ?_⟩
      rw [e]
      kernel_rfl
    · cases hv0
  · simp only [World.var?, gG, Option.bind_some] at hv1
    split at hv1
    · rename_i cs' ty fz hh
      cases hv1
      exact ⟨_, ty, fz, hh, eg.trans gap_cells.symm⟩
    · cases hv1
theorem start_get (i : Nat) : start.get i = if i = 0 then some (Blk.ro gapV) else if i = 1 then some (Blk.ro shaK) else none := by
  show ((Tr.nil.set 1 (some (Blk.ro shaK))).set 0 (some (Blk.ro gapV))).get i = _
  rw [Tr.get_set, Tr.get_set, Tr.get_nil]
theorem begun {W : World} (h : laidMetH Tryz.prog Rows.callAloneRow.laid W) : Start W start (rho0 101) := by
  obtain ⟨⟨cs, ty, fz, h1, h2⟩, cs', ty', fz', h3, h4⟩ := of_laid h
  refine ⟨fun i hi => ?_, fun i b hb => ?_⟩
  · have hi : 3 ≤ i := hi
    rw [start_get, if_neg (by omega), if_neg (by omega)]
  · rw [start_get] at hb
    split at hb
    · rename_i e
      cases hb
      subst e
      refine ⟨gapV, _, rfl, h3, ⟨[], [], ty', fz', ?_, rfl, by decide +kernel⟩, bare_in (by kernel_rfl)⟩
      congr 1
      apply Array.toList_inj.1
      simp [h4]
    · split at hb
      · rename_i e
        cases hb
        subst e
        refine ⟨shaK, _, rfl, h1, ⟨[], [], ty, fz, ?_, rfl, by decide +kernel⟩, bare_in (by kernel_rfl)⟩
        congr 1
        apply Array.toList_inj.1
        simp [h2]
      · cases hb
theorem gl : GlobOK cfgA (DD (fun i => i < start.next) (rho0 101)) (rho0 101) := fun g hg => ⟨⟨Nat.le_of_ble_eq_true (show Nat.ble (g + 1) 3 = true from hg), Nat.zero_le _⟩, rfl, rfl⟩
theorem gr : GRel cfgA glT (ctx0 start) := gap_rel (Nat.le_refl _) (by kernel_rfl) (by unfold Heap.val; rw [start_get, if_pos rfl])
theorem calls {W : World} (h : laidMetH Tryz.prog Rows.callAloneRow.laid W) {args : List Value} (hv : ∃ ws, FitL [.st 38 [.int .i64, .int .i64, .int .i64, .int .i64, .int .i64, .int .i64, .arr 32 1 (.int .u8)], .sl 33 56 (.st 33 [.arr 32 1 (.int .u8), .sl 1 1 (.int .u8)]), .sl 1 24 (.sl 1 1 (.int .u8))] ws ∧ HVL W ws args) : Calls Tryz.prog 3 args.toArray W fun e w' => e = .returned (.bool true) ∧ Below W.heap.size W w' :=
  calls_of mixed cfgAOK fnsAOK knownAsk law (begun h) gl gr hv
set_option maxRecDepth 100000 in
theorem lifted (os : Os) (started : os.Started) (H : Type) (enc : TypeId × Value → H) :
    ReturnsInHanded Rows.callAloneRow.assume Tryz.checked os 3 .any (fun w args => (Rows.callAloneSpec.pre enc Tryz.prog Tryz.f3 [] false w args ∧ laidMetH Tryz.prog Rows.callAloneRow.laid w) ∧ sizedMet enc Tryz.prog Tryz.f3 (OpenSpec.ofChange Rows.callAloneSpec) false w args)
      (Rows.callAloneSpec.post enc Tryz.prog Tryz.f3 false true false false) := by
  refine returnsInHanded_of_change_and (C := Tryz.checked) (X := fun w _ => laidMetH Tryz.prog Rows.callAloneRow.laid w) (fun _ _ _ hh h => h.of_heap hh) own started (by kernel_rfl) Tryz.func3
    (ChangeSpec.witness_shaped (enc := enc) (C := Tryz.checked) (os := os) (X := fun w _ => laidMetH Tryz.prog Rows.callAloneRow.laid w) false (World.doorLaid Tryz.prog 400 os) #[zVal (.st 38 [.int .i64, .int .i64, .int .i64, .int .i64, .int .i64, .int .i64, .arr 32 1 (.int .u8)]), zVal (.sl 33 56 (.st 33 [.arr 32 1 (.int .u8), .sl 1 1 (.int .u8)])), zVal (.sl 1 24 (.sl 1 1 (.int .u8)))] 8 rfl (World.shaped_of_RefB (by kernel_rfl) (by kernel_rfl)) (by kernel_rfl) (by kernel_rfl) (by kernel_rfl) (door_met os _)) ?_
  intro W base args ds gs before hval0 hW hcnd hwt hL _
  have hval : ∀ (j : Nat) t v, Tryz.f3.params[j]? = some t → args[j]? = some v → Value.okWide Tryz.prog W .any base t v := hval0
  have hW' := hW
  obtain ⟨p, q, hA0, hV, rfl, hfz, hnd⟩ := hW
  have hA : DataW.TrodAll enc Tryz.prog W 0 (fun _ => true) true Tryz.f3.params.toList args.toList ds p := hA0
  obtain ⟨rfl, rfl⟩ := trodVars_none hV
  have hwt2 : ∀ n ∈ DataW.weightsEach Tryz.prog [25, 26, 27] ds, n ≤ reachBytes := fun n hn => by
    have h1 : (DataW.weightsEach Tryz.prog (Tryz.f3.params.toList ++ []) (ds ++ [])).all (· ≤ reachBytes) = true := hwt
    rw [pars, List.append_nil, List.append_nil] at h1
    have := List.all_eq_true.1 h1 n hn
    simpa using this
  rw [pars] at hA hval
  have ho := open_all (enc := enc) (P := Tryz.prog) shapes (fun j t v h1 h2 => hval j t v (by simpa using h1) (by simpa using h2)) hA hwt2
  have hc := calls hL ho
  rw [Array.toArray_toList] at hc
  refine hc.mono fun e W' ⟨he, bel⟩ => ?_
  subst he
  have hB := Below.trodAll laidOut bel rowed hA
  obtain ⟨v0, vs0, d0, ds0, p0, q0, e0, rfl, rfl, x0, r0⟩ := trodAll_cons hA
  obtain ⟨v1, vs1, d1, ds1, p1, q1, rfl, rfl, rfl, x1, r1⟩ := trodAll_cons r0
  obtain ⟨v2, vs2, d2, ds2, p2, q2, rfl, rfl, rfl, x2, r2⟩ := trodAll_cons r1
  obtain ⟨rfl, rfl, rfl⟩ := trodAll_nil r2
  exact ⟨_, rfl, _, _, _, [], _, [], hW', trodAll_mk1 (shut_bool Tryz.underlying4 _), hB, rfl, bel.frame _, fun h => by cases h⟩
theorem fIn : (Rows.callAloneRow.inPlace == Tryz.prog.inPlace 3) = true := by kernel_rfl
theorem fUn : (Rows.callAloneRow.unfollowed == Tryz.prog.unfollowed 3) = true := by kernel_rfl
theorem fRe : (Rows.callAloneRow.recurses == Tryz.prog.recurses 3) = true := by kernel_rfl
theorem fNa : (Rows.callAloneRow.named == Tryz.prog.varsNamed 3) = true := by kernel_rfl
theorem closed : joinedFacts Tryz.prog 3 Tryz.f3 Rows.callAloneSpec Rows.callAloneRow = true := by
  unfold joinedFacts
  rw [fIn, fUn, fRe, fNa]
  kernel_rfl
theorem over : Rows.CallAloneSaid :=
  OpenClaim.holds_of_wide 3 Tryz.f3 rfl rfl rfl rfl rfl rfl rfl ⟨rfl, rfl, rfl, rfl, rfl⟩ rfl rfl rfl rfl rfl (by kernel_rfl) Tryz.func3 closed
    (of_decide_eq_true (by kernel_rfl)) (by unfold Func.isWrapper; first | (rw [if_pos (by decide +kernel)]; kernel_rfl) | (rw [if_neg (by decide +kernel)]; exact ⟨rfl, rfl⟩))
    (fun os started H enc _ => lifted os started H enc)
theorem pW : Rows.callAloneRow.wfByText (OpenSpec.ofChange Rows.callAloneSpec) = true := by kernel_rfl
theorem pM : Tryz.pinned.checked.prog.mainIs = some (true, String.toList "f67663d06f3781dacf3b331d4a6faaebbdaa3bc82f9de05e65092aa361f563d2") := by kernel_rfl
theorem pN : Tryz.prog.funcNamed "beadroll/beadrolllaw27.CallAlone" = some 3 := by kernel_rfl
theorem pL : true = Tryz.pinned.checked.prog.looks [] := by kernel_rfl
theorem pG : false = Rows.callAloneRow.goesBy Tryz.pinned.checked.prog := by kernel_rfl
theorem wS : ([25, 26, 27] : List TypeId).all (fun t => !Tryz.pinned.checked.prog.wantsStandIn t) = true := by kernel_rfl
/-- the statement -/
theorem proved : Rows.CallAloneCardSaid :=
  Claim7.holds_tied_plain_at .later [] [.data, .data] true (true, "f67663d06f3781dacf3b331d4a6faaebbdaa3bc82f9de05e65092aa361f563d2") true
    over (fun _ h => by cases h) pW (fun _ h => by cases h) callAlone_row_tie rfl ⟨rfl, rfl⟩ pM rfl
    (fun f fn hf hfn => by
      obtain rfl : f = 3 := Option.some.inj (pN.symm.trans hf) |>.symm
      obtain rfl : fn = Tryz.f3 := (Option.some.inj (Tryz.func3.symm.trans hfn)).symm
      exact ⟨pL, fun j t ht => by
        rw [pars] at ht
        have hm := List.mem_of_getElem? (show ([25, 26, 27] : List TypeId)[j]? = some t by simpa using ht)
        simpa using List.all_eq_true.1 wS t hm⟩)
    pG
end Go.Proofs.YtcoldbcijgmidaaGreatDoor.CallAloneDone

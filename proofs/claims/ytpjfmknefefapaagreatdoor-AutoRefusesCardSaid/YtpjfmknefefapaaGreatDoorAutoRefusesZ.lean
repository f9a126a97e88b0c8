/-
  Proved: the statement AutoRefuses holds for every input, its listed variable tied to the program's text: the call returns true, and each argument reads as it did. No condition.
-/
import Derived.Test.YtpjfmknefefapaaGreatDoorZAutoRefusesI
import Derived.Test.YtpjfmknefefapaaGreatDoorRows
import Derived.Test.YtpjfmknefefapaaGreatDoorTie
import Derived.Test.YtpjfmknefefapaaGreatDoorCards
import Derived.ProofKit
import Derived.LaidMore
import Derived.OpenShut
import Derived.ShutString
import Derived.ChangeOld
import Derived.Stop.Joined
import Derived.SevenTiedAt
namespace Go.Proofs.YtpjfmknefefapaaGreatDoor.AutoRefusesDone
open Go.ChangeShapes Go.WideShapes Go.ChangeAt Go.RowKit Go.Proofs.YtpjfmknefefapaaGreatDoor
set_option linter.unusedVariables false
set_option linter.unusedSimpArgs false
noncomputable def kInts : List Int := [1116352408, 1899447441, 3049323471, 3921009573, 961987163, 1508970993, 2453635748, 2870763221, 3624381080, 310598401, 607225278, 1426881987, 1925078388, 2162078206, 2614888103, 3248222580, 3835390401, 4022224774, 264347078, 604807628, 770255983, 1249150122, 1555081692, 1996064986, 2554220882, 2821834349, 2952996808, 3210313671, 3336571891, 3584528711, 113926993, 338241895, 666307205, 773529912, 1294757372, 1396182291, 1695183700, 1986661051, 2177026350, 2456956037, 2730485921, 2820302411, 3259730800, 3345764771, 3516065817, 3600352804, 4094571909, 275423344, 430227734, 506948616, 659060556, 883997877, 958139571, 1322822218, 1537002063, 1747873779, 1955562222, 2024104815, 2227730452, 2361852424, 2428436474, 2756734187, 3204031479, 3329325298]
noncomputable def shaK : V := .arr 64 1 (kW.map u32V)
noncomputable def start : Heap := ⟨3, 3, (Tr.nil.set 1 (some (.ro shaK))).set 0 (some (.ro gapV))⟩
theorem own : ownKnob Tryz.prog.godebug = none := by kernel_rfl
theorem laidOut : laidOutB Tryz.prog = true := by kernel_rfl
theorem pars : Tryz.f4.params = #[43, 52] := by kernel_rfl
theorem shapes : shAll Tryz.prog 14 [43, 52] = some [.st 52 [.st 38 [.int .i64, .int .i64, .int .i64, .int .i64, .int .i64, .int .i64, .arr 32 1 (.int .u8)], .st 6 [.int .i64, .bool, .int .i64, .st 3 [.st 2 [.sl 36 80 (.st 36 [.bool, .arr 32 1 (.int .u8), .sl 1 1 (.int .u8), .int .i64, .int .i64]), .int .i64], .sl 102 192 (.st 102 [.st 98 [.int .i64, .arr 32 1 (.int .u8), .arr 32 1 (.int .u8), .arr 32 1 (.int .u8), .int .i64], .int .i64, .st 2 [.sl 34 48 (.st 34 [.int .u64, .arr 32 1 (.int .u8), .int .u64]), .sl 99 120 (.st 99 [.arr 32 1 (.int .u8), .arr 32 1 (.int .u8), .int .u64, .int .u64, .int .u64, .arr 32 1 (.int .u8)])], .sl 34 48 (.st 34 [.int .u8, .arr 32 1 (.int .u8), .int .i64])])]], .sl 1 24 (.st 1 [.sl 33 56 (.st 33 [.arr 32 1 (.int .u8), .sl 99 120 (.st 99 [.arr 32 1 (.int .u8), .arr 32 1 (.int .u8), .int .u64, .int .u64, .int .u64, .arr 32 1 (.int .u8)])])]), .sl 99 120 (.st 99 [.arr 32 1 (.int .u8), .arr 32 1 (.int .u8), .int .u64, .int .u64, .int .u64, .arr 32 1 (.int .u8)]), .sl 99 120 (.st 99 [.arr 32 1 (.int .u8), .arr 32 1 (.int .u8), .int .u64, .int .u64, .int .u64, .arr 32 1 (.int .u8)]), .sl 34 48 (.st 34 [.int .u64, .arr 32 1 (.int .u8), .int .u64]), .int .u64, .sl 100 128 (.st 100 [.int .i64, .bool, .st 98 [.int .i64, .arr 32 1 (.int .u8), .arr 32 1 (.int .u8), .arr 32 1 (.int .u8), .int .i64]]), .st 2 [.int .i64, .sl 4 48 (.st 4 [.int .i64, .int .i64, .st 2 [.sl 101 136 (.st 101 [.bool, .st 100 [.int .i64, .bool, .st 98 [.int .i64, .arr 32 1 (.int .u8), .arr 32 1 (.int .u8), .arr 32 1 (.int .u8), .int .i64]]]), .bool]])]], .sl 1 1 (.int .u8)] := by kernel_rfl
theorem rowed : rowedAll Tryz.prog [43, 52] = true := by kernel_rfl
theorem law : ∀ ws, FitL [.st 52 [.st 38 [.int .i64, .int .i64, .int .i64, .int .i64, .int .i64, .int .i64, .arr 32 1 (.int .u8)], .st 6 [.int .i64, .bool, .int .i64, .st 3 [.st 2 [.sl 36 80 (.st 36 [.bool, .arr 32 1 (.int .u8), .sl 1 1 (.int .u8), .int .i64, .int .i64]), .int .i64], .sl 102 192 (.st 102 [.st 98 [.int .i64, .arr 32 1 (.int .u8), .arr 32 1 (.int .u8), .arr 32 1 (.int .u8), .int .i64], .int .i64, .st 2 [.sl 34 48 (.st 34 [.int .u64, .arr 32 1 (.int .u8), .int .u64]), .sl 99 120 (.st 99 [.arr 32 1 (.int .u8), .arr 32 1 (.int .u8), .int .u64, .int .u64, .int .u64, .arr 32 1 (.int .u8)])], .sl 34 48 (.st 34 [.int .u8, .arr 32 1 (.int .u8), .int .i64])])]], .sl 1 24 (.st 1 [.sl 33 56 (.st 33 [.arr 32 1 (.int .u8), .sl 99 120 (.st 99 [.arr 32 1 (.int .u8), .arr 32 1 (.int .u8), .int .u64, .int .u64, .int .u64, .arr 32 1 (.int .u8)])])]), .sl 99 120 (.st 99 [.arr 32 1 (.int .u8), .arr 32 1 (.int .u8), .int .u64, .int .u64, .int .u64, .arr 32 1 (.int .u8)]), .sl 99 120 (.st 99 [.arr 32 1 (.int .u8), .arr 32 1 (.int .u8), .int .u64, .int .u64, .int .u64, .arr 32 1 (.int .u8)]), .sl 34 48 (.st 34 [.int .u64, .arr 32 1 (.int .u8), .int .u64]), .int .u64, .sl 100 128 (.st 100 [.int .i64, .bool, .st 98 [.int .i64, .arr 32 1 (.int .u8), .arr 32 1 (.int .u8), .arr 32 1 (.int .u8), .int .i64]]), .st 2 [.int .i64, .sl 4 48 (.st 4 [.int .i64, .int .i64, .st 2 [.sl 101 136 (.st 101 [.bool, .st 100 [.int .i64, .bool, .st 98 [.int .i64, .arr 32 1 (.int .u8), .arr 32 1 (.int .u8), .arr 32 1 (.int .u8), .int .i64]]]), .bool]])]], .sl 1 1 (.int .u8)] ws → PS cfgA glT 4 ws (.bool true) := by
  rintro ws ⟨w1, _, rfl, h1, w2, _, rfl, h2, rfl⟩
  obtain ⟨a, rfl, hf⟩ := fit_auto h1
  obtain ⟨b, rfl, hb⟩ := fit_bW h2
  exact refuses25_s a hf b false
theorem gK : Tryz.prog.globalNamed "beadroll/sha.k" = some 1 := by kernel_rfl
theorem gG : Tryz.prog.globalNamed "beadroll/tap.gap" = some 0 := by kernel_rfl
/-- the door's own heap meets the condition -/
theorem door_met (os : Os) (args : Array Value) : laidMetH Tryz.prog Rows.autoRefusesRow.laid ((World.doorLaid Tryz.prog 400 os).forCall (fun _ _ => 0) ⟨#[], args, []⟩).memory :=
  laidMetH_of_parts3 (fuel := 8) (laidMet_of_run' 8 (by kernel_rfl) (by kernel_rfl)) (by kernel_rfl) (by kernel_rfl)
/-- what the condition gives -/
theorem of_laid {W : World} (h : laidMetH Tryz.prog Rows.autoRefusesRow.laid W) : (∃ cs ty fz, W.heap[1]? = some (.cells cs ty fz) ∧ cs.toList = cellsV (rho0 101) shaK) ∧ ∃ cs ty fz, W.heap[0]? = some (.cells cs ty fz) ∧ cs.toList = cellsV (rho0 101) gapV := by
  rw [MakeChecks.laidMetH_plain _ _ _ (by kernel_rfl)] at h
  obtain ⟨ps, ⟨g0, t0, cs0, f0, p0, q0, hg0, ht0, hv0, hd0, ⟨g1, t1, cs1, f1, p1, q1, hg1, ht1, hv1, hd1, _, _⟩, _⟩, _, _⟩ := h
  obtain rfl := Option.some.inj (gK.symm.trans hg0)
  obtain rfl := Option.some.inj (gG.symm.trans hg1)
  have tK : (Tryz.prog.globals[1]?).map (·.type) = some 396 := by kernel_rfl
  obtain rfl := Option.some.inj (tK.symm.trans ht0)
  have tG : (Tryz.prog.globals[0]?).map (·.type) = some 61 := by kernel_rfl
  obtain rfl := Option.some.inj (tG.symm.trans ht1)
  have ht : Tryz.prog.underlying 396 = some (.array 64 347) := by kernel_rfl
  have he : Tryz.prog.underlying 347 = some (.int .u32) := by kernel_rfl
  have hc : Tryz.prog.cellsOf 347 = 1 := by kernel_rfl
  have hct : Tryz.prog.cellsOf 396 = 64 := by kernel_rfl
  have e := trod_tab (ns := kInts) ht he hc hct (by rfl) hd0
  have eg := trod_gap hd1
  refine ⟨?_, ?_⟩
  · simp only [World.var?, gK, Option.bind_some] at hv0
    split at hv0
    · rename_i cs' ty fz hh
      cases hv0
      refine ⟨_, ty, fz, hh, ?_⟩
      rw [e]
      kernel_rfl
    · cases hv0
  · simp only [World.var?, gG, Option.bind_some] at hv1
    split at hv1
    · rename_i cs' ty fz hh
      cases hv1
      exact ⟨_, ty, fz, hh, eg.trans gap_cells.symm⟩
    · cases hv1
theorem start_get (i : Nat) : start.get i = if i = 0 then some (Blk.ro gapV) else if i = 1 then some (Blk.ro shaK) else none := by
  show ((Tr.nil.set 1 (some (Blk.ro shaK))).set 0 (some (Blk.ro gapV))).get i = _
  rw [Tr.get_set, Tr.get_set, Tr.get_nil]
theorem begun {W : World} (h : laidMetH Tryz.prog Rows.autoRefusesRow.laid W) : Start W start (rho0 101) := by
  obtain ⟨⟨cs, ty, fz, h1, h2⟩, cs', ty', fz', h3, h4⟩ := of_laid h
  refine ⟨fun i hi => ?_, fun i b hb => ?_⟩
  · have hi : 3 ≤ i := hi
    rw [start_get, if_neg (by omega), if_neg (by omega)]
  · rw [start_get] at hb
    split at hb
    · rename_i e
      cases hb
      subst e
      refine ⟨gapV, _, rfl, h3, ⟨[], [], ty', fz', ?_, rfl, by decide +kernel⟩, bare_in (by kernel_rfl)⟩
      congr 1
      apply Array.toList_inj.1
      simp [h4]
    · split at hb
      · rename_i e
        cases hb
        subst e
        refine ⟨shaK, _, rfl, h1, ⟨[], [], ty, fz, ?_, rfl, by decide +kernel⟩, bare_in (by kernel_rfl)⟩
        congr 1
        apply Array.toList_inj.1
        simp [h2]
      · cases hb
theorem gl : GlobOK cfgA (DD (fun i => i < start.next) (rho0 101)) (rho0 101) := fun g hg => ⟨⟨Nat.le_of_ble_eq_true (show Nat.ble (g + 1) 3 = true from hg), Nat.zero_le _⟩, rfl, rfl⟩
theorem gr : GRel cfgA glT (ctx0 start) := gap_rel (Nat.le_refl _) (by kernel_rfl) (by unfold Heap.val; rw [start_get, if_pos rfl])
theorem calls {W : World} (h : laidMetH Tryz.prog Rows.autoRefusesRow.laid W) {args : List Value} (hv : ∃ ws, FitL [.st 52 [.st 38 [.int .i64, .int .i64, .int .i64, .int .i64, .int .i64, .int .i64, .arr 32 1 (.int .u8)], .st 6 [.int .i64, .bool, .int .i64, .st 3 [.st 2 [.sl 36 80 (.st 36 [.bool, .arr 32 1 (.int .u8), .sl 1 1 (.int .u8), .int .i64, .int .i64]), .int .i64], .sl 102 192 (.st 102 [.st 98 [.int .i64, .arr 32 1 (.int .u8), .arr 32 1 (.int .u8), .arr 32 1 (.int .u8), .int .i64], .int .i64, .st 2 [.sl 34 48 (.st 34 [.int .u64, .arr 32 1 (.int .u8), .int .u64]), .sl 99 120 (.st 99 [.arr 32 1 (.int .u8), .arr 32 1 (.int .u8), .int .u64, .int .u64, .int .u64, .arr 32 1 (.int .u8)])], .sl 34 48 (.st 34 [.int .u8, .arr 32 1 (.int .u8), .int .i64])])]], .sl 1 24 (.st 1 [.sl 33 56 (.st 33 [.arr 32 1 (.int .u8), .sl 99 120 (.st 99 [.arr 32 1 (.int .u8), .arr 32 1 (.int .u8), .int .u64, .int .u64, .int .u64, .arr 32 1 (.int .u8)])])]), .sl 99 120 (.st 99 [.arr 32 1 (.int .u8), .arr 32 1 (.int .u8), .int .u64, .int .u64, .int .u64, .arr 32 1 (.int .u8)]), .sl 99 120 (.st 99 [.arr 32 1 (.int .u8), .arr 32 1 (.int .u8), .int .u64, .int .u64, .int .u64, .arr 32 1 (.int .u8)]), .sl 34 48 (.st 34 [.int .u64, .arr 32 1 (.int .u8), .int .u64]), .int .u64, .sl 100 128 (.st 100 [.int .i64, .bool, .st 98 [.int .i64, .arr 32 1 (.int .u8), .arr 32 1 (.int .u8), .arr 32 1 (.int .u8), .int .i64]]), .st 2 [.int .i64, .sl 4 48 (.st 4 [.int .i64, .int .i64, .st 2 [.sl 101 136 (.st 101 [.bool, .st 100 [.int .i64, .bool, .st 98 [.int .i64, .arr 32 1 (.int .u8), .arr 32 1 (.int .u8), .arr 32 1 (.int .u8), .int .i64]]]), .bool]])]], .sl 1 1 (.int .u8)] ws ∧ HVL W ws args) : Calls Tryz.prog 4 args.toArray W fun e w' => e = .returned (.bool true) ∧ Below W.heap.size W w' :=
  calls_of mixed cfgAOK fnsAOK knownAsk law (begun h) gl gr hv
set_option maxRecDepth 100000 in
theorem lifted (os : Os) (started : os.Started) (H : Type) (enc : TypeId × Value → H) :
    ReturnsInHanded Rows.autoRefusesRow.assume Tryz.checked os 4 .any (fun w args => (Rows.autoRefusesSpec.pre enc Tryz.prog Tryz.f4 [] false w args ∧ laidMetH Tryz.prog Rows.autoRefusesRow.laid w) ∧ sizedMet enc Tryz.prog Tryz.f4 (OpenSpec.ofChange Rows.autoRefusesSpec) false w args)
      (Rows.autoRefusesSpec.post enc Tryz.prog Tryz.f4 false true false false) := by
  refine returnsInHanded_of_change_and (C := Tryz.checked) (X := fun w _ => laidMetH Tryz.prog Rows.autoRefusesRow.laid w) (fun _ _ _ hh h => h.of_heap hh) own started (by kernel_rfl) Tryz.func4
    (ChangeSpec.witness_shaped (enc := enc) (C := Tryz.checked) (os := os) (X := fun w _ => laidMetH Tryz.prog Rows.autoRefusesRow.laid w) false (World.doorLaid Tryz.prog 400 os) #[zVal (.st 52 [.st 38 [.int .i64, .int .i64, .int .i64, .int .i64, .int .i64, .int .i64, .arr 32 1 (.int .u8)], .st 6 [.int .i64, .bool, .int .i64, .st 3 [.st 2 [.sl 36 80 (.st 36 [.bool, .arr 32 1 (.int .u8), .sl 1 1 (.int .u8), .int .i64, .int .i64]), .int .i64], .sl 102 192 (.st 102 [.st 98 [.int .i64, .arr 32 1 (.int .u8), .arr 32 1 (.int .u8), .arr 32 1 (.int .u8), .int .i64], .int .i64, .st 2 [.sl 34 48 (.st 34 [.int .u64, .arr 32 1 (.int .u8), .int .u64]), .sl 99 120 (.st 99 [.arr 32 1 (.int .u8), .arr 32 1 (.int .u8), .int .u64, .int .u64, .int .u64, .arr 32 1 (.int .u8)])], .sl 34 48 (.st 34 [.int .u8, .arr 32 1 (.int .u8), .int .i64])])]], .sl 1 24 (.st 1 [.sl 33 56 (.st 33 [.arr 32 1 (.int .u8), .sl 99 120 (.st 99 [.arr 32 1 (.int .u8), .arr 32 1 (.int .u8), .int .u64, .int .u64, .int .u64, .arr 32 1 (.int .u8)])])]), .sl 99 120 (.st 99 [.arr 32 1 (.int .u8), .arr 32 1 (.int .u8), .int .u64, .int .u64, .int .u64, .arr 32 1 (.int .u8)]), .sl 99 120 (.st 99 [.arr 32 1 (.int .u8), .arr 32 1 (.int .u8), .int .u64, .int .u64, .int .u64, .arr 32 1 (.int .u8)]), .sl 34 48 (.st 34 [.int .u64, .arr 32 1 (.int .u8), .int .u64]), .int .u64, .sl 100 128 (.st 100 [.int .i64, .bool, .st 98 [.int .i64, .arr 32 1 (.int .u8), .arr 32 1 (.int .u8), .arr 32 1 (.int .u8), .int .i64]]), .st 2 [.int .i64, .sl 4 48 (.st 4 [.int .i64, .int .i64, .st 2 [.sl 101 136 (.st 101 [.bool, .st 100 [.int .i64, .bool, .st 98 [.int .i64, .arr 32 1 (.int .u8), .arr 32 1 (.int .u8), .arr 32 1 (.int .u8), .int .i64]]]), .bool]])]]), zVal (.sl 1 1 (.int .u8))] 8 rfl (World.shaped_of_RefB (by kernel_rfl) (by kernel_rfl)) (by kernel_rfl) (by kernel_rfl) (by kernel_rfl) (door_met os _)) ?_
  intro W base args ds gs before hval0 hW hcnd hwt hL _
  have hval : ∀ (j : Nat) t v, Tryz.f4.params[j]? = some t → args[j]? = some v → Value.okWide Tryz.prog W .any base t v := hval0
  have hW' := hW
  obtain ⟨p, q, hA0, hV, rfl, hfz, hnd⟩ := hW
  have hA : DataW.TrodAll enc Tryz.prog W 0 (fun _ => true) true Tryz.f4.params.toList args.toList ds p := hA0
  obtain ⟨rfl, rfl⟩ := trodVars_none hV
  have hwt2 : ∀ n ∈ DataW.weightsEach Tryz.prog [43, 52] ds, n ≤ reachBytes := fun n hn => by
    have h1 : (DataW.weightsEach Tryz.prog (Tryz.f4.params.toList ++ []) (ds ++ [])).all (· ≤ reachBytes) = true := hwt
    rw [pars, List.append_nil, List.append_nil] at h1
    have := List.all_eq_true.1 h1 n hn
    simpa using this
  rw [pars] at hA hval
  have ho := open_all (enc := enc) (P := Tryz.prog) shapes (fun j t v h1 h2 => hval j t v (by simpa using h1) (by simpa using h2)) hA hwt2
  have hc := calls hL ho
  rw [Array.toArray_toList] at hc
  refine hc.mono fun e W' ⟨he, bel⟩ => ?_
  subst he
  have hB := Below.trodAll laidOut bel rowed hA
  obtain ⟨v0, vs0, d0, ds0, p0, q0, e0, rfl, rfl, x0, r0⟩ := trodAll_cons hA
  obtain ⟨v1, vs1, d1, ds1, p1, q1, rfl, rfl, rfl, x1, r1⟩ := trodAll_cons r0
  obtain ⟨rfl, rfl, rfl⟩ := trodAll_nil r1
  exact ⟨_, rfl, _, _, _, [], _, [], hW', trodAll_mk1 (shut_bool Tryz.underlying4 _), hB, rfl, bel.frame _, fun h => by cases h⟩
theorem fIn : (Rows.autoRefusesRow.inPlace == Tryz.prog.inPlace 4) = true := by kernel_rfl
theorem fUn : (Rows.autoRefusesRow.unfollowed == Tryz.prog.unfollowed 4) = true := by kernel_rfl
theorem fRe : (Rows.autoRefusesRow.recurses == Tryz.prog.recurses 4) = true := by kernel_rfl
theorem fNa : (Rows.autoRefusesRow.named == Tryz.prog.varsNamed 4) = true := by kernel_rfl
theorem closed : joinedFacts Tryz.prog 4 Tryz.f4 Rows.autoRefusesSpec Rows.autoRefusesRow = true := by
  unfold joinedFacts
  rw [fIn, fUn, fRe, fNa]
  kernel_rfl
theorem over : Rows.AutoRefusesSaid :=
  OpenClaim.holds_of_wide 4 Tryz.f4 rfl rfl rfl rfl rfl rfl rfl ⟨rfl, rfl, rfl, rfl, rfl⟩ rfl rfl rfl rfl rfl (by kernel_rfl) Tryz.func4 closed
    (of_decide_eq_true (by kernel_rfl)) (by unfold Func.isWrapper; first | (rw [if_pos (by decide +kernel)]; kernel_rfl) | (rw [if_neg (by decide +kernel)]; exact ⟨rfl, rfl⟩))
    (fun os started H enc _ => lifted os started H enc)
theorem pW : Rows.autoRefusesRow.wfByText (OpenSpec.ofChange Rows.autoRefusesSpec) = true := by kernel_rfl
theorem pM : Tryz.pinned.checked.prog.mainIs = some (true, String.toList "fdb09f0f5fb27950da363ec8a4698fe2a510f04fe8fdff96e591ab13e4884c5e") := by kernel_rfl
theorem pN : Tryz.prog.funcNamed "beadroll/beadrolllaw25.AutoRefuses" = some 4 := by kernel_rfl
theorem pL : true = Tryz.pinned.checked.prog.looks [] := by kernel_rfl
theorem pG : false = Rows.autoRefusesRow.goesBy Tryz.pinned.checked.prog := by kernel_rfl
theorem wS : ([43, 52] : List TypeId).all (fun t => !Tryz.pinned.checked.prog.wantsStandIn t) = true := by kernel_rfl
/-- the statement -/
theorem proved : Rows.AutoRefusesCardSaid :=
  Claim7.holds_tied_plain_at .later [] [.data, .data] true (true, "fdb09f0f5fb27950da363ec8a4698fe2a510f04fe8fdff96e591ab13e4884c5e") true
    over (fun _ h => by cases h) pW (fun _ h => by cases h) autoRefuses_row_tie rfl ⟨rfl, rfl⟩ pM rfl
    (fun f fn hf hfn => by
      obtain rfl : f = 4 := Option.some.inj (pN.symm.trans hf) |>.symm
      obtain rfl : fn = Tryz.f4 := (Option.some.inj (Tryz.func4.symm.trans hfn)).symm
      exact ⟨pL, fun j t ht => by
        rw [pars] at ht
        have hm := List.mem_of_getElem? (show ([43, 52] : List TypeId)[j]? = some t by simpa using ht)
        simpa using List.all_eq_true.1 wS t hm⟩)
    pG
end Go.Proofs.YtpjfmknefefapaaGreatDoor.AutoRefusesDone

/- Closed facts of this translation: what each type of one cell, each struct and array, and each function with a body is. Written by a program of the prover. -/
import Derived.Test.YtnlhkpdclnhneaaProg
import Derived.Test.YtnlhkpdclnhneaaStep
namespace Go.Proofs.Ytnlhkpdclnhneaa
theorem sz1 : (Try.prog.info? 1).map (·.size) = some 1 := by kernel_rfl
theorem one1 : oneT Try.prog 1 = true := by kernel_rfl
theorem sz2 : (Try.prog.info? 2).map (·.size) = some 1 := by kernel_rfl
theorem one2 : oneT Try.prog 2 = true := by kernel_rfl
theorem sz3 : (Try.prog.info? 3).map (·.size) = some 1 := by kernel_rfl
theorem one3 : oneT Try.prog 3 = true := by kernel_rfl
theorem sz4 : (Try.prog.info? 4).map (·.size) = some 1 := by kernel_rfl
theorem one4 : oneT Try.prog 4 = true := by kernel_rfl
theorem sz5 : (Try.prog.info? 5).map (·.size) = some 1 := by kernel_rfl
theorem one5 : oneT Try.prog 5 = true := by kernel_rfl
theorem sz6 : (Try.prog.info? 6).map (·.size) = some 1 := by kernel_rfl
theorem one6 : oneT Try.prog 6 = true := by kernel_rfl
theorem sz7 : (Try.prog.info? 7).map (·.size) = some 4 := by kernel_rfl
theorem agg7 : aggLen Try.prog 7 = some 4 := by kernel_rfl
theorem sz8 : (Try.prog.info? 8).map (·.size) = some 4 := by kernel_rfl
theorem agg8 : aggLen Try.prog 8 = some 4 := by kernel_rfl
theorem sz9 : (Try.prog.info? 9).map (·.size) = some 1 := by kernel_rfl
theorem one9 : oneT Try.prog 9 = true := by kernel_rfl
theorem sz10 : (Try.prog.info? 10).map (·.size) = some 1 := by kernel_rfl
theorem one10 : oneT Try.prog 10 = true := by kernel_rfl
theorem sz11 : (Try.prog.info? 11).map (·.size) = some 1 := by kernel_rfl
theorem one11 : oneT Try.prog 11 = true := by kernel_rfl
theorem sz12 : (Try.prog.info? 12).map (·.size) = some 1 := by kernel_rfl
theorem one12 : oneT Try.prog 12 = true := by kernel_rfl
theorem sz13 : (Try.prog.info? 13).map (·.size) = some 2 := by kernel_rfl
theorem agg13 : aggLen Try.prog 13 = some 2 := by kernel_rfl
theorem sz14 : (Try.prog.info? 14).map (·.size) = some 2 := by kernel_rfl
theorem agg14 : aggLen Try.prog 14 = some 2 := by kernel_rfl
theorem sz15 : (Try.prog.info? 15).map (·.size) = some 1 := by kernel_rfl
theorem one15 : oneT Try.prog 15 = true := by kernel_rfl
theorem sz16 : (Try.prog.info? 16).map (·.size) = some 1 := by kernel_rfl
theorem one16 : oneT Try.prog 16 = true := by kernel_rfl
theorem sz17 : (Try.prog.info? 17).map (·.size) = some 1 := by kernel_rfl
theorem one17 : oneT Try.prog 17 = true := by kernel_rfl
theorem sz18 : (Try.prog.info? 18).map (·.size) = some 1 := by kernel_rfl
theorem agg18 : aggLen Try.prog 18 = some 1 := by kernel_rfl
theorem sz19 : (Try.prog.info? 19).map (·.size) = some 1 := by kernel_rfl
theorem agg19 : aggLen Try.prog 19 = some 1 := by kernel_rfl
theorem sz20 : (Try.prog.info? 20).map (·.size) = some 1 := by kernel_rfl
theorem one20 : oneT Try.prog 20 = true := by kernel_rfl
theorem sz21 : (Try.prog.info? 21).map (·.size) = some 1 := by kernel_rfl
theorem one21 : oneT Try.prog 21 = true := by kernel_rfl
theorem sz22 : (Try.prog.info? 22).map (·.size) = some 32 := by kernel_rfl
theorem agg22 : aggLen Try.prog 22 = some 32 := by kernel_rfl
theorem sz23 : (Try.prog.info? 23).map (·.size) = some 32 := by kernel_rfl
theorem agg23 : aggLen Try.prog 23 = some 32 := by kernel_rfl
theorem sz24 : (Try.prog.info? 24).map (·.size) = some 1 := by kernel_rfl
theorem one24 : oneT Try.prog 24 = true := by kernel_rfl
theorem sz25 : (Try.prog.info? 25).map (·.size) = some 1 := by kernel_rfl
theorem one25 : oneT Try.prog 25 = true := by kernel_rfl
theorem sz26 : (Try.prog.info? 26).map (·.size) = some 1 := by kernel_rfl
theorem one26 : oneT Try.prog 26 = true := by kernel_rfl
theorem sz27 : (Try.prog.info? 27).map (·.size) = some 1 := by kernel_rfl
theorem one27 : oneT Try.prog 27 = true := by kernel_rfl
theorem sz28 : (Try.prog.info? 28).map (·.size) = some 1 := by kernel_rfl
theorem one28 : oneT Try.prog 28 = true := by kernel_rfl
theorem sz30 : (Try.prog.info? 30).map (·.size) = some 1 := by kernel_rfl
theorem one30 : oneT Try.prog 30 = true := by kernel_rfl
theorem sz32 : (Try.prog.info? 32).map (·.size) = some 1 := by kernel_rfl
theorem one32 : oneT Try.prog 32 = true := by kernel_rfl
theorem sz34 : (Try.prog.info? 34).map (·.size) = some 1 := by kernel_rfl
theorem one34 : oneT Try.prog 34 = true := by kernel_rfl
theorem sz36 : (Try.prog.info? 36).map (·.size) = some 1 := by kernel_rfl
theorem one36 : oneT Try.prog 36 = true := by kernel_rfl
theorem sz37 : (Try.prog.info? 37).map (·.size) = some 1 := by kernel_rfl
theorem one37 : oneT Try.prog 37 = true := by kernel_rfl
theorem sz38 : (Try.prog.info? 38).map (·.size) = some 1 := by kernel_rfl
theorem one38 : oneT Try.prog 38 = true := by kernel_rfl
theorem sz39 : (Try.prog.info? 39).map (·.size) = some 1 := by kernel_rfl
theorem one39 : oneT Try.prog 39 = true := by kernel_rfl
theorem sz40 : (Try.prog.info? 40).map (·.size) = some 1 := by kernel_rfl
theorem one40 : oneT Try.prog 40 = true := by kernel_rfl
theorem sz41 : (Try.prog.info? 41).map (·.size) = some 1 := by kernel_rfl
theorem one41 : oneT Try.prog 41 = true := by kernel_rfl
theorem sz42 : (Try.prog.info? 42).map (·.size) = some 1 := by kernel_rfl
theorem one42 : oneT Try.prog 42 = true := by kernel_rfl
theorem sz43 : (Try.prog.info? 43).map (·.size) = some 1 := by kernel_rfl
theorem one43 : oneT Try.prog 43 = true := by kernel_rfl
theorem sz44 : (Try.prog.info? 44).map (·.size) = some 1 := by kernel_rfl
theorem one44 : oneT Try.prog 44 = true := by kernel_rfl
theorem sz45 : (Try.prog.info? 45).map (·.size) = some 1 := by kernel_rfl
theorem one45 : oneT Try.prog 45 = true := by kernel_rfl
theorem sz46 : (Try.prog.info? 46).map (·.size) = some 1 := by kernel_rfl
theorem one46 : oneT Try.prog 46 = true := by kernel_rfl
theorem sz47 : (Try.prog.info? 47).map (·.size) = some 4 := by kernel_rfl
theorem agg47 : aggLen Try.prog 47 = some 4 := by kernel_rfl
theorem sz48 : (Try.prog.info? 48).map (·.size) = some 4 := by kernel_rfl
theorem agg48 : aggLen Try.prog 48 = some 4 := by kernel_rfl
theorem sz49 : (Try.prog.info? 49).map (·.size) = some 0 := by kernel_rfl
theorem agg49 : aggLen Try.prog 49 = some 0 := by kernel_rfl
theorem sz50 : (Try.prog.info? 50).map (·.size) = some 0 := by kernel_rfl
theorem agg50 : aggLen Try.prog 50 = some 0 := by kernel_rfl
theorem sz51 : (Try.prog.info? 51).map (·.size) = some 0 := by kernel_rfl
theorem agg51 : aggLen Try.prog 51 = some 0 := by kernel_rfl
theorem sz52 : (Try.prog.info? 52).map (·.size) = some 1 := by kernel_rfl
theorem one52 : oneT Try.prog 52 = true := by kernel_rfl
theorem sz53 : (Try.prog.info? 53).map (·.size) = some 1 := by kernel_rfl
theorem one53 : oneT Try.prog 53 = true := by kernel_rfl
theorem sz54 : (Try.prog.info? 54).map (·.size) = some 1 := by kernel_rfl
theorem one54 : oneT Try.prog 54 = true := by kernel_rfl
theorem sz55 : (Try.prog.info? 55).map (·.size) = some 1 := by kernel_rfl
theorem one55 : oneT Try.prog 55 = true := by kernel_rfl
theorem sz56 : (Try.prog.info? 56).map (·.size) = some 1 := by kernel_rfl
theorem one56 : oneT Try.prog 56 = true := by kernel_rfl
theorem sz57 : (Try.prog.info? 57).map (·.size) = some 1 := by kernel_rfl
theorem one57 : oneT Try.prog 57 = true := by kernel_rfl
theorem sz58 : (Try.prog.info? 58).map (·.size) = some 1 := by kernel_rfl
theorem one58 : oneT Try.prog 58 = true := by kernel_rfl
theorem sz59 : (Try.prog.info? 59).map (·.size) = some 1 := by kernel_rfl
theorem one59 : oneT Try.prog 59 = true := by kernel_rfl
theorem sz60 : (Try.prog.info? 60).map (·.size) = some 11 := by kernel_rfl
theorem agg60 : aggLen Try.prog 60 = some 11 := by kernel_rfl
theorem sz61 : (Try.prog.info? 61).map (·.size) = some 11 := by kernel_rfl
theorem agg61 : aggLen Try.prog 61 = some 11 := by kernel_rfl
theorem sz62 : (Try.prog.info? 62).map (·.size) = some 1 := by kernel_rfl
theorem one62 : oneT Try.prog 62 = true := by kernel_rfl
theorem zero1 : (Try.prog.info? 1).bind (·.zero) = some (.nilFunc) := by kernel_rfl
theorem zero2 : (Try.prog.info? 2).bind (·.zero) = some (.int .i64 0) := by kernel_rfl
theorem zero3 : (Try.prog.info? 3).bind (·.zero) = some (.int .i64 0) := by kernel_rfl
theorem zero4 : (Try.prog.info? 4).bind (·.zero) = some (.bool false) := by kernel_rfl
theorem zero5 : (Try.prog.info? 5).bind (·.zero) = some (.int .u8 0) := by kernel_rfl
theorem zero6 : (Try.prog.info? 6).bind (·.zero) = some (.int .u8 0) := by kernel_rfl
theorem eg7 : Try.prog.eqGuardType Try.prog.depth 7 = false := by kernel_rfl
theorem eg8 : Try.prog.eqGuardType Try.prog.depth 8 = false := by kernel_rfl
theorem zero9 : (Try.prog.info? 9).bind (·.zero) = some (.string ⟨#[]⟩) := by kernel_rfl
theorem zero10 : (Try.prog.info? 10).bind (·.zero) = some (.string ⟨#[]⟩) := by kernel_rfl
theorem zero11 : (Try.prog.info? 11).bind (·.zero) = some (.string ⟨#[]⟩) := by kernel_rfl
theorem zero12 : (Try.prog.info? 12).bind (·.zero) = some (.int .u64 0) := by kernel_rfl
theorem eg13 : Try.prog.eqGuardType Try.prog.depth 13 = false := by kernel_rfl
theorem eg14 : Try.prog.eqGuardType Try.prog.depth 14 = false := by kernel_rfl
theorem zero15 : (Try.prog.info? 15).bind (·.zero) = some (.pointer none) := by kernel_rfl
theorem zero16 : (Try.prog.info? 16).bind (·.zero) = some (.pointer none) := by kernel_rfl
theorem zero17 : (Try.prog.info? 17).bind (·.zero) = some (.pointer none) := by kernel_rfl
theorem eg18 : Try.prog.eqGuardType Try.prog.depth 18 = false := by kernel_rfl
theorem eg19 : Try.prog.eqGuardType Try.prog.depth 19 = false := by kernel_rfl
theorem zero20 : (Try.prog.info? 20).bind (·.zero) = some (.nilIface) := by kernel_rfl
theorem zero21 : (Try.prog.info? 21).bind (·.zero) = some (.int .i32 0) := by kernel_rfl
theorem eg22 : Try.prog.eqGuardType Try.prog.depth 22 = false := by kernel_rfl
theorem eg23 : Try.prog.eqGuardType Try.prog.depth 23 = false := by kernel_rfl
theorem zero24 : (Try.prog.info? 24).bind (·.zero) = some (.nilFunc) := by kernel_rfl
theorem zero25 : (Try.prog.info? 25).bind (·.zero) = some (.nilFunc) := by kernel_rfl
theorem zero26 : (Try.prog.info? 26).bind (·.zero) = some (.nilFunc) := by kernel_rfl
theorem zero27 : (Try.prog.info? 27).bind (·.zero) = some (.nilFunc) := by kernel_rfl
theorem zero28 : (Try.prog.info? 28).bind (·.zero) = some (.int .i64 0) := by kernel_rfl
theorem zero30 : (Try.prog.info? 30).bind (·.zero) = some (.nilFunc) := by kernel_rfl
theorem zero32 : (Try.prog.info? 32).bind (·.zero) = some (.nilFunc) := by kernel_rfl
theorem zero34 : (Try.prog.info? 34).bind (·.zero) = some (.nilFunc) := by kernel_rfl
theorem zero36 : (Try.prog.info? 36).bind (·.zero) = some (.nilFunc) := by kernel_rfl
theorem zero37 : (Try.prog.info? 37).bind (·.zero) = some (.nilFunc) := by kernel_rfl
theorem zero38 : (Try.prog.info? 38).bind (·.zero) = some (.nilFunc) := by kernel_rfl
theorem zero39 : (Try.prog.info? 39).bind (·.zero) = some (.nilFunc) := by kernel_rfl
theorem zero40 : (Try.prog.info? 40).bind (·.zero) = some (.nilFunc) := by kernel_rfl
theorem zero41 : (Try.prog.info? 41).bind (·.zero) = some (.nilFunc) := by kernel_rfl
theorem zero42 : (Try.prog.info? 42).bind (·.zero) = some (.nilFunc) := by kernel_rfl
theorem zero43 : (Try.prog.info? 43).bind (·.zero) = some (.nilFunc) := by kernel_rfl
theorem zero44 : (Try.prog.info? 44).bind (·.zero) = some (.nilFunc) := by kernel_rfl
theorem zero45 : (Try.prog.info? 45).bind (·.zero) = some (.nilFunc) := by kernel_rfl
theorem zero46 : (Try.prog.info? 46).bind (·.zero) = some (.nilFunc) := by kernel_rfl
theorem eg47 : Try.prog.eqGuardType Try.prog.depth 47 = false := by kernel_rfl
theorem eg48 : Try.prog.eqGuardType Try.prog.depth 48 = false := by kernel_rfl
theorem eg49 : Try.prog.eqGuardType Try.prog.depth 49 = false := by kernel_rfl
theorem eg50 : Try.prog.eqGuardType Try.prog.depth 50 = false := by kernel_rfl
theorem eg51 : Try.prog.eqGuardType Try.prog.depth 51 = false := by kernel_rfl
theorem zero52 : (Try.prog.info? 52).bind (·.zero) = some (.nilFunc) := by kernel_rfl
theorem zero53 : (Try.prog.info? 53).bind (·.zero) = some (.int .u32 0) := by kernel_rfl
theorem zero54 : (Try.prog.info? 54).bind (·.zero) = some (.int .u8 0) := by kernel_rfl
theorem zero55 : (Try.prog.info? 55).bind (·.zero) = some (.int .u8 0) := by kernel_rfl
theorem zero56 : (Try.prog.info? 56).bind (·.zero) = some (.nilFunc) := by kernel_rfl
theorem zero57 : (Try.prog.info? 57).bind (·.zero) = some (.pointer none) := by kernel_rfl
theorem zero58 : (Try.prog.info? 58).bind (·.zero) = some (.int .i32 0) := by kernel_rfl
theorem zero59 : (Try.prog.info? 59).bind (·.zero) = some (.int .i32 0) := by kernel_rfl
theorem eg60 : Try.prog.eqGuardType Try.prog.depth 60 = false := by kernel_rfl
theorem eg61 : Try.prog.eqGuardType Try.prog.depth 61 = false := by kernel_rfl
theorem en3 : ∀ args w, (callFunc 3 args).run Try.prog w = .ok (.enter 3 args) w := Go.Proofs.enters_of Try.func3 (by kernel_rfl) rfl
theorem en4 : ∀ args w, (callFunc 4 args).run Try.prog w = .ok (.enter 4 args) w := Go.Proofs.enters_of Try.func4 (by kernel_rfl) rfl
theorem en5 : ∀ args w, (callFunc 5 args).run Try.prog w = .ok (.enter 5 args) w := Go.Proofs.enters_of Try.func5 (by kernel_rfl) rfl
theorem en6 : ∀ args w, (callFunc 6 args).run Try.prog w = .ok (.enter 6 args) w := Go.Proofs.enters_of Try.func6 (by kernel_rfl) rfl
theorem en7 : ∀ args w, (callFunc 7 args).run Try.prog w = .ok (.enter 7 args) w := Go.Proofs.enters_of Try.func7 (by kernel_rfl) rfl
theorem en8 : ∀ args w, (callFunc 8 args).run Try.prog w = .ok (.enter 8 args) w := Go.Proofs.enters_of Try.func8 (by kernel_rfl) rfl
theorem en9 : ∀ args w, (callFunc 9 args).run Try.prog w = .ok (.enter 9 args) w := Go.Proofs.enters_of Try.func9 (by kernel_rfl) rfl
theorem en10 : ∀ args w, (callFunc 10 args).run Try.prog w = .ok (.enter 10 args) w := Go.Proofs.enters_of Try.func10 (by kernel_rfl) rfl
theorem en11 : ∀ args w, (callFunc 11 args).run Try.prog w = .ok (.enter 11 args) w := Go.Proofs.enters_of Try.func11 (by kernel_rfl) rfl
theorem en12 : ∀ args w, (callFunc 12 args).run Try.prog w = .ok (.enter 12 args) w := Go.Proofs.enters_of Try.func12 (by kernel_rfl) rfl
theorem en13 : ∀ args w, (callFunc 13 args).run Try.prog w = .ok (.enter 13 args) w := Go.Proofs.enters_of Try.func13 (by kernel_rfl) rfl
theorem en14 : ∀ args w, (callFunc 14 args).run Try.prog w = .ok (.enter 14 args) w := Go.Proofs.enters_of Try.func14 (by kernel_rfl) rfl
theorem en15 : ∀ args w, (callFunc 15 args).run Try.prog w = .ok (.enter 15 args) w := Go.Proofs.enters_of Try.func15 (by kernel_rfl) rfl
theorem en16 : ∀ args w, (callFunc 16 args).run Try.prog w = .ok (.enter 16 args) w := Go.Proofs.enters_of Try.func16 (by kernel_rfl) rfl
theorem en17 : ∀ args w, (callFunc 17 args).run Try.prog w = .ok (.enter 17 args) w := Go.Proofs.enters_of Try.func17 (by kernel_rfl) rfl
theorem en18 : ∀ args w, (callFunc 18 args).run Try.prog w = .ok (.enter 18 args) w := Go.Proofs.enters_of Try.func18 (by kernel_rfl) rfl
theorem en19 : ∀ args w, (callFunc 19 args).run Try.prog w = .ok (.enter 19 args) w := Go.Proofs.enters_of Try.func19 (by kernel_rfl) rfl
theorem en20 : ∀ args w, (callFunc 20 args).run Try.prog w = .ok (.enter 20 args) w := Go.Proofs.enters_of Try.func20 (by kernel_rfl) rfl
theorem en21 : ∀ args w, (callFunc 21 args).run Try.prog w = .ok (.enter 21 args) w := Go.Proofs.enters_of Try.func21 (by kernel_rfl) rfl
theorem mixed : Try.prog.follows .mixedOrders = true := by kernel_rfl
end Go.Proofs.Ytnlhkpdclnhneaa

/-
  What the proof of PurseGives stands on, part 5. No condition.
-/
import Derived.Test.YtgeelfdgnehdnaaZPurseGivesD
namespace Go.Proofs.Ytgeelfdgnehdnaa
open Go.RowKit
set_option linter.unusedSimpArgs false
set_option linter.unusedVariables false
set_option maxRecDepth 100000
theorem tok1 : TyOK Try.prog 1 ti1 := ⟨by kernel_rfl, by kernel_rfl, fun ρ => by kernel_rfl, yJq (by kernel_rfl), qNq (by kernel_rfl), fun h => (by cases h), by kernel_rfl, fun h => rfl, by kernel_rfl⟩
theorem tok2 : TyOK Try.prog 2 ti2 := ⟨by kernel_rfl, by kernel_rfl, fun ρ => by kernel_rfl, yJq (by kernel_rfl), (by show Try.prog.underlying 2 = _; kernel_rfl), fun h => (by cases h), by kernel_rfl, fun h => rfl, by kernel_rfl⟩
theorem tok3 : TyOK Try.prog 3 ti3 := ⟨by kernel_rfl, by kernel_rfl, fun ρ => by kernel_rfl, yJq (by kernel_rfl), (by show Try.prog.underlying 3 = _; kernel_rfl), fun h => (by cases h), by kernel_rfl, fun h => rfl, by kernel_rfl⟩
theorem tok4 : TyOK Try.prog 4 ti4 := ⟨by kernel_rfl, by kernel_rfl, fun ρ => by kernel_rfl, yJq (by kernel_rfl), (by show Try.prog.underlying 4 = _; kernel_rfl), fun h => (by cases h), by kernel_rfl, fun h => rfl, by kernel_rfl⟩
theorem tok5 : TyOK Try.prog 5 ti5 := ⟨by kernel_rfl, by kernel_rfl, fun ρ => by kernel_rfl, yJq (by kernel_rfl), (by show Try.prog.underlying 5 = _; kernel_rfl), fun h => (by cases h), by kernel_rfl, fun h => rfl, by kernel_rfl⟩
theorem tok6 : TyOK Try.prog 6 ti6 := ⟨by kernel_rfl, by kernel_rfl, fun ρ => by kernel_rfl, yJq (by kernel_rfl), (by show Try.prog.underlying 6 = _; kernel_rfl), fun h => (by cases h), by kernel_rfl, fun h => rfl, by kernel_rfl⟩
theorem tok7 : TyOK Try.prog 7 ti7 := ⟨by kernel_rfl, by kernel_rfl, fun ρ => by kernel_rfl, yJq (by kernel_rfl), ⟨by kernel_rfl, by kernel_rfl, by kernel_rfl, by kernel_rfl, by kernel_rfl⟩, fun h => by kernel_rfl, by kernel_rfl, fun h => (by cases h), by kernel_rfl⟩
theorem tok8 : TyOK Try.prog 8 ti8 := ⟨by kernel_rfl, by kernel_rfl, fun ρ => by kernel_rfl, yJq (by kernel_rfl), ⟨by kernel_rfl, by kernel_rfl, by kernel_rfl, by kernel_rfl, by kernel_rfl⟩, fun h => by kernel_rfl, by kernel_rfl, fun h => (by cases h), by kernel_rfl⟩
theorem tok9 : TyOK Try.prog 9 ti9 := ⟨by kernel_rfl, by kernel_rfl, fun ρ => by kernel_rfl, yJq (by kernel_rfl), (by show Try.prog.underlying 9 = _; kernel_rfl), fun h => (by cases h), by kernel_rfl, fun h => rfl, by kernel_rfl⟩
theorem tok22 : TyOK Try.prog 22 ti22 := ⟨by kernel_rfl, by kernel_rfl, fun ρ => by kernel_rfl, yJq (by kernel_rfl), (by show Try.prog.underlying 22 = _; kernel_rfl), fun h => (by cases h), by kernel_rfl, fun h => rfl, by kernel_rfl⟩
theorem tok24 : TyOK Try.prog 24 ti24 := ⟨by kernel_rfl, by kernel_rfl, fun ρ => by kernel_rfl, yJq (by kernel_rfl), ⟨by kernel_rfl, by kernel_rfl, by kernel_rfl, by kernel_rfl, by kernel_rfl⟩, fun h => by kernel_rfl, by kernel_rfl, fun h => (by cases h), by kernel_rfl⟩
theorem tok26 : TyOK Try.prog 26 ti26 := ⟨by kernel_rfl, by kernel_rfl, fun ρ => by kernel_rfl, yJq (by kernel_rfl), ⟨by kernel_rfl, by kernel_rfl⟩, fun h => by kernel_rfl, by kernel_rfl, fun h => (by cases h), by kernel_rfl⟩
theorem tok27 : TyOK Try.prog 27 ti27 := ⟨by kernel_rfl, by kernel_rfl, fun ρ => by kernel_rfl, yJq (by kernel_rfl), (by show Try.prog.underlying 27 = _; kernel_rfl), fun h => (by cases h), by kernel_rfl, fun h => rfl, by kernel_rfl⟩
theorem tok29 : TyOK Try.prog 29 ti29 := ⟨by kernel_rfl, by kernel_rfl, fun ρ => by kernel_rfl, yJq (by kernel_rfl), ⟨by kernel_rfl, by kernel_rfl, by kernel_rfl, by kernel_rfl, by kernel_rfl⟩, fun h => by kernel_rfl, by kernel_rfl, fun h => (by cases h), by kernel_rfl⟩
theorem tok32 : TyOK Try.prog 32 ti32 := ⟨by kernel_rfl, by kernel_rfl, fun ρ => by kernel_rfl, yJq (by kernel_rfl), (by show Try.prog.underlying 32 = _; kernel_rfl), fun h => (by cases h), by kernel_rfl, fun h => rfl, by kernel_rfl⟩
theorem tok38 : TyOK Try.prog 38 ti38 := ⟨by kernel_rfl, by kernel_rfl, fun ρ => by kernel_rfl, yJq (by kernel_rfl), (by show Try.prog.underlying 38 = _; kernel_rfl), fun h => (by cases h), by kernel_rfl, fun h => rfl, by kernel_rfl⟩
theorem tok45 : TyOK Try.prog 45 ti45 := ⟨by kernel_rfl, by kernel_rfl, fun ρ => by kernel_rfl, yJq (by kernel_rfl), (by show Try.prog.underlying 45 = _; kernel_rfl), fun h => (by cases h), by kernel_rfl, fun h => rfl, by kernel_rfl⟩
theorem tok58 : TyOK Try.prog 58 ti58 := ⟨by kernel_rfl, by kernel_rfl, fun ρ => by kernel_rfl, yJq (by kernel_rfl), ⟨by kernel_rfl, by kernel_rfl, by kernel_rfl, by kernel_rfl, by kernel_rfl⟩, fun h => by kernel_rfl, by kernel_rfl, fun h => (by cases h), by kernel_rfl⟩
theorem tok59 : TyOK Try.prog 59 ti59 := ⟨by kernel_rfl, by kernel_rfl, fun ρ => by kernel_rfl, yJq (by kernel_rfl), ⟨by kernel_rfl, by kernel_rfl, by kernel_rfl, by kernel_rfl, by kernel_rfl⟩, fun h => by kernel_rfl, by kernel_rfl, fun h => (by cases h), by kernel_rfl⟩
theorem tok70 : TyOK Try.prog 70 ti70 := ⟨by kernel_rfl, by kernel_rfl, fun ρ => by kernel_rfl, yJq (by kernel_rfl), ⟨by kernel_rfl, by kernel_rfl, by kernel_rfl, by kernel_rfl, by kernel_rfl⟩, fun h => by kernel_rfl, by kernel_rfl, fun h => (by cases h), by kernel_rfl⟩
theorem tok73 : TyOK Try.prog 73 ti73 := ⟨by kernel_rfl, by kernel_rfl, fun ρ => by kernel_rfl, yJq (by kernel_rfl), qNq (by kernel_rfl), fun h => (by cases h), by kernel_rfl, fun h => rfl, by kernel_rfl⟩
theorem tok74 : TyOK Try.prog 74 ti74 := ⟨by kernel_rfl, by kernel_rfl, fun ρ => by kernel_rfl, yJq (by kernel_rfl), qNq (by kernel_rfl), fun h => (by cases h), by kernel_rfl, fun h => rfl, by kernel_rfl⟩
theorem tok88 : TyOK Try.prog 88 ti88 := ⟨by kernel_rfl, by kernel_rfl, fun ρ => by kernel_rfl, yJq (by kernel_rfl), ⟨by kernel_rfl, by kernel_rfl, by kernel_rfl, by kernel_rfl, by kernel_rfl⟩, fun h => by kernel_rfl, by kernel_rfl, fun h => (by cases h), by kernel_rfl⟩
theorem tok89 : TyOK Try.prog 89 ti89 := ⟨by kernel_rfl, by kernel_rfl, fun ρ => by kernel_rfl, yJq (by kernel_rfl), qNq (by kernel_rfl), fun h => (by cases h), by kernel_rfl, fun h => rfl, by kernel_rfl⟩
theorem tok90 : TyOK Try.prog 90 ti90 := ⟨by kernel_rfl, by kernel_rfl, fun ρ => by kernel_rfl, yJq (by kernel_rfl), (by show Try.prog.underlying 90 = _; kernel_rfl), fun h => (by cases h), by kernel_rfl, fun h => rfl, by kernel_rfl⟩
theorem tok92 : TyOK Try.prog 92 ti92 := ⟨by kernel_rfl, by kernel_rfl, fun ρ => by kernel_rfl, yJq (by kernel_rfl), ⟨by kernel_rfl, by kernel_rfl, by kernel_rfl, by kernel_rfl, by kernel_rfl⟩, fun h => by kernel_rfl, by kernel_rfl, fun h => (by cases h), by kernel_rfl⟩
theorem tok100 : TyOK Try.prog 100 ti100 := ⟨by kernel_rfl, by kernel_rfl, fun ρ => by kernel_rfl, yJq (by kernel_rfl), (by show Try.prog.underlying 100 = _; kernel_rfl), fun h => (by cases h), by kernel_rfl, fun h => rfl, by kernel_rfl⟩
theorem tok101 : TyOK Try.prog 101 ti101 := ⟨by kernel_rfl, by kernel_rfl, fun ρ => by kernel_rfl, yJq (by kernel_rfl), ⟨by kernel_rfl, by kernel_rfl, by kernel_rfl, by kernel_rfl, by kernel_rfl⟩, fun h => by kernel_rfl, by kernel_rfl, fun h => (by cases h), by kernel_rfl⟩
theorem tok105 : TyOK Try.prog 105 ti105 := ⟨by kernel_rfl, by kernel_rfl, fun ρ => by kernel_rfl, yJq (by kernel_rfl), qNq (by kernel_rfl), fun h => (by cases h), by kernel_rfl, fun h => rfl, by kernel_rfl⟩
theorem tok110 : TyOK Try.prog 110 ti110 := ⟨by kernel_rfl, by kernel_rfl, fun ρ => by kernel_rfl, yJq (by kernel_rfl), ⟨by kernel_rfl, by kernel_rfl⟩, fun h => by kernel_rfl, by kernel_rfl, fun h => (by cases h), by kernel_rfl⟩
theorem tok124 : TyOK Try.prog 124 ti124 := ⟨by kernel_rfl, by kernel_rfl, fun ρ => by kernel_rfl, yJq (by kernel_rfl), (by show Try.prog.underlying 124 = _; kernel_rfl), fun h => (by cases h), by kernel_rfl, fun h => rfl, by kernel_rfl⟩
theorem tok129 : TyOK Try.prog 129 ti129 := ⟨by kernel_rfl, by kernel_rfl, fun ρ => by kernel_rfl, yJq (by kernel_rfl), qNq (by kernel_rfl), fun h => (by cases h), by kernel_rfl, fun h => rfl, by kernel_rfl⟩
theorem tok130 : TyOK Try.prog 130 ti130 := ⟨by kernel_rfl, by kernel_rfl, fun ρ => by kernel_rfl, yJq (by kernel_rfl), qNq (by kernel_rfl), fun h => (by cases h), by kernel_rfl, fun h => rfl, by kernel_rfl⟩
theorem tok134 : TyOK Try.prog 134 ti134 := ⟨by kernel_rfl, by kernel_rfl, fun ρ => by kernel_rfl, yJq (by kernel_rfl), ⟨by kernel_rfl, by kernel_rfl⟩, fun h => by kernel_rfl, by kernel_rfl, fun h => (by cases h), by kernel_rfl⟩
theorem tok142 : TyOK Try.prog 142 ti142 := ⟨by kernel_rfl, by kernel_rfl, fun ρ => by kernel_rfl, yJq (by kernel_rfl), qNq (by kernel_rfl), fun h => (by cases h), by kernel_rfl, fun h => rfl, by kernel_rfl⟩
theorem tok143 : TyOK Try.prog 143 ti143 := ⟨by kernel_rfl, by kernel_rfl, fun ρ => by kernel_rfl, yJq (by kernel_rfl), qNq (by kernel_rfl), fun h => (by cases h), by kernel_rfl, fun h => rfl, by kernel_rfl⟩
theorem tok144 : TyOK Try.prog 144 ti144 := ⟨by kernel_rfl, by kernel_rfl, fun ρ => by kernel_rfl, yJq (by kernel_rfl), qNq (by kernel_rfl), fun h => (by cases h), by kernel_rfl, fun h => rfl, by kernel_rfl⟩
theorem tok147 : TyOK Try.prog 147 ti147 := ⟨by kernel_rfl, by kernel_rfl, fun ρ => by kernel_rfl, yJq (by kernel_rfl), qNq (by kernel_rfl), fun h => (by cases h), by kernel_rfl, fun h => rfl, by kernel_rfl⟩
theorem fok6 : FnOK Try.prog 6 Try.f6 := ⟨Try.func6, Go.Proofs.enters_of Try.func6 (by kernel_rfl) rfl, by kernel_rfl⟩
theorem fok8 : FnOK Try.prog 8 Try.f8 := ⟨Try.func8, Go.Proofs.enters_of Try.func8 (by kernel_rfl) rfl, by kernel_rfl⟩
theorem fok9 : FnOK Try.prog 9 Try.f9 := ⟨Try.func9, Go.Proofs.enters_of Try.func9 (by kernel_rfl) rfl, by kernel_rfl⟩
theorem fok10 : FnOK Try.prog 10 Try.f10 := ⟨Try.func10, Go.Proofs.enters_of Try.func10 (by kernel_rfl) rfl, by kernel_rfl⟩
theorem fok11 : FnOK Try.prog 11 Try.f11 := ⟨Try.func11, Go.Proofs.enters_of Try.func11 (by kernel_rfl) rfl, by kernel_rfl⟩
theorem fok12 : FnOK Try.prog 12 Try.f12 := ⟨Try.func12, Go.Proofs.enters_of Try.func12 (by kernel_rfl) rfl, by kernel_rfl⟩
theorem fok13 : FnOK Try.prog 13 Try.f13 := ⟨Try.func13, Go.Proofs.enters_of Try.func13 (by kernel_rfl) rfl, by kernel_rfl⟩
theorem fok19 : FnOK Try.prog 19 Try.f19 := ⟨Try.func19, Go.Proofs.enters_of Try.func19 (by kernel_rfl) rfl, by kernel_rfl⟩
theorem fok20 : FnOK Try.prog 20 Try.f20 := ⟨Try.func20, Go.Proofs.enters_of Try.func20 (by kernel_rfl) rfl, by kernel_rfl⟩
theorem fok21 : FnOK Try.prog 21 Try.f21 := ⟨Try.func21, Go.Proofs.enters_of Try.func21 (by kernel_rfl) rfl, by kernel_rfl⟩
theorem fok22 : FnOK Try.prog 22 Try.f22 := ⟨Try.func22, Go.Proofs.enters_of Try.func22 (by kernel_rfl) rfl, by kernel_rfl⟩
theorem fok23 : FnOK Try.prog 23 Try.f23 := ⟨Try.func23, Go.Proofs.enters_of Try.func23 (by kernel_rfl) rfl, by kernel_rfl⟩
theorem fok24 : FnOK Try.prog 24 Try.f24 := ⟨Try.func24, Go.Proofs.enters_of Try.func24 (by kernel_rfl) rfl, by kernel_rfl⟩
theorem fok25 : FnOK Try.prog 25 Try.f25 := ⟨Try.func25, Go.Proofs.enters_of Try.func25 (by kernel_rfl) rfl, by kernel_rfl⟩
theorem fok26 : FnOK Try.prog 26 Try.f26 := ⟨Try.func26, Go.Proofs.enters_of Try.func26 (by kernel_rfl) rfl, by kernel_rfl⟩
theorem fok27 : FnOK Try.prog 27 Try.f27 := ⟨Try.func27, Go.Proofs.enters_of Try.func27 (by kernel_rfl) rfl, by kernel_rfl⟩
theorem fok28 : FnOK Try.prog 28 Try.f28 := ⟨Try.func28, Go.Proofs.enters_of Try.func28 (by kernel_rfl) rfl, by kernel_rfl⟩
theorem fok29 : FnOK Try.prog 29 Try.f29 := ⟨Try.func29, Go.Proofs.enters_of Try.func29 (by kernel_rfl) rfl, by kernel_rfl⟩
theorem fok30 : FnOK Try.prog 30 Try.f30 := ⟨Try.func30, Go.Proofs.enters_of Try.func30 (by kernel_rfl) rfl, by kernel_rfl⟩
theorem fok31 : FnOK Try.prog 31 Try.f31 := ⟨Try.func31, Go.Proofs.enters_of Try.func31 (by kernel_rfl) rfl, by kernel_rfl⟩
theorem fok32 : FnOK Try.prog 32 Try.f32 := ⟨Try.func32, Go.Proofs.enters_of Try.func32 (by kernel_rfl) rfl, by kernel_rfl⟩
theorem fok33 : FnOK Try.prog 33 Try.f33 := ⟨Try.func33, Go.Proofs.enters_of Try.func33 (by kernel_rfl) rfl, by kernel_rfl⟩
theorem fok34 : FnOK Try.prog 34 Try.f34 := ⟨Try.func34, Go.Proofs.enters_of Try.func34 (by kernel_rfl) rfl, by kernel_rfl⟩
theorem fok35 : FnOK Try.prog 35 Try.f35 := ⟨Try.func35, Go.Proofs.enters_of Try.func35 (by kernel_rfl) rfl, by kernel_rfl⟩
theorem fok36 : FnOK Try.prog 36 Try.f36 := ⟨Try.func36, Go.Proofs.enters_of Try.func36 (by kernel_rfl) rfl, by kernel_rfl⟩
theorem fok37 : FnOK Try.prog 37 Try.f37 := ⟨Try.func37, Go.Proofs.enters_of Try.func37 (by kernel_rfl) rfl, by kernel_rfl⟩
theorem fok38 : FnOK Try.prog 38 Try.f38 := ⟨Try.func38, Go.Proofs.enters_of Try.func38 (by kernel_rfl) rfl, by kernel_rfl⟩
theorem fok39 : FnOK Try.prog 39 Try.f39 := ⟨Try.func39, Go.Proofs.enters_of Try.func39 (by kernel_rfl) rfl, by kernel_rfl⟩
theorem fok40 : FnOK Try.prog 40 Try.f40 := ⟨Try.func40, Go.Proofs.enters_of Try.func40 (by kernel_rfl) rfl, by kernel_rfl⟩
theorem fok44 : FnOK Try.prog 44 Try.f44 := ⟨Try.func44, Go.Proofs.enters_of Try.func44 (by kernel_rfl) rfl, by kernel_rfl⟩
theorem fok45 : FnOK Try.prog 45 Try.f45 := ⟨Try.func45, Go.Proofs.enters_of Try.func45 (by kernel_rfl) rfl, by kernel_rfl⟩
theorem fok46 : FnOK Try.prog 46 Try.f46 := ⟨Try.func46, Go.Proofs.enters_of Try.func46 (by kernel_rfl) rfl, by kernel_rfl⟩
theorem fok47 : FnOK Try.prog 47 Try.f47 := ⟨Try.func47, Go.Proofs.enters_of Try.func47 (by kernel_rfl) rfl, by kernel_rfl⟩
theorem fok48 : FnOK Try.prog 48 Try.f48 := ⟨Try.func48, Go.Proofs.enters_of Try.func48 (by kernel_rfl) rfl, by kernel_rfl⟩
theorem fok49 : FnOK Try.prog 49 Try.f49 := ⟨Try.func49, Go.Proofs.enters_of Try.func49 (by kernel_rfl) rfl, by kernel_rfl⟩
theorem fok50 : FnOK Try.prog 50 Try.f50 := ⟨Try.func50, Go.Proofs.enters_of Try.func50 (by kernel_rfl) rfl, by kernel_rfl⟩
theorem fok51 : FnOK Try.prog 51 Try.f51 := ⟨Try.func51, Go.Proofs.enters_of Try.func51 (by kernel_rfl) rfl, by kernel_rfl⟩
theorem fok52 : FnOK Try.prog 52 Try.f52 := ⟨Try.func52, Go.Proofs.enters_of Try.func52 (by kernel_rfl) rfl, by kernel_rfl⟩
theorem fok53 : FnOK Try.prog 53 Try.f53 := ⟨Try.func53, Go.Proofs.enters_of Try.func53 (by kernel_rfl) rfl, by kernel_rfl⟩
theorem fok54 : FnOK Try.prog 54 Try.f54 := ⟨Try.func54, Go.Proofs.enters_of Try.func54 (by kernel_rfl) rfl, by kernel_rfl⟩
theorem fok55 : FnOK Try.prog 55 Try.f55 := ⟨Try.func55, Go.Proofs.enters_of Try.func55 (by kernel_rfl) rfl, by kernel_rfl⟩
theorem fok56 : FnOK Try.prog 56 Try.f56 := ⟨Try.func56, Go.Proofs.enters_of Try.func56 (by kernel_rfl) rfl, by kernel_rfl⟩
theorem fok57 : FnOK Try.prog 57 Try.f57 := ⟨Try.func57, Go.Proofs.enters_of Try.func57 (by kernel_rfl) rfl, by kernel_rfl⟩
theorem fok58 : FnOK Try.prog 58 Try.f58 := ⟨Try.func58, Go.Proofs.enters_of Try.func58 (by kernel_rfl) rfl, by kernel_rfl⟩
theorem fok59 : FnOK Try.prog 59 Try.f59 := ⟨Try.func59, Go.Proofs.enters_of Try.func59 (by kernel_rfl) rfl, by kernel_rfl⟩
theorem fok60 : FnOK Try.prog 60 Try.f60 := ⟨Try.func60, Go.Proofs.enters_of Try.func60 (by kernel_rfl) rfl, by kernel_rfl⟩
theorem fok61 : FnOK Try.prog 61 Try.f61 := ⟨Try.func61, Go.Proofs.enters_of Try.func61 (by kernel_rfl) rfl, by kernel_rfl⟩
theorem fok62 : FnOK Try.prog 62 Try.f62 := ⟨Try.func62, Go.Proofs.enters_of Try.func62 (by kernel_rfl) rfl, by kernel_rfl⟩
theorem fok63 : FnOK Try.prog 63 Try.f63 := ⟨Try.func63, Go.Proofs.enters_of Try.func63 (by kernel_rfl) rfl, by kernel_rfl⟩
theorem fok64 : FnOK Try.prog 64 Try.f64 := ⟨Try.func64, Go.Proofs.enters_of Try.func64 (by kernel_rfl) rfl, by kernel_rfl⟩
theorem fok65 : FnOK Try.prog 65 Try.f65 := ⟨Try.func65, Go.Proofs.enters_of Try.func65 (by kernel_rfl) rfl, by kernel_rfl⟩
theorem fok66 : FnOK Try.prog 66 Try.f66 := ⟨Try.func66, Go.Proofs.enters_of Try.func66 (by kernel_rfl) rfl, by kernel_rfl⟩
theorem fok67 : FnOK Try.prog 67 Try.f67 := ⟨Try.func67, Go.Proofs.enters_of Try.func67 (by kernel_rfl) rfl, by kernel_rfl⟩
theorem fok68 : FnOK Try.prog 68 Try.f68 := ⟨Try.func68, Go.Proofs.enters_of Try.func68 (by kernel_rfl) rfl, by kernel_rfl⟩
theorem fok69 : FnOK Try.prog 69 Try.f69 := ⟨Try.func69, Go.Proofs.enters_of Try.func69 (by kernel_rfl) rfl, by kernel_rfl⟩
theorem fok70 : FnOK Try.prog 70 Try.f70 := ⟨Try.func70, Go.Proofs.enters_of Try.func70 (by kernel_rfl) rfl, by kernel_rfl⟩
theorem fok71 : FnOK Try.prog 71 Try.f71 := ⟨Try.func71, Go.Proofs.enters_of Try.func71 (by kernel_rfl) rfl, by kernel_rfl⟩
theorem fok72 : FnOK Try.prog 72 Try.f72 := ⟨Try.func72, Go.Proofs.enters_of Try.func72 (by kernel_rfl) rfl, by kernel_rfl⟩
theorem fok73 : FnOK Try.prog 73 Try.f73 := ⟨Try.func73, Go.Proofs.enters_of Try.func73 (by kernel_rfl) rfl, by kernel_rfl⟩
theorem fok74 : FnOK Try.prog 74 Try.f74 := ⟨Try.func74, Go.Proofs.enters_of Try.func74 (by kernel_rfl) rfl, by kernel_rfl⟩
theorem fok75 : FnOK Try.prog 75 Try.f75 := ⟨Try.func75, Go.Proofs.enters_of Try.func75 (by kernel_rfl) rfl, by kernel_rfl⟩
theorem fok76 : FnOK Try.prog 76 Try.f76 := ⟨Try.func76, Go.Proofs.enters_of Try.func76 (by kernel_rfl) rfl, by kernel_rfl⟩
theorem fok77 : FnOK Try.prog 77 Try.f77 := ⟨Try.func77, Go.Proofs.enters_of Try.func77 (by kernel_rfl) rfl, by kernel_rfl⟩
theorem fok78 : FnOK Try.prog 78 Try.f78 := ⟨Try.func78, Go.Proofs.enters_of Try.func78 (by kernel_rfl) rfl, by kernel_rfl⟩
theorem fok79 : FnOK Try.prog 79 Try.f79 := ⟨Try.func79, Go.Proofs.enters_of Try.func79 (by kernel_rfl) rfl, by kernel_rfl⟩
theorem fok80 : FnOK Try.prog 80 Try.f80 := ⟨Try.func80, Go.Proofs.enters_of Try.func80 (by kernel_rfl) rfl, by kernel_rfl⟩
theorem fok81 : FnOK Try.prog 81 Try.f81 := ⟨Try.func81, Go.Proofs.enters_of Try.func81 (by kernel_rfl) rfl, by kernel_rfl⟩
theorem fok82 : FnOK Try.prog 82 Try.f82 := ⟨Try.func82, Go.Proofs.enters_of Try.func82 (by kernel_rfl) rfl, by kernel_rfl⟩
theorem fok83 : FnOK Try.prog 83 Try.f83 := ⟨Try.func83, Go.Proofs.enters_of Try.func83 (by kernel_rfl) rfl, by kernel_rfl⟩
theorem fok84 : FnOK Try.prog 84 Try.f84 := ⟨Try.func84, Go.Proofs.enters_of Try.func84 (by kernel_rfl) rfl, by kernel_rfl⟩
theorem fok85 : FnOK Try.prog 85 Try.f85 := ⟨Try.func85, Go.Proofs.enters_of Try.func85 (by kernel_rfl) rfl, by kernel_rfl⟩
theorem fok86 : FnOK Try.prog 86 Try.f86 := ⟨Try.func86, Go.Proofs.enters_of Try.func86 (by kernel_rfl) rfl, by kernel_rfl⟩
theorem fok87 : FnOK Try.prog 87 Try.f87 := ⟨Try.func87, Go.Proofs.enters_of Try.func87 (by kernel_rfl) rfl, by kernel_rfl⟩
theorem fok88 : FnOK Try.prog 88 Try.f88 := ⟨Try.func88, Go.Proofs.enters_of Try.func88 (by kernel_rfl) rfl, by kernel_rfl⟩
theorem fok89 : FnOK Try.prog 89 Try.f89 := ⟨Try.func89, Go.Proofs.enters_of Try.func89 (by kernel_rfl) rfl, by kernel_rfl⟩
theorem fok90 : FnOK Try.prog 90 Try.f90 := ⟨Try.func90, Go.Proofs.enters_of Try.func90 (by kernel_rfl) rfl, by kernel_rfl⟩
theorem fok91 : FnOK Try.prog 91 Try.f91 := ⟨Try.func91, Go.Proofs.enters_of Try.func91 (by kernel_rfl) rfl, by kernel_rfl⟩
theorem fok92 : FnOK Try.prog 92 Try.f92 := ⟨Try.func92, Go.Proofs.enters_of Try.func92 (by kernel_rfl) rfl, by kernel_rfl⟩
theorem fok93 : FnOK Try.prog 93 Try.f93 := ⟨Try.func93, Go.Proofs.enters_of Try.func93 (by kernel_rfl) rfl, by kernel_rfl⟩
theorem tyAll : Tr.All (fun t i => TyOK Try.prog t i) (fun k => k) tyT := (Tr.All.skip (Tr.All.here tok1 (Tr.All.here tok3 (Tr.All.here tok7 (Tr.All.skip Tr.All.nil (Tr.All.skip (Tr.All.skip (Tr.All.here tok143 Tr.All.nil Tr.All.nil) Tr.All.nil) Tr.All.nil)) Tr.All.nil) (Tr.All.skip (Tr.All.skip Tr.All.nil (Tr.All.skip (Tr.All.skip (Tr.All.here tok147 Tr.All.nil Tr.All.nil) Tr.All.nil) Tr.All.nil)) (Tr.All.here tok27 Tr.All.nil (Tr.All.here tok59 Tr.All.nil Tr.All.nil)))) (Tr.All.here tok5 (Tr.All.here tok9 (Tr.All.skip (Tr.All.skip (Tr.All.skip (Tr.All.here tok129 Tr.All.nil Tr.All.nil) Tr.All.nil) Tr.All.nil) Tr.All.nil) (Tr.All.skip (Tr.All.skip (Tr.All.here tok73 Tr.All.nil Tr.All.nil) (Tr.All.here tok105 Tr.All.nil Tr.All.nil)) (Tr.All.skip (Tr.All.here tok89 Tr.All.nil Tr.All.nil) Tr.All.nil))) (Tr.All.skip (Tr.All.skip (Tr.All.skip Tr.All.nil (Tr.All.here tok101 Tr.All.nil Tr.All.nil)) Tr.All.nil) (Tr.All.here tok29 (Tr.All.here tok45 Tr.All.nil Tr.All.nil) Tr.All.nil)))) (Tr.All.here tok2 (Tr.All.here tok4 (Tr.All.here tok8 (Tr.All.skip (Tr.All.here tok32 Tr.All.nil Tr.All.nil) (Tr.All.skip (Tr.All.skip (Tr.All.here tok144 Tr.All.nil Tr.All.nil) Tr.All.nil) Tr.All.nil)) (Tr.All.here tok24 Tr.All.nil (Tr.All.skip (Tr.All.here tok88 Tr.All.nil Tr.All.nil) Tr.All.nil))) (Tr.All.skip (Tr.All.skip (Tr.All.skip Tr.All.nil (Tr.All.here tok100 Tr.All.nil Tr.All.nil)) Tr.All.nil) (Tr.All.skip Tr.All.nil (Tr.All.skip (Tr.All.here tok92 Tr.All.nil Tr.All.nil) (Tr.All.here tok124 Tr.All.nil Tr.All.nil))))) (Tr.All.here tok6 (Tr.All.skip (Tr.All.skip (Tr.All.skip (Tr.All.skip (Tr.All.here tok130 Tr.All.nil Tr.All.nil) Tr.All.nil) Tr.All.nil) Tr.All.nil) (Tr.All.here tok26 (Tr.All.skip (Tr.All.here tok74 Tr.All.nil Tr.All.nil) Tr.All.nil) (Tr.All.here tok58 (Tr.All.here tok90 Tr.All.nil Tr.All.nil) Tr.All.nil))) (Tr.All.skip (Tr.All.here tok22 (Tr.All.here tok38 (Tr.All.here tok70 (Tr.All.here tok134 Tr.All.nil Tr.All.nil) Tr.All.nil) Tr.All.nil) Tr.All.nil) (Tr.All.skip (Tr.All.skip (Tr.All.skip (Tr.All.here tok142 Tr.All.nil Tr.All.nil) Tr.All.nil) (Tr.All.here tok110 Tr.All.nil Tr.All.nil)) Tr.All.nil)))))
theorem fnAll : Tr.All (fun f fn => FnOK Try.prog f fn) (fun k => k) fnT := (Tr.All.skip (Tr.All.skip (Tr.All.skip (Tr.All.skip (Tr.All.skip (Tr.All.here fok31 (Tr.All.here fok63 Tr.All.nil Tr.All.nil) Tr.All.nil) (Tr.All.here fok47 (Tr.All.here fok79 Tr.All.nil Tr.All.nil) Tr.All.nil)) (Tr.All.here fok23 (Tr.All.here fok39 (Tr.All.here fok71 Tr.All.nil Tr.All.nil) Tr.All.nil) (Tr.All.here fok55 (Tr.All.here fok87 Tr.All.nil Tr.All.nil) Tr.All.nil))) (Tr.All.here fok11 (Tr.All.here fok19 (Tr.All.here fok35 (Tr.All.here fok67 Tr.All.nil Tr.All.nil) Tr.All.nil) (Tr.All.here fok51 (Tr.All.here fok83 Tr.All.nil Tr.All.nil) Tr.All.nil)) (Tr.All.here fok27 (Tr.All.skip (Tr.All.here fok75 Tr.All.nil Tr.All.nil) Tr.All.nil) (Tr.All.here fok59 (Tr.All.here fok91 Tr.All.nil Tr.All.nil) Tr.All.nil)))) (Tr.All.skip (Tr.All.here fok9 (Tr.All.skip (Tr.All.here fok33 (Tr.All.here fok65 Tr.All.nil Tr.All.nil) Tr.All.nil) (Tr.All.here fok49 (Tr.All.here fok81 Tr.All.nil Tr.All.nil) Tr.All.nil)) (Tr.All.here fok25 (Tr.All.skip (Tr.All.here fok73 Tr.All.nil Tr.All.nil) Tr.All.nil) (Tr.All.here fok57 (Tr.All.here fok89 Tr.All.nil Tr.All.nil) Tr.All.nil))) (Tr.All.here fok13 (Tr.All.here fok21 (Tr.All.here fok37 (Tr.All.here fok69 Tr.All.nil Tr.All.nil) Tr.All.nil) (Tr.All.here fok53 (Tr.All.here fok85 Tr.All.nil Tr.All.nil) Tr.All.nil)) (Tr.All.here fok29 (Tr.All.here fok45 (Tr.All.here fok77 Tr.All.nil Tr.All.nil) Tr.All.nil) (Tr.All.here fok61 (Tr.All.here fok93 Tr.All.nil Tr.All.nil) Tr.All.nil))))) (Tr.All.skip (Tr.All.skip (Tr.All.here fok8 (Tr.All.skip (Tr.All.here fok32 (Tr.All.here fok64 Tr.All.nil Tr.All.nil) Tr.All.nil) (Tr.All.here fok48 (Tr.All.here fok80 Tr.All.nil Tr.All.nil) Tr.All.nil)) (Tr.All.here fok24 (Tr.All.here fok40 (Tr.All.here fok72 Tr.All.nil Tr.All.nil) Tr.All.nil) (Tr.All.here fok56 (Tr.All.here fok88 Tr.All.nil Tr.All.nil) Tr.All.nil))) (Tr.All.here fok12 (Tr.All.here fok20 (Tr.All.here fok36 (Tr.All.here fok68 Tr.All.nil Tr.All.nil) Tr.All.nil) (Tr.All.here fok52 (Tr.All.here fok84 Tr.All.nil Tr.All.nil) Tr.All.nil)) (Tr.All.here fok28 (Tr.All.here fok44 (Tr.All.here fok76 Tr.All.nil Tr.All.nil) Tr.All.nil) (Tr.All.here fok60 (Tr.All.here fok92 Tr.All.nil Tr.All.nil) Tr.All.nil)))) (Tr.All.here fok6 (Tr.All.here fok10 (Tr.All.skip (Tr.All.here fok34 (Tr.All.here fok66 Tr.All.nil Tr.All.nil) Tr.All.nil) (Tr.All.here fok50 (Tr.All.here fok82 Tr.All.nil Tr.All.nil) Tr.All.nil)) (Tr.All.here fok26 (Tr.All.skip (Tr.All.here fok74 Tr.All.nil Tr.All.nil) Tr.All.nil) (Tr.All.here fok58 (Tr.All.here fok90 Tr.All.nil Tr.All.nil) Tr.All.nil))) (Tr.All.skip (Tr.All.here fok22 (Tr.All.here fok38 (Tr.All.here fok70 Tr.All.nil Tr.All.nil) Tr.All.nil) (Tr.All.here fok54 (Tr.All.here fok86 Tr.All.nil Tr.All.nil) Tr.All.nil)) (Tr.All.here fok30 (Tr.All.here fok46 (Tr.All.here fok78 Tr.All.nil Tr.All.nil) Tr.All.nil) (Tr.All.here fok62 Tr.All.nil Tr.All.nil))))))
theorem xok42 : ExtOK Try.prog 42 add64V := add64_ok (run_callFunc_extern Try.func42 (by kernel_rfl) (by kernel_rfl) (by kernel_rfl) (e := add64Entry) (by kernel_rfl))
theorem extAll : Tr.All (fun f e => ExtOK Try.prog f e) (fun k => k) extT := (Tr.All.skip Tr.All.nil (Tr.All.skip Tr.All.nil (Tr.All.skip (Tr.All.skip Tr.All.nil (Tr.All.skip (Tr.All.here xok42 Tr.All.nil Tr.All.nil) Tr.All.nil)) Tr.All.nil)))
theorem mtAll : Tr.All (fun t l => MtOK Try.prog t l) (fun k => k) mtT := Tr.All.nil
theorem mpAll : Tr.All (fun t p => Try.prog.underlying t = some (.map p.1 p.2)) (fun k => k) mpT := Tr.All.nil
theorem cfgOK : CfgOK Try.prog cfg := ⟨fun t i h => tyAll.at_ h, fun f e h => extAll.at_ h, fun t k e h => mpAll.at_ h, mtOf_ok fun t l h => mtAll.at_ h⟩
theorem fnsOK : FnsOK Try.prog cfg := fnsOK_of fun f fn h => fnAll.at_ h
theorem mixed : Try.prog.follows .mixedOrders = true := by kernel_rfl
end Go.Proofs.Ytgeelfdgnehdnaa

/-
  What the proof of BlockHeads stands on, part 5. No condition.
-/
import Derived.Test.YtbgnnnhhdggaoaaGreatDoorZBlockHeadsD
set_option linter.unusedSimpArgs false
set_option linter.unusedVariables false
namespace Go.Proofs.YtbgnnnhhdggaoaaGreatDoor
section
open Go.RowKit
section
set_option maxRecDepth 100000
theorem tkO {P : Program} {t : TypeId} {i : TyI} (d : i.d.Is P t) (s : (P.info? t).map (·.size) = some i.size := by kernel_rfl) (b : (P.info? t).map (·.bytes) = some i.bytes := by kernel_rfl) (z : ∀ ρ, (P.info? t).bind (·.zero) = some (conc ρ i.zero) := by intro ρ; kernel_rfl) (y : bare i.zero = true := by kernel_rfl) (v : i.zero.isAgg = i.agg := by kernel_rfl) (x : i.zero.size = i.size := by kernel_rfl) (g : i.agg = false := by kernel_rfl) (l : i.zero.leaf = true := by kernel_rfl) : TyOK P t i := ⟨s, b, z, zin_of y, d, fun h => (by rw [g] at h; cases h), v, fun _ => l, x⟩
theorem tkU {P : Program} {t : TypeId} {i : TyI} (d : i.d.Is P t := by show Program.underlying _ _ = _; kernel_rfl) (s : (P.info? t).map (·.size) = some i.size := by kernel_rfl) (b : (P.info? t).map (·.bytes) = some i.bytes := by kernel_rfl) (z : ∀ ρ, (P.info? t).bind (·.zero) = some (conc ρ i.zero) := by intro ρ; kernel_rfl) (y : bare i.zero = true := by kernel_rfl) (v : i.zero.isAgg = i.agg := by kernel_rfl) (x : i.zero.size = i.size := by kernel_rfl) (g : i.agg = false := by kernel_rfl) (l : i.zero.leaf = true := by kernel_rfl) : TyOK P t i := ⟨s, b, z, zin_of y, d, fun h => (by rw [g] at h; cases h), v, fun _ => l, x⟩
theorem tkR {P : Program} {t : TypeId} {i : TyI} (d : i.d.Is P t := by exact ⟨by kernel_rfl, by kernel_rfl⟩) (s : (P.info? t).map (·.size) = some i.size := by kernel_rfl) (b : (P.info? t).map (·.bytes) = some i.bytes := by kernel_rfl) (z : ∀ ρ, (P.info? t).bind (·.zero) = some (conc ρ i.zero) := by intro ρ; kernel_rfl) (y : bare i.zero = true := by kernel_rfl) (v : i.zero.isAgg = i.agg := by kernel_rfl) (x : i.zero.size = i.size := by kernel_rfl) (e : P.eqGuardType P.depth t = false := by kernel_rfl) (g : i.agg = true := by kernel_rfl) : TyOK P t i := ⟨s, b, z, zin_of y, d, fun _ => e, v, fun h => (by rw [g] at h; cases h), x⟩
theorem tkS {P : Program} {t : TypeId} {i : TyI} (d : i.d.Is P t := by exact ⟨by kernel_rfl, by kernel_rfl, by kernel_rfl, by kernel_rfl, by kernel_rfl⟩) (s : (P.info? t).map (·.size) = some i.size := by kernel_rfl) (b : (P.info? t).map (·.bytes) = some i.bytes := by kernel_rfl) (z : ∀ ρ, (P.info? t).bind (·.zero) = some (conc ρ i.zero) := by intro ρ; kernel_rfl) (y : bare i.zero = true := by kernel_rfl) (v : i.zero.isAgg = i.agg := by kernel_rfl) (x : i.zero.size = i.size := by kernel_rfl) (e : P.eqGuardType P.depth t = false := by kernel_rfl) (g : i.agg = true := by kernel_rfl) : TyOK P t i := ⟨s, b, z, zin_of y, d, fun _ => e, v, fun h => (by rw [g] at h; cases h), x⟩
theorem fkz {P : Program} {f : FuncId} {n : Func} (h : P.funcs[f]? = some n) (a : (n.name == "runtime.NumGoroutine") = false := by kernel_rfl) (b : n.body.isSome = true := by kernel_rfl) (k : (match n.body with | some c => yPq n.ntmps c | none => true) = true := by kernel_rfl) : FnOK P f n := by
 obtain ⟨c, e⟩ := Option.isSome_iff_exists.1 b;exact ⟨h, Go.Proofs.enters_of h a e, k⟩
theorem tok1 : TyOK Tryz.prog 1 ti1 := tkO (yfq (by kernel_rfl))
theorem tok2 : TyOK Tryz.prog 2 ti2 := tkU
theorem tok3 : TyOK Tryz.prog 3 ti3 := tkU
theorem tok4 : TyOK Tryz.prog 4 ti4 := tkU
theorem tok5 : TyOK Tryz.prog 5 ti5 := tkU
theorem tok6 : TyOK Tryz.prog 6 ti6 := tkU
theorem tok7 : TyOK Tryz.prog 7 ti7 := tkS
theorem tok8 : TyOK Tryz.prog 8 ti8 := tkS
theorem tok9 : TyOK Tryz.prog 9 ti9 := tkU
theorem tok11 : TyOK Tryz.prog 11 ti11 := tkU
theorem tok12 : TyOK Tryz.prog 12 ti12 := tkU
theorem tok17 : TyOK Tryz.prog 17 ti17 := tkU
theorem tok20 : TyOK Tryz.prog 20 ti20 := tkO (iface_of (by kernel_rfl))
theorem tok22 : TyOK Tryz.prog 22 ti22 := tkU
theorem tok24 : TyOK Tryz.prog 24 ti24 := tkS
theorem tok25 : TyOK Tryz.prog 25 ti25 := tkR
theorem tok26 : TyOK Tryz.prog 26 ti26 := tkR
theorem tok28 : TyOK Tryz.prog 28 ti28 := tkS
theorem tok29 : TyOK Tryz.prog 29 ti29 := tkU
theorem tok30 : TyOK Tryz.prog 30 ti30 := tkU
theorem tok31 : TyOK Tryz.prog 31 ti31 := tkS
theorem tok32 : TyOK Tryz.prog 32 ti32 := tkS
theorem tok33 : TyOK Tryz.prog 33 ti33 := tkO (yfq (by kernel_rfl))
theorem tok37 : TyOK Tryz.prog 37 ti37 := tkU
theorem tok38 : TyOK Tryz.prog 38 ti38 := tkU
theorem tok41 : TyOK Tryz.prog 41 ti41 := tkU
theorem tok51 : TyOK Tryz.prog 51 ti51 := tkO (yfq (by kernel_rfl))
theorem tok52 : TyOK Tryz.prog 52 ti52 := tkU
theorem tok53 : TyOK Tryz.prog 53 ti53 := tkU
theorem tok57 : TyOK Tryz.prog 57 ti57 := tkS
theorem tok66 : TyOK Tryz.prog 66 ti66 := tkU
theorem tok70 : TyOK Tryz.prog 70 ti70 := tkS
theorem tok72 : TyOK Tryz.prog 72 ti72 := tkS
theorem tok75 : TyOK Tryz.prog 75 ti75 := tkU
theorem tok77 : TyOK Tryz.prog 77 ti77 := tkS
theorem tok79 : TyOK Tryz.prog 79 ti79 := tkO (yfq (by kernel_rfl))
theorem tok82 : TyOK Tryz.prog 82 ti82 := tkS
theorem tok83 : TyOK Tryz.prog 83 ti83 := tkO (yfq (by kernel_rfl))
theorem tok86 : TyOK Tryz.prog 86 ti86 := tkO (yfq (by kernel_rfl))
theorem tok88 : TyOK Tryz.prog 88 ti88 := tkO (yfq (by kernel_rfl))
theorem tok92 : TyOK Tryz.prog 92 ti92 := tkS
theorem tok95 : TyOK Tryz.prog 95 ti95 := tkS
theorem tok100 : TyOK Tryz.prog 100 ti100 := tkO (yfq (by kernel_rfl))
theorem tok101 : TyOK Tryz.prog 101 ti101 := tkO (yfq (by kernel_rfl))
theorem tok102 : TyOK Tryz.prog 102 ti102 := tkO (yfq (by kernel_rfl))
theorem tok103 : TyOK Tryz.prog 103 ti103 := tkO (yfq (by kernel_rfl))
theorem tok106 : TyOK Tryz.prog 106 ti106 := tkO (yfq (by kernel_rfl))
theorem tok107 : TyOK Tryz.prog 107 ti107 := tkO (yfq (by kernel_rfl))
theorem tok110 : TyOK Tryz.prog 110 ti110 := tkO (yfq (by kernel_rfl))
theorem tok111 : TyOK Tryz.prog 111 ti111 := tkO (yfq (by kernel_rfl))
theorem tok126 : TyOK Tryz.prog 126 ti126 := tkO (yfq (by kernel_rfl))
theorem tok128 : TyOK Tryz.prog 128 ti128 := tkO (yfq (by kernel_rfl))
theorem tok133 : TyOK Tryz.prog 133 ti133 := tkO (yfq (by kernel_rfl))
theorem tok143 : TyOK Tryz.prog 143 ti143 := tkO (yfq (by kernel_rfl))
theorem tok144 : TyOK Tryz.prog 144 ti144 := tkO (yfq (by kernel_rfl))
theorem tok146 : TyOK Tryz.prog 146 ti146 := tkO (yfq (by kernel_rfl))
theorem tok148 : TyOK Tryz.prog 148 ti148 := tkO (yfq (by kernel_rfl))
theorem tok149 : TyOK Tryz.prog 149 ti149 := tkR
theorem tok150 : TyOK Tryz.prog 150 ti150 := tkO (yfq (by kernel_rfl))
theorem tok151 : TyOK Tryz.prog 151 ti151 := tkO (yfq (by kernel_rfl))
theorem tok155 : TyOK Tryz.prog 155 ti155 := tkU
theorem tok157 : TyOK Tryz.prog 157 ti157 := tkS
theorem tok161 : TyOK Tryz.prog 161 ti161 := tkS
theorem tok162 : TyOK Tryz.prog 162 ti162 := tkU
theorem tok183 : TyOK Tryz.prog 183 ti183 := tkR
theorem tok186 : TyOK Tryz.prog 186 ti186 := tkU
theorem tok188 : TyOK Tryz.prog 188 ti188 := tkR
theorem tok199 : TyOK Tryz.prog 199 ti199 := tkU
theorem tok201 : TyOK Tryz.prog 201 ti201 := tkO (yfq (by kernel_rfl))
theorem tok202 : TyOK Tryz.prog 202 ti202 := tkO (yfq (by kernel_rfl))
theorem tok207 : TyOK Tryz.prog 207 ti207 := tkU
theorem tok208 : TyOK Tryz.prog 208 ti208 := tkR
theorem tok213 : TyOK Tryz.prog 213 ti213 := tkU
theorem tok214 : TyOK Tryz.prog 214 ti214 := tkO (yfq (by kernel_rfl))
theorem tok216 : TyOK Tryz.prog 216 ti216 := tkU
theorem tok217 : TyOK Tryz.prog 217 ti217 := tkO (yfq (by kernel_rfl))
theorem tok223 : TyOK Tryz.prog 223 ti223 := tkO (yfq (by kernel_rfl))
theorem tok226 : TyOK Tryz.prog 226 ti226 := tkU
theorem tok227 : TyOK Tryz.prog 227 ti227 := tkS
theorem tok244 : TyOK Tryz.prog 244 ti244 := tkU
theorem tok245 : TyOK Tryz.prog 245 ti245 := tkU
theorem tok246 : TyOK Tryz.prog 246 ti246 := tkO (yfq (by kernel_rfl))
theorem tok247 : TyOK Tryz.prog 247 ti247 := tkU
theorem tok248 : TyOK Tryz.prog 248 ti248 := tkU
theorem tok249 : TyOK Tryz.prog 249 ti249 := tkU
theorem fok4 : FnOK Tryz.prog 4 Tryz.f4 := fkz Tryz.func4
theorem fok7 : FnOK Tryz.prog 7 Tryz.f7 := fkz Tryz.func7
theorem fok8 : FnOK Tryz.prog 8 Tryz.f8 := fkz Tryz.func8
theorem fok11 : FnOK Tryz.prog 11 Tryz.f11 := fkz Tryz.func11
theorem fok19 : FnOK Tryz.prog 19 Tryz.f19 := fkz Tryz.func19
theorem fok20 : FnOK Tryz.prog 20 Tryz.f20 := fkz Tryz.func20
theorem fok21 : FnOK Tryz.prog 21 Tryz.f21 := fkz Tryz.func21
theorem fok22 : FnOK Tryz.prog 22 Tryz.f22 := fkz Tryz.func22
theorem fok23 : FnOK Tryz.prog 23 Tryz.f23 := fkz Tryz.func23
theorem fok24 : FnOK Tryz.prog 24 Tryz.f24 := fkz Tryz.func24
theorem fok25 : FnOK Tryz.prog 25 Tryz.f25 := fkz Tryz.func25
theorem fok28 : FnOK Tryz.prog 28 Tryz.f28 := fkz Tryz.func28
theorem fok29 : FnOK Tryz.prog 29 Tryz.f29 := fkz Tryz.func29
theorem fok30 : FnOK Tryz.prog 30 Tryz.f30 := fkz Tryz.func30
theorem fok31 : FnOK Tryz.prog 31 Tryz.f31 := fkz Tryz.func31
theorem fok32 : FnOK Tryz.prog 32 Tryz.f32 := fkz Tryz.func32
theorem fok33 : FnOK Tryz.prog 33 Tryz.f33 := fkz Tryz.func33
theorem fok42 : FnOK Tryz.prog 42 Tryz.f42 := fkz Tryz.func42
theorem fok43 : FnOK Tryz.prog 43 Tryz.f43 := fkz Tryz.func43
theorem fok44 : FnOK Tryz.prog 44 Tryz.f44 := fkz Tryz.func44
theorem fok45 : FnOK Tryz.prog 45 Tryz.f45 := fkz Tryz.func45
theorem fok46 : FnOK Tryz.prog 46 Tryz.f46 := fkz Tryz.func46
theorem fok47 : FnOK Tryz.prog 47 Tryz.f47 := fkz Tryz.func47
theorem fok48 : FnOK Tryz.prog 48 Tryz.f48 := fkz Tryz.func48
theorem fok49 : FnOK Tryz.prog 49 Tryz.f49 := fkz Tryz.func49
theorem fok50 : FnOK Tryz.prog 50 Tryz.f50 := fkz Tryz.func50
theorem fok51 : FnOK Tryz.prog 51 Tryz.f51 := fkz Tryz.func51
theorem fok52 : FnOK Tryz.prog 52 Tryz.f52 := fkz Tryz.func52
theorem fok53 : FnOK Tryz.prog 53 Tryz.f53 := fkz Tryz.func53
theorem fok54 : FnOK Tryz.prog 54 Tryz.f54 := fkz Tryz.func54
theorem fok57 : FnOK Tryz.prog 57 Tryz.f57 := fkz Tryz.func57
theorem fok58 : FnOK Tryz.prog 58 Tryz.f58 := fkz Tryz.func58
theorem fok59 : FnOK Tryz.prog 59 Tryz.f59 := fkz Tryz.func59
theorem fok60 : FnOK Tryz.prog 60 Tryz.f60 := fkz Tryz.func60
theorem fok61 : FnOK Tryz.prog 61 Tryz.f61 := fkz Tryz.func61
theorem fok62 : FnOK Tryz.prog 62 Tryz.f62 := fkz Tryz.func62
theorem fok63 : FnOK Tryz.prog 63 Tryz.f63 := fkz Tryz.func63
theorem fok64 : FnOK Tryz.prog 64 Tryz.f64 := fkz Tryz.func64
theorem fok79 : FnOK Tryz.prog 79 Tryz.f79 := fkz Tryz.func79
theorem fok80 : FnOK Tryz.prog 80 Tryz.f80 := fkz Tryz.func80
theorem fok81 : FnOK Tryz.prog 81 Tryz.f81 := fkz Tryz.func81
theorem fok82 : FnOK Tryz.prog 82 Tryz.f82 := fkz Tryz.func82
theorem fok83 : FnOK Tryz.prog 83 Tryz.f83 := fkz Tryz.func83
theorem fok84 : FnOK Tryz.prog 84 Tryz.f84 := fkz Tryz.func84
theorem fok85 : FnOK Tryz.prog 85 Tryz.f85 := fkz Tryz.func85
theorem fok86 : FnOK Tryz.prog 86 Tryz.f86 := fkz Tryz.func86
theorem fok87 : FnOK Tryz.prog 87 Tryz.f87 := fkz Tryz.func87
theorem fok88 : FnOK Tryz.prog 88 Tryz.f88 := fkz Tryz.func88
theorem fok89 : FnOK Tryz.prog 89 Tryz.f89 := fkz Tryz.func89
theorem fok90 : FnOK Tryz.prog 90 Tryz.f90 := fkz Tryz.func90
theorem fok91 : FnOK Tryz.prog 91 Tryz.f91 := fkz Tryz.func91
theorem fok92 : FnOK Tryz.prog 92 Tryz.f92 := fkz Tryz.func92
theorem fok93 : FnOK Tryz.prog 93 Tryz.f93 := fkz Tryz.func93
theorem fok94 : FnOK Tryz.prog 94 Tryz.f94 := fkz Tryz.func94
theorem fok95 : FnOK Tryz.prog 95 Tryz.f95 := fkz Tryz.func95
theorem fok96 : FnOK Tryz.prog 96 Tryz.f96 := fkz Tryz.func96
theorem fok97 : FnOK Tryz.prog 97 Tryz.f97 := fkz Tryz.func97
theorem fok98 : FnOK Tryz.prog 98 Tryz.f98 := fkz Tryz.func98
theorem fok99 : FnOK Tryz.prog 99 Tryz.f99 := fkz Tryz.func99
theorem fok100 : FnOK Tryz.prog 100 Tryz.f100 := fkz Tryz.func100
theorem fok101 : FnOK Tryz.prog 101 Tryz.f101 := fkz Tryz.func101
theorem fok102 : FnOK Tryz.prog 102 Tryz.f102 := fkz Tryz.func102
theorem fok103 : FnOK Tryz.prog 103 Tryz.f103 := fkz Tryz.func103
theorem fok119 : FnOK Tryz.prog 119 Tryz.f119 := fkz Tryz.func119
theorem fok120 : FnOK Tryz.prog 120 Tryz.f120 := fkz Tryz.func120
theorem fok121 : FnOK Tryz.prog 121 Tryz.f121 := fkz Tryz.func121
theorem fok122 : FnOK Tryz.prog 122 Tryz.f122 := fkz Tryz.func122
theorem fok123 : FnOK Tryz.prog 123 Tryz.f123 := fkz Tryz.func123
theorem fok124 : FnOK Tryz.prog 124 Tryz.f124 := fkz Tryz.func124
theorem fok125 : FnOK Tryz.prog 125 Tryz.f125 := fkz Tryz.func125
theorem fok126 : FnOK Tryz.prog 126 Tryz.f126 := fkz Tryz.func126
theorem fok127 : FnOK Tryz.prog 127 Tryz.f127 := fkz Tryz.func127
theorem fok128 : FnOK Tryz.prog 128 Tryz.f128 := fkz Tryz.func128
theorem fok129 : FnOK Tryz.prog 129 Tryz.f129 := fkz Tryz.func129
theorem fok130 : FnOK Tryz.prog 130 Tryz.f130 := fkz Tryz.func130
theorem fok131 : FnOK Tryz.prog 131 Tryz.f131 := fkz Tryz.func131
theorem fok132 : FnOK Tryz.prog 132 Tryz.f132 := fkz Tryz.func132
theorem fok133 : FnOK Tryz.prog 133 Tryz.f133 := fkz Tryz.func133
theorem fok141 : FnOK Tryz.prog 141 Tryz.f141 := fkz Tryz.func141
theorem fok142 : FnOK Tryz.prog 142 Tryz.f142 := fkz Tryz.func142
theorem fok143 : FnOK Tryz.prog 143 Tryz.f143 := fkz Tryz.func143
theorem fok144 : FnOK Tryz.prog 144 Tryz.f144 := fkz Tryz.func144
theorem fok145 : FnOK Tryz.prog 145 Tryz.f145 := fkz Tryz.func145
theorem fok146 : FnOK Tryz.prog 146 Tryz.f146 := fkz Tryz.func146
theorem fok148 : FnOK Tryz.prog 148 Tryz.f148 := fkz Tryz.func148
theorem fok149 : FnOK Tryz.prog 149 Tryz.f149 := fkz Tryz.func149
theorem fok150 : FnOK Tryz.prog 150 Tryz.f150 := fkz Tryz.func150
theorem fok151 : FnOK Tryz.prog 151 Tryz.f151 := fkz Tryz.func151
theorem fok152 : FnOK Tryz.prog 152 Tryz.f152 := fkz Tryz.func152
theorem fok153 : FnOK Tryz.prog 153 Tryz.f153 := fkz Tryz.func153
theorem fok154 : FnOK Tryz.prog 154 Tryz.f154 := fkz Tryz.func154
theorem fok155 : FnOK Tryz.prog 155 Tryz.f155 := fkz Tryz.func155
theorem fok160 : FnOK Tryz.prog 160 Tryz.f160 := fkz Tryz.func160
theorem fok161 : FnOK Tryz.prog 161 Tryz.f161 := fkz Tryz.func161
theorem fok162 : FnOK Tryz.prog 162 Tryz.f162 := fkz Tryz.func162
theorem fok163 : FnOK Tryz.prog 163 Tryz.f163 := fkz Tryz.func163
theorem fok164 : FnOK Tryz.prog 164 Tryz.f164 := fkz Tryz.func164
theorem fok165 : FnOK Tryz.prog 165 Tryz.f165 := fkz Tryz.func165
theorem fok166 : FnOK Tryz.prog 166 Tryz.f166 := fkz Tryz.func166
theorem fok167 : FnOK Tryz.prog 167 Tryz.f167 := fkz Tryz.func167
theorem fok172 : FnOK Tryz.prog 172 Tryz.f172 := fkz Tryz.func172
theorem fok173 : FnOK Tryz.prog 173 Tryz.f173 := fkz Tryz.func173
theorem tyAll : Tr.All (fun t i => TyOK Tryz.prog t i) (fun k => k) tyT := (.skip (.here tok1 (.here tok3 (.here tok7 (.skip (.here tok31 .nil (.here tok95 .nil (.here tok223 .nil .nil))) (.skip (.here tok79 (.here tok143 .nil .nil) (.here tok207 .nil .nil)) (.here tok111 .nil .nil))) (.skip (.skip (.skip .nil (.here tok199 .nil .nil)) (.here tok103 .nil .nil)) (.skip (.skip (.here tok151 .nil .nil) .nil) (.skip (.here tok183 .nil .nil) (.here tok247 .nil .nil))))) (.here tok11 (.skip (.skip .nil (.skip .nil (.here tok227 .nil .nil))) (.here tok51 (.here tok83 .nil .nil) .nil)) (.skip (.skip (.here tok75 .nil .nil) (.here tok107 .nil .nil)) (.skip (.skip (.here tok155 .nil .nil) .nil) .nil)))) (.here tok5 (.here tok9 (.here tok17 (.here tok33 .nil (.skip (.here tok161 .nil .nil) .nil)) .nil) (.here tok25 (.here tok41 (.skip .nil (.here tok201 .nil .nil)) .nil) (.here tok57 (.skip .nil (.here tok217 .nil .nil)) (.skip .nil (.here tok249 .nil .nil))))) (.skip (.skip (.here tok37 (.skip (.here tok133 .nil .nil) .nil) (.here tok101 .nil .nil)) (.here tok53 (.skip (.here tok149 .nil .nil) (.here tok213 .nil .nil)) (.skip .nil (.here tok245 .nil .nil)))) (.here tok29 (.skip (.here tok77 .nil .nil) .nil) (.skip (.skip (.here tok157 .nil .nil) .nil) .nil))))) (.here tok2 (.here tok4 (.here tok8 (.skip (.here tok32 (.skip (.here tok128 .nil .nil) .nil) .nil) (.skip (.skip (.here tok144 .nil .nil) (.here tok208 .nil .nil)) .nil)) (.here tok24 (.skip (.here tok72 .nil .nil) .nil) (.skip (.here tok88 .nil (.here tok216 .nil .nil)) (.skip .nil (.here tok248 .nil .nil))))) (.here tok12 (.here tok20 (.skip .nil (.here tok100 .nil .nil)) (.here tok52 (.skip (.here tok148 .nil .nil) .nil) (.skip .nil (.here tok244 .nil .nil)))) (.here tok28 .nil (.skip (.here tok92 .nil .nil) (.skip (.here tok188 .nil .nil) .nil))))) (.here tok6 (.skip (.skip (.skip (.here tok66 .nil .nil) (.skip (.here tok162 .nil .nil) (.here tok226 .nil .nil))) (.skip (.here tok82 (.here tok146 .nil .nil) .nil) .nil)) (.here tok26 (.skip (.skip .nil (.here tok202 .nil .nil)) (.here tok106 .nil .nil)) (.skip .nil (.skip (.here tok186 .nil .nil) .nil)))) (.skip (.here tok22 (.here tok38 (.here tok70 .nil .nil) (.here tok102 .nil .nil)) (.skip (.here tok86 (.here tok150 .nil .nil) (.here tok214 .nil .nil)) (.skip .nil (.here tok246 .nil .nil)))) (.here tok30 (.skip .nil (.here tok110 .nil .nil)) (.skip .nil (.here tok126 .nil .nil)))))))
theorem fnAll : Tr.All (fun f fn => FnOK Tryz.prog f fn) (fun k => k) fnT := (.skip (.skip (.skip (.here fok7 (.skip (.here fok31 (.here fok63 (.here fok127 .nil .nil) .nil) (.here fok95 .nil .nil)) (.here fok47 (.here fok79 (.here fok143 .nil .nil) .nil) .nil)) (.here fok23 (.skip .nil (.here fok103 (.here fok167 .nil .nil) .nil)) (.skip (.here fok87 (.here fok151 .nil .nil) .nil) (.here fok119 .nil .nil)))) (.here fok11 (.here fok19 (.skip (.skip (.here fok131 .nil .nil) .nil) (.here fok99 (.here fok163 .nil .nil) .nil)) (.here fok51 (.here fok83 .nil .nil) .nil)) (.skip (.here fok43 .nil .nil) (.here fok59 (.here fok91 (.here fok155 .nil .nil) .nil) (.here fok123 .nil .nil))))) (.skip (.skip (.skip (.here fok33 (.skip (.here fok129 .nil .nil) .nil) (.here fok97 (.here fok161 .nil .nil) .nil)) (.here fok49 (.here fok81 (.here fok145 .nil .nil) .nil) .nil)) (.here fok25 .nil (.here fok57 (.here fok89 (.here fok153 .nil .nil) .nil) (.here fok121 .nil .nil)))) (.skip (.here fok21 (.skip (.skip (.here fok133 .nil .nil) .nil) (.here fok101 (.here fok165 .nil .nil) .nil)) (.here fok53 (.here fok85 (.here fok149 .nil .nil) .nil) .nil)) (.here fok29 (.here fok45 (.skip (.here fok141 .nil .nil) .nil) (.skip (.here fok173 .nil .nil) .nil)) (.here fok61 (.here fok93 .nil .nil) (.here fok125 .nil .nil)))))) (.skip (.here fok4 (.here fok8 (.skip (.here fok32 (.here fok64 (.here fok128 .nil .nil) .nil) (.here fok96 (.here fok160 .nil .nil) .nil)) (.here fok48 (.here fok80 (.here fok144 .nil .nil) .nil) .nil)) (.here fok24 .nil (.skip (.here fok88 (.here fok152 .nil .nil) .nil) (.here fok120 .nil .nil)))) (.skip (.here fok20 (.skip (.skip (.here fok132 .nil .nil) .nil) (.here fok100 (.here fok164 .nil .nil) .nil)) (.here fok52 (.here fok84 (.here fok148 .nil .nil) .nil) .nil)) (.here fok28 (.here fok44 .nil (.skip (.here fok172 .nil .nil) .nil)) (.here fok60 (.here fok92 .nil .nil) (.here fok124 .nil .nil))))) (.skip (.skip (.skip (.skip (.skip (.here fok130 .nil .nil) .nil) (.here fok98 (.here fok162 .nil .nil) .nil)) (.here fok50 (.here fok82 (.here fok146 .nil .nil) .nil) .nil)) (.skip (.here fok42 .nil .nil) (.here fok58 (.here fok90 (.here fok154 .nil .nil) .nil) (.here fok122 .nil .nil)))) (.skip (.here fok22 (.skip .nil (.here fok102 (.here fok166 .nil .nil) .nil)) (.here fok54 (.here fok86 (.here fok150 .nil .nil) .nil) .nil)) (.here fok30 (.here fok46 (.skip (.here fok142 .nil .nil) .nil) .nil) (.here fok62 (.here fok94 .nil .nil) (.here fok126 .nil .nil)))))))
theorem xok56 : ExtOK Tryz.prog 56 add64V := add64_ok (run_callFunc_extern Tryz.func56 (by kernel_rfl) (by kernel_rfl) (by kernel_rfl) (e := add64Entry) (by kernel_rfl))
theorem extAll : Tr.All (fun f e => ExtOK Tryz.prog f e) (fun k => k) extT := (.skip .nil (.skip (.skip (.skip .nil (.skip .nil (.here xok56 .nil .nil))) .nil) .nil))
theorem mtAll : Tr.All (fun t l => MtOK Tryz.prog t l) (fun k => k) mtT := .nil
theorem mpAll : Tr.All (fun t p => Tryz.prog.underlying t = some (.map p.1 p.2)) (fun k => k) mpT := .nil
theorem cfgOK : CfgOK Tryz.prog cfg := ⟨fun t i h => tyAll.at_ h, fun f e h => extAll.at_ h, fun t k e h => mpAll.at_ h, mtOf_ok fun t l h => mtAll.at_ h⟩
theorem fnsOK : FnsOK Tryz.prog cfg := fnsOK_of fun f fn h => fnAll.at_ h
theorem mixed : Tryz.prog.follows .mixedOrders = true := by kernel_rfl
end
end
end Go.Proofs.YtbgnnnhhdggaoaaGreatDoor

/-
  SHA-256 of the program, block by block: what it reckons.
-/
import Derived.Test.YtmlemnbhjbaedaaGreatDoorCfg
import Derived.Test.YtmlemnbhjbaedaaGreatDoorWLib
namespace Go.Proofs.YtmlemnbhjbaedaaGreatDoor
open Go.RowKit
set_option linter.unusedSimpArgs false
set_option linter.unusedVariables false
/-! ### words -/
noncomputable def rotN (x n : Nat) : Nat := Nat.lor (Nat.shiftLeft x (32 - n) % 4294967296 % 4294967296) (Nat.shiftRight x n % 4294967296)
noncomputable def addN (a b : Nat) : Nat := (a + b) % 4294967296
noncomputable def xorN (a b : Nat) : Nat := Nat.xor (a % 4294967296) (b % 4294967296)
noncomputable def andN (a b : Nat) : Nat := Nat.land (a % 4294967296) (b % 4294967296)
noncomputable def shrN (a k : Nat) : Nat := Nat.shiftRight a (min k 32)
noncomputable def shlN (a k : Nat) : Nat := Nat.shiftLeft a (min k 32) % 4294967296
noncomputable def orN (a b : Nat) : Nat := Nat.lor (a % 4294967296) (b % 4294967296)
noncomputable def notN (a : Nat) : Nat := Nat.xor (4294967295 % 4294967296) (a % 4294967296)
noncomputable def wd (x : Nat) : W := .int .u32 (.ofNat x)
theorem turned_s (n : Nat) (hn : n = 2 ∨ n = 6 ∨ n = 7 ∨ n = 11 ∨ n = 13 ∨ n = 17 ∨ n = 18 ∨ n = 19 ∨ n = 22 ∨ n = 25) (G : Nat → Option W) (x : Nat) : PSpec cfg G 339 0 [wd x, .int .i64 (.ofNat n)] [] fun w hp nw => w = wd (rotN x n) ∧ hp = [] ∧ nw = 0 := by
  have key : ∀ h, runFn cfg 20 339 [.int .u32 (.ofNat x), .int .i64 (.ofNat n)] h = some (.int .u32 (.ofNat (rotN x n)), h) := by
    intro h
    rcases hn with rfl | rfl | rfl | rfl | rfl | rfl | rfl | rfl | rfl | rfl <;> kernel_rfl
  refine spec_run key (fun Γ us h => ?_) (fun Γ => RV_int.2 rfl)
  obtain ⟨v, vs, rfl, h1, h2⟩ := RVL_cons.1 h
  obtain ⟨v', vs', rfl, h3, h4⟩ := RVL_cons.1 h2
  rw [RVL_nil.1 h4, RV_int.1 h1, RV_int.1 h3]
end Go.Proofs.YtmlemnbhjbaedaaGreatDoor

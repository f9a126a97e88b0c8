import Derived.Test.YtmlemnbhjbaedaaGreatDoorRow
import Derived.Stop.BytesEq
import Derived.IntWalk
namespace Go.Proofs.YtmlemnbhjbaedaaGreatDoor
open Go.RowKit
set_option linter.unusedSimpArgs false
set_option linter.unusedVariables false
abbrev Dig := { l : List UInt8 // l.length = 32 }
/-- a digest's cells -/
@[irreducible] def dv (k : Dig) : Array Value := (k.1.map Extern.Stop.cell).toArray
/-- a digest's byte -/
@[irreducible] def kn (k : Dig) (i : Nat) : Nat := (k.1[i]?.getD 0).toNat
@[simp, go_sem] theorem dv_size (k : Dig) : (dv k).size = 32 := by simp [dv, k.2]
@[simp, go_sem] theorem dv_ext (k : Dig) : (dv k).extract 0 32 = dv k := by
  have := dv_size k
  rw [← this]; simp
theorem dv_get (k : Dig) {i : Nat} (hi : i < 32) : (dv k)[i]? = some (.int .u8 (kn k i)) := by
  have : i < k.1.length := by rw [k.2]; omega
  simp [dv, kn, this, Extern.Stop.cell]
theorem kn_le (k : Dig) (i : Nat) : kn k i ≤ 255 := by have := (k.1[i]?.getD 0).toNat_lt; unfold kn; omega
@[simp, go_sem] theorem dv_plain (k : Dig) : plain (dv k) = true := by
  simp [plain, dv, Extern.Stop.cell]
  intros; rfl
theorem dv_inj {a b : Dig} : dv a = dv b ↔ a = b := by
  constructor
  · intro h
    apply Subtype.ext
    have h1 : a.1.map Extern.Stop.cell = b.1.map Extern.Stop.cell := by simpa [dv] using h
    refine List.map_inj_right (f := Extern.Stop.cell) ?_ |>.1 h1
    intro x y hxy
    simp only [Extern.Stop.cell, Value.int.injEq, true_and] at hxy
    exact UInt8.toNat_inj.1 (Int.ofNat.inj hxy)
  · rintro rfl; rfl
@[irreducible] def setD (k : Dig) (i : Nat) (b : UInt8) : Dig := ⟨k.1.set i b, by simp [k.2]⟩
theorem dv_set (k : Dig) (i : Nat) (x : Int) (h0 : 0 ≤ x) (h1 : x ≤ 255) : (dv k).setIfInBounds i (.int .u8 x) = dv (setD k i (UInt8.ofNat x.toNat)) := by
  have : (UInt8.ofNat x.toNat).toNat = x.toNat := by simp; omega
  have hc : Extern.Stop.cell (UInt8.ofNat x.toNat) = .int .u8 x := by simp only [Extern.Stop.cell, this]; congr 1; simp only [Int.ofNat_eq_natCast]; omega
  simp [dv, setD, List.map_set, hc]
theorem dig_ext {a b : Dig} (h : ∀ i, i < 32 → kn a i = kn b i) : a = b := by
  apply Subtype.ext
  apply List.ext_getElem (by rw [a.2, b.2])
  intro i h1 h2
  have := h i (by rw [a.2] at h1; exact h1)
  simp only [kn, List.getElem?_eq_getElem h1, List.getElem?_eq_getElem h2, Option.getD_some] at this
  exact UInt8.toNat_inj.1 this
theorem kn_set (k : Dig) (i j : Nat) (b : UInt8) (hj : j < 32) : kn (setD k i b) j = if i = j then b.toNat else kn k j := by
  have : j < k.1.length := by rw [k.2]; omega
  unfold kn setD
  simp only [List.getElem?_set]
  split <;> simp_all
@[irreducible] def zeroD : Dig := ⟨List.replicate 32 0, by simp⟩
theorem eql_dig {P : Program} {t e : TypeId} (ht : P.underlying t = some (.array 32 e)) (he : P.underlying e = some (.int .u8)) (hsz : ∀ w, (sizeOf e).run P w = .ok 1 w) (a b : Dig) (w : World) :
    (Op.equalIn 10000 t (.agg (dv a)) (.agg (dv b))).run P w = .ok (decide (a = b)) w := by
  rw [dv, dv, show (10000 : Nat) = 9998 + 2 from rfl, run_equalIn_bytes w 9998 t e 32 ht he hsz a.1 b.1 a.2 b.2]
  congr 1
  rw [Bool.eq_iff_iff]; simp [Subtype.ext_iff]
end Go.Proofs.YtmlemnbhjbaedaaGreatDoor

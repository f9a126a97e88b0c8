/-
  What an argument of a statement is, opened: a digest. Nothing here speaks of a program.
-/
import Derived.Test.YtnlhkpdclnhneaaDig
import Derived.OpenShut
import Derived.ShutString
import Derived.ChangeOld
import Derived.ChangeArms
namespace Go.Proofs.Ytnlhkpdclnhneaa
open Go.RowKit Go.ChangeShapes Go.WideShapes
def digOf (cs : List Value) (h : cs.length = 32) : Dig := ⟨cs.map (fun v => match v with | .int _ n => UInt8.ofNat n.toNat | _ => 0), by simp [h]⟩
theorem open_dig {H : Type} {enc : TypeId × Value → H} {P : Program} {w w2 : World} {b b2 : Nat} {sp : Nat → Bool} {held : Bool} {r : Reach} {t e : TypeId} {v : Value} {d : DataW H} {p : List MemPlace}
    (ht : P.underlying t = some (.array 32 e)) (he : P.underlying e = some (.int .u8)) (hc : P.cellsOf e = 1) (ht' : P.cellsOf t = 32)
    (hv : Value.okWide P w r b t v) (hd : DataW.Trod enc P w2 b2 sp held t v d p) : ∃ k : Dig, v = .agg (dv k) := by
  simp only [Value.okWide, ht] at hv
  obtain ⟨cs, rfl, hs, -⟩ := hv
  obtain ⟨fuel, hf⟩ := hd
  obtain ⟨xs, m, -, -, -, hxl, hx⟩ := DataW.trod_array ht hf
  have hlen : cs.toList.length = 32 := by rw [Array.length_toList, hs, ht']
  refine ⟨digOf cs.toList hlen, ?_⟩
  congr 1
  apply Array.ext
  · rw [dv_size, hs, ht']
  · intro i h1 h2
    have hi : i < 32 := by rw [dv_size] at h2; exact h2
    have h3 := hx i hi
    rw [hc, Nat.mul_one] at h3
    rw [List.getElem?_eq_getElem (by omega)] at h3
    obtain ⟨n, h4, -, hwf⟩ := DataW.trod_int he h3
    have hb : 0 ≤ n ∧ n ≤ 255 := by
      simp [Lit.wf, IntKind.min, IntKind.max, IntKind.signed, IntKind.bits] at hwf
      omega
    have h5 : cs.toList[i]? = some (.int .u8 n) := by
      have h6 := congrArg List.head? h4
      simpa [Value.cells, List.head?_take, List.head?_drop] using h6
    have h7 : cs[i] = .int .u8 n := by
      have : i < cs.toList.length := by omega
      rw [List.getElem?_eq_getElem this] at h5
      simpa using h5
    have h8 := dv_get (digOf cs.toList hlen) hi
    rw [Array.getElem?_eq_getElem h2] at h8
    simp only [Option.some.injEq] at h8
    rw [h7, h8]
    congr 1
    simp only [kn, digOf, List.getElem?_map, h5, Option.map_some, Option.getD_some]
    have : (UInt8.ofNat n.toNat).toNat = n.toNat := by simp; omega
    rw [this]; omega
end Go.Proofs.Ytnlhkpdclnhneaa

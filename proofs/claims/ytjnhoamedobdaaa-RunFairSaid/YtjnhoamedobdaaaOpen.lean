/-
  What an argument of a statement is, opened: a digest. Nothing here speaks of a program.
-/
import Derived.Test.YtjnhoamedobdaaaDig
import Derived.OpenShut
import Derived.ShutString
import Derived.ChangeOld
import Derived.ChangeArms
namespace Go.Proofs.Ytjnhoamedobdaaa
open Go.RowKit Go.ChangeShapes Go.WideShapes
def digOf (cs : List Value) (h : cs.length = 32) : Dig := ⟨cs.map (fun v => match v with | .int _ n => UInt8.ofNat n.toNat | _ => 0), by simp [h]⟩
theorem open_dig {H : Type} {enc : TypeId × Value → H} {P : Program} {w w2 : World} {b b2 : Nat} {sp : Nat → Bool} {held : Bool} {r : Reach} {t e : TypeId} {v : Value} {d : DataW H} {p : List MemPlace}
    (ht : P.underlying t = some (.array 32 e)) (he : P.underlying e = some (.int .u8)) (hc : P.cellsOf e = 1) (ht' : P.cellsOf t = 32)
    (hv : Value.okWide P w r b t v) (hd : DataW.Trod enc P w2 b2 sp held t v d p) : ∃ k : Dig, v = .agg (dv k) := by
  simp only [Value.okWide, ht] at hv
  obtain ⟨cs, rfl, hs, -⟩ := hv
  obtain ⟨fuel, hf⟩ := hd
  obtain ⟨xs, m, -, -, -, hxl, hx⟩ := DataW.trod_array ht hf
  have hlen : cs.toList.length = 32 := by rw [Array.length_toList, hs, ht']
  refine ⟨digOf cs.toList hlen, ?_⟩
  congr 1
  apply Array.ext
  · rw [dv_size, hs, ht']
  · intro i h1 h2
    have hi : i < 32 := by rw [dv_size] at h2; exact h2
    have h3 := hx i hi
    rw [hc, Nat.mul_one] at h3
    rw [List.getElem?_eq_getElem (by omega)] at h3
    obtain ⟨n, h4, -, hwf⟩ := DataW.trod_int he h3
    have hb : 0 ≤ n ∧ n ≤ 255 := by
      simp [Lit.wf, IntKind.min, IntKind.max, IntKind.signed, IntKind.bits] at hwf
      omega
    have h5 : cs.toList[i]? = some (.int .u8 n) := by
      have h6 := congrArg List.head? h4
      simpa [Value.cells, List.head?_take, List.head?_drop] using h6
    have h7 : cs[i] = .int .u8 n := by
      have : i < cs.toList.length := by omega
      rw [List.getElem?_eq_getElem this] at h5
      simpa using h5
    have h8 := dv_get (digOf cs.toList hlen) hi
    rw [Array.getElem?_eq_getElem h2] at h8
    simp only [Option.some.injEq] at h8
    rw [h7, h8]
    congr 1
    simp only [kn, digOf, List.getElem?_map, h5, Option.map_some, Option.getD_some]
    have : (UInt8.ofNat n.toNat).toNat = n.toNat := by simp; omega
    rw [this]; omega
theorem open_sl {H : Type} {enc : TypeId × Value → H} {P : Program} {w : World} {t e : TypeId} {k : IntKind} {ad : Option Addr} {len cap : Nat} {d : DataW H} {p : List MemPlace}
    (ht : P.underlying t = some (.slice e)) (he : P.underlying e = some (.int k)) (hc : P.cellsOf e = 1) (hd : DataW.Trod enc P w 0 (fun _ => true) true t (.slice ad len cap) d p) :
    ∃ zs : List Int, len = zs.length ∧ len ≤ maxLen ∧ (∀ n ∈ zs, (Lit.int k n).wf = true) ∧
      ((∃ ad' cap', (Value.slice ad len cap) = .slice ad' 0 cap' ∧ zs = []) ∨ ∃ b off cap', (Value.slice ad len cap) = .slice (some ⟨b, off, none⟩) zs.length cap' ∧ zs.length ≤ cap' ∧ b < w.heap.size ∧ ∀ i n, zs[i]? = some n → w.cell? ⟨b, off + i, none⟩ = some (.int k n)) := by
  obtain ⟨fuel, hf⟩ := hd
  rcases open_ints ht he hc hf with ⟨hcs, _⟩ | ⟨x, l, c, zs, hcs, _, hl, hm, hz, _, hcell, hwz⟩
  · simp [Value.cells] at hcs
    obtain ⟨rfl, rfl, rfl⟩ := hcs
    exact ⟨[], rfl, by simp, by simp, .inl ⟨_, _, rfl, rfl⟩⟩
  · simp [Value.cells] at hcs
    obtain ⟨rfl, rfl, rfl⟩ := hcs
    have hz : zs.length = cap := by simpa using hz
    refine ⟨zs.take len, by simp; omega, by omega, fun n hn => hwz n (List.mem_of_mem_take hn), ?_⟩
    by_cases h0 : len = 0
    · subst h0; exact .inl ⟨_, _, rfl, by simp⟩
    · obtain ⟨b, off, rfl, hat⟩ := ints_at hcell (by omega)
      refine .inr ⟨b, off, cap, by simp; omega, by simp; omega, ?_, ?_⟩
      · have h1 := hat 0 (by omega)
        unfold World.cell? at h1
        rcases Nat.lt_or_ge b w.heap.size with h | h
        · exact h
        · simp [Array.getElem?_eq_none h] at h1
      · intro i n hn
        have hi : i < zs.length := by
          have := (List.getElem?_eq_some_iff.1 hn).1
          simp at this; omega
        rw [hat i hi]
        rw [List.getElem?_take] at hn
        split at hn
        · congr 1; simp [List.getD, hn]
        · cases hn
end Go.Proofs.Ytjnhoamedobdaaa

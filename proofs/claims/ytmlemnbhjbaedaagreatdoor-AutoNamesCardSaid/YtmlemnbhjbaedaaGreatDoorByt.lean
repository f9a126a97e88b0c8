/-
  The engine's laws for slices that lie in a world that is remembered: rows of cells, bytes; what is made; parts of slices. Nothing here speaks of a program.
-/
import Derived.Test.YtmlemnbhjbaedaaGreatDoorSeq
import Derived.Laws.MakeOwn
import Derived.Laws.StructEq
import Derived.Laws.BytesArg
import Derived.Laws.IdiomStrings
namespace Go.Proofs.YtmlemnbhjbaedaaGreatDoor
open Go.RowKit
set_option linter.unusedSimpArgs false
set_option linter.unusedVariables false

/-- a slice of n elements of k cells that lies in a world, in a block from lo on -/
def SlAt (k : Nat) (s : World) (lo : Nat) (ad : Option Addr) (n cap : Nat) (cs : List Value) : Prop :=
  cs.length = n * k ∧ n ≤ cap ∧ cap ≤ maxLen ∧ (ad = none → cap = 0) ∧ (cs ≠ [] → ∃ b off, ad = some ⟨b, off, none⟩ ∧ lo ≤ b ∧ b < s.heap.size ∧ ∀ i v, cs[i]? = some v → s.cell? ⟨b, off + i, none⟩ = some v)
def bcell (x : UInt8) : Value := .int .u8 x.toNat
def bcs (l : List UInt8) : List Value := l.map bcell
@[simp] theorem bcs_length (l : List UInt8) : (bcs l).length = l.length := by simp [bcs]
theorem bcs_get (l : List UInt8) (i : Nat) : (bcs l)[i]? = l[i]?.map bcell := by simp [bcs]
theorem bcs_append (a b : List UInt8) : bcs (a ++ b) = bcs a ++ bcs b := by simp [bcs]
theorem bcs_take (l : List UInt8) (n : Nat) : bcs (l.take n) = (bcs l).take n := by simp [bcs, List.map_take]
theorem bcs_drop (l : List UInt8) (n : Nat) : bcs (l.drop n) = (bcs l).drop n := by simp [bcs, List.map_drop]
theorem bcs_one (l : List UInt8) : ∀ u ∈ bcs l, u.oneCell' = true := by
  intro u hu
  obtain ⟨x, _, rfl⟩ := List.mem_map.1 hu
  rfl
/-- bytes that lie in a world -/
abbrev BsAt (s : World) (lo : Nat) (ad : Option Addr) (cap : Nat) (l : List UInt8) : Prop := SlAt 1 s lo ad l.length cap (bcs l)

theorem SlAt.nil (k : Nat) (s : World) (lo : Nat) : SlAt k s lo none 0 0 [] := ⟨by simp, by simp, by simp, fun _ => rfl, fun h => absurd rfl h⟩
theorem SlAt.get {k : Nat} {s : World} {lo : Nat} {ad : Option Addr} {n cap : Nat} {cs : List Value} (h : SlAt k s lo ad n cap cs) (hn : cs ≠ []) :
    ∃ b off, ad = some ⟨b, off, none⟩ ∧ lo ≤ b ∧ b < s.heap.size ∧ ∀ i v, cs[i]? = some v → s.cell? ⟨b, off + i, none⟩ = some v := h.2.2.2.2 hn
theorem cell_lt {s : World} {b off : Nat} {v : Value} (h : s.cell? ⟨b, off, none⟩ = some v) : b < s.heap.size := by
  unfold World.cell? at h
  rcases Nat.lt_or_ge b s.heap.size with h1 | h1
  · exact h1
  · simp [Array.getElem?_eq_none h1] at h
/-- it lies there still -/
theorem SlAt.to {k : Nat} {s w : World} {lo lo' : Nat} {ad : Option Addr} {n cap : Nat} {cs : List Value} (h : SlAt k s lo ad n cap cs) (hk : ∀ b, lo ≤ b → b < s.heap.size → w.heap[b]? = s.heap[b]?) (hs : s.heap.size ≤ w.heap.size) (hl : lo' ≤ lo) : SlAt k w lo' ad n cap cs := by
  refine ⟨h.1, h.2.1, h.2.2.1, h.2.2.2.1, fun hn => ?_⟩
  obtain ⟨b, off, h1, h2, h3, h4⟩ := h.get hn
  exact ⟨b, off, h1, by omega, by omega, fun i v hv => by rw [← h4 i v hv]; exact World.cell?_of_block (hk b h2 h3)⟩
theorem SlAt.kn {k : Nat} {s w : World} {lo : Nat} {ad : Option Addr} {n cap : Nat} {cs : List Value} {H : Hp} {S : List World} (h : SlAt k s lo ad n cap cs) (hw : Kn w H S) (hs : s ∈ S) (hk : ∀ q ∈ keysOf H, q < lo ∨ s.heap.size ≤ q) : SlAt k w lo ad n cap cs :=
  h.to (fun b h1 h2 => hw.old hs h2 fun hm => by rcases hk b hm with h3 | h3 <;> omega) (hw.keep s hs).size (Nat.le_refl _)
theorem SlAt.below {k : Nat} {s w : World} {lo : Nat} {ad : Option Addr} {n cap : Nat} {cs : List Value} (h : SlAt k s lo ad n cap cs) (hb : Below s.heap.size s w) : SlAt k w lo ad n cap cs :=
  h.to (fun b _ h2 => hb.block b h2) hb.size (Nat.le_refl _)
theorem SlAt.src {P : Program} {k : Nat} {w : World} {lo : Nat} {ad : Option Addr} {n cap : Nat} {cs : List Value} {tx e' : TypeId} (h : SlAt k w lo ad n cap cs) (hk : P.underlying tx = some (.slice e')) (h1 : ∀ u ∈ cs, u.oneCell' = true) :
    Src P k tx (.slice ad n cap) n cs w := by
  by_cases hn : cs = []
  · subst hn
    have hl : n * k = 0 := by simpa using h.1.symm
    refine ⟨.inl ⟨e', hk⟩, fun _ => rfl, ?_, ?_, by simp [hl], fun _ h => by cases h⟩
    · match ad with
      | none => exact run_firstCells_none _ _ _ _ _
      | some a => exact run_firstCells_some w k n a n cap [] (by simp [hl]) (by simp)
    · match ad with
      | none => exact run_firstCells_none _ _ _ _ _
      | some a => exact run_firstCells_some w.drew k n a n cap [] (by simp [hl]) (by simp)
  · obtain ⟨b, off, rfl, _, _, h4⟩ := h.get hn
    exact Src.ofSlice w hk ⟨b, off, none⟩ n cap cs h.1 (fun j u hu => by rw [addr_add]; exact h4 j u hu) h1
/-- a slice of one's own, seen as one that lies there -/
theorem own_sl {k lo n : Nat} {xs : List Value} {o : Own} {T : TypeId} {w : World} (h : OwnIs k lo n xs o) (hw : ∀ p ∈ o.hp T, w.heap[p.1]? = some p.2) : ∃ ad cap, o.v n = .slice ad n cap ∧ SlAt k w lo ad n cap xs := by
  match o, h with
  | none, ⟨h1, h2⟩ => subst h1; subst h2; exact ⟨none, 0, rfl, SlAt.nil _ _ _⟩
  | some (b, off, cap, cs), ho =>
    have hlen := own_len ho
    have hb : w.heap[b]? = some (.cells cs T) := hw (b, .cells cs T) (by simp [Own.hp])
    refine ⟨some ⟨b, off, none⟩, cap, rfl, hlen, ho.2.1, ho.2.2.1, (by simp), fun _ => ⟨b, off, rfl, ho.1, (Array.getElem?_eq_some_iff.1 hb).1, fun i v hv => ?_⟩⟩
    have := own_cell ho hv
    simp [World.cell?, hb, this]

section
variable {P : Program} {fr : Fr} {H : Hp} {S : List World} {dst : Option Tmp} {ty : TypeId} {pos : String} {aft : Array Edge} {g : Option (Nat × Bool)} {x y z : Operand}
/-- what is made: zeros -/
theorem al_makeSlice {t e : TypeId} {n k by_ : Nat} {kx ky : IntKind} {c : Value} (hu : P.underlying t = some (.slice e)) (hs : (P.info? e).map (·.size) = some k) (hb : (P.info? e).map (·.bytes) = some by_) (hz : (P.info? e).bind (·.zero) = some c)
    (hx : ev fr x = some (.int kx (n : Int))) (hy : ev fr y = some (.int ky (n : Int))) (hn : by_ * n ≤ 281474976710656) (hn2 : n ≤ 9223372036854775807) :
    AL P ⟨dst, .makeSlice t x y, ty, pos, aft, g⟩ fr H S (fun b => .slice (some ⟨b, 0, none⟩) n n) (.cells (madeCells c.cells (n * k)) e) := fun _ _ a w ha hw => by
  obtain ⟨i, hi⟩ : ∃ i, P.info? e = some i := by
    cases hi : P.info? e with
    | none => rw [hi] at hs; cases hs
    | some i => exact ⟨i, rfl⟩
  have hsi : i.size = k := by simpa [hi] using hs
  have hbi : i.bytes = by_ := by simpa [hi] using hb
  have hzi : i.zero = some c := by simpa [hi] using hz
  subst hsi hbi
  have hmul : ((i.bytes : Int) * (n : Int)) ≤ 281474976710656 := by
    have : ((i.bytes * n : Nat) : Int) ≤ 281474976710656 := by omega
    rwa [Int.natCast_mul] at this
  have key := run_make (P := P) w t e i c hu hi hzi kx ky (n : Int) (n : Int) (by omega) (by omega) hmul (by omega)
  simp only [Int.toNat_natCast] at key
  exact ⟨w.alloc (.cells (madeCells c.cells (n * i.size)) e), .inl (by simp [execOp, ha.ev hx, ha.ev hy, key]), hw.alloc _⟩
end
/-- where a part of a slice begins -/
@[irreducible] def cutA (ad : Option Addr) (cap l k : Nat) : Option Addr := if cap = l then ad else ad.map (·.add (l * k))
theorem SlAt.cut {k : Nat} {s : World} {lo : Nat} {ad : Option Addr} {n cap : Nat} {cs : List Value} (h : SlAt k s lo ad n cap cs) {l m c : Nat} (hl : l ≤ m) (hm : m ≤ n) (hc : m ≤ c) (hc2 : c ≤ cap) :
    SlAt k s lo (cutA ad c l k) (m - l) (c - l) ((cs.drop (l * k)).take ((m - l) * k)) := by
  obtain ⟨h1, h2, h3, h4, h5⟩ := h
  have e1 := Nat.mul_le_mul_right k hm
  have e2 : (m - l) * k = m * k - l * k := Nat.sub_mul _ _ _
  have e3 := Nat.mul_le_mul_right k hl
  refine ⟨by simp; omega, by omega, by omega, fun ha => ?_, fun hne => ?_⟩
  · unfold cutA at ha
    split at ha
    · omega
    · have := h4 (by simpa using ha); omega
  · have hcs : cs ≠ [] := fun e => hne (by simp [e])
    obtain ⟨b, off, rfl, h6, h7, h8⟩ := h5 hcs
    have hlm : l ≠ m := fun e => hne (by subst e; simp)
    refine ⟨b, off + l * k, by unfold cutA; rw [if_neg (by omega)]; simp [addr_add], h6, h7, fun i v hv => ?_⟩
    rw [List.getElem?_take] at hv
    split at hv
    · rw [List.getElem?_drop] at hv
      rw [Nat.add_assoc]; exact h8 _ _ hv
    · cases hv
def Own.cut (k l : Nat) : Own → Own
  | none => none
  | some (b, off, cap, cs) => if cap = l then some (b, off, 0, cs) else some (b, off + l * k, cap - l, cs)
theorem own_cut {k lo n l : Nat} {xs : List Value} {o : Own} (h : OwnIs k lo n xs o) (hl : l ≤ n) : OwnIs k lo (n - l) (xs.drop (l * k)) (o.cut k l) := by
  have hlen := own_len h
  match o, h with
  | none, ⟨h1, h2⟩ => subst h1; subst h2; exact ⟨by omega, by simp⟩
  | some (b, off, cap, cs), ⟨h1, h2, h3, h4, h5⟩ =>
    show OwnIs k lo (n - l) (xs.drop (l * k)) (if cap = l then some (b, off, 0, cs) else some (b, off + l * k, cap - l, cs))
    have e0 : (n - l) * k = n * k - l * k := Nat.sub_mul _ _ _
    have e4 := Nat.mul_le_mul_right k hl
    by_cases hc : cap = l
    · rw [if_pos hc]
      have : n - l = 0 := by omega
      rw [this]
      refine ⟨h1, by omega, by omega, by omega, ?_⟩
      have e1 : l = n := by omega
      subst e1
      simp [List.drop_of_length_le (show xs.length ≤ l * k by omega)]
    · rw [if_neg hc]
      have e2 : (cap - l) * k = cap * k - l * k := Nat.sub_mul _ _ _
      have e3 := Nat.mul_le_mul_right k (show l ≤ cap by omega)
      refine ⟨h1, by omega, by omega, by omega, ?_⟩
      subst h5
      rw [List.drop_take, List.drop_drop, e0]
theorem own_cut_hp (k l : Nat) (T : TypeId) (o : Own) : (o.cut k l).hp T = o.hp T := by
  match o with
  | none => rfl
  | some (b, off, cap, cs) =>
    show Own.hp T (if cap = l then some (b, off, 0, cs) else some (b, off + l * k, cap - l, cs)) = _
    split <;> rfl
section
variable {P : Program} {fr : Fr} {H : Hp} {S : List World} {dst : Option Tmp} {ty : TypeId} {pos : String} {aft : Array Edge} {g : Option (Nat × Bool)} {x y z u : Operand}
theorem rd_slice_to {t e : TypeId} {k n cap : Nat} {ad : Option Addr} {kh : IntKind} {h : Int} {m : Nat} (hu : P.underlying t = some (.slice e)) (hs : (P.info? e).map (·.size) = some k) (hx : ev fr x = some (.slice ad n cap)) (hz : ev fr z = some (.int kh h)) (hh : h = m) (hm : m ≤ cap) :
    RD P ⟨dst, .slice t x none (some z) none, ty, pos, aft, g⟩ fr H S (.slice (cutA ad cap 0 k) m cap) := fun _ _ a w ha _ => .inl (by
  subst hh
  have h2 : (m : Int) ≤ (cap : Int) := by omega
  unfold cutA
  by_cases hc : cap = 0
  · subst hc
    obtain rfl : m = 0 := by omega
    simp [execOp, ha.ev hx, ha.ev hz, Instr.sliceAt, Instr.slice, run_underlying hu, Instr.sliceBounds, run_sliceBound, run_sizeOf' hs]
  · simp [execOp, ha.ev hx, ha.ev hz, Instr.sliceAt, Instr.slice, run_underlying hu, Instr.sliceBounds, run_sliceBound, run_sizeOf' hs, h2, hc])
theorem rd_slice_from {t e : TypeId} {k n cap : Nat} {ad : Option Addr} {kl : IntKind} {l : Int} {m : Nat} (hu : P.underlying t = some (.slice e)) (hs : (P.info? e).map (·.size) = some k) (hx : ev fr x = some (.slice ad n cap)) (hy : ev fr y = some (.int kl l)) (hl : l = m) (hm : m ≤ n) :
    RD P ⟨dst, .slice t x (some y) none none, ty, pos, aft, g⟩ fr H S (.slice (cutA ad cap m k) (n - m) (cap - m)) := fun _ _ a w ha _ => .inl (by
  subst hl
  have h2 : (m : Int) ≤ (n : Int) := by omega
  unfold cutA
  simp [execOp, ha.ev hx, ha.ev hy, Instr.sliceAt, Instr.slice, run_underlying hu, Instr.sliceBounds, run_sliceBound, run_sizeOf' hs, h2])
theorem rd_slice_max {t e : TypeId} {k n cap : Nat} {ad : Option Addr} {kh kc : IntKind} {h c : Int} {m q : Nat} (hu : P.underlying t = some (.slice e)) (hs : (P.info? e).map (·.size) = some k) (hx : ev fr x = some (.slice ad n cap)) (hz : ev fr z = some (.int kh h)) (hw : ev fr u = some (.int kc c)) (hh : h = m) (hc : c = q) (hm : m ≤ q) (hq : q ≤ cap) :
    RD P ⟨dst, .slice t x none (some z) (some u), ty, pos, aft, g⟩ fr H S (.slice (cutA ad q 0 k) m q) := fun _ _ a w ha _ => .inl (by
  subst hh hc
  have h2 : (m : Int) ≤ (q : Int) := by omega
  have h3 : (q : Int) ≤ (cap : Int) := by omega
  unfold cutA
  simp [execOp, ha.ev hx, ha.ev hz, ha.ev hw, Instr.sliceAt, Instr.slice, run_underlying hu, Instr.sliceBounds, run_sliceBound, run_sizeOf' hs, h2, h3])
theorem rd_eql_sl {t t2 e : TypeId} {n cap : Nat} {ad : Option Addr} {r : Bool} (hg : P.eqGuardType P.depth t = false) (hu : P.underlying t = some (.slice e)) (hx : ev fr x = some (.slice ad n cap)) (hy : ev fr y = some (.slice none 0 0)) (hr : ad.isNone = r) :
    RD P ⟨dst, .binOp .eql t x y t2, ty, pos, aft, g⟩ fr H S (.bool r) := fun _ _ a w ha _ => .inl (by
  subst hr
  have h1 : ∀ w, (Op.equalIn 10000 t (.slice ad n cap) (.slice none 0 0)).run P w = .ok ad.isNone w := fun w => by
    show (Op.equalIn (9999 + 1) t (.slice ad n cap) (.slice none 0 0)).run P w = _
    unfold Op.equalIn
    cases ad <;> simp [run_underlying hu]
  have h2 : (eqGuard .eql t x y (.slice ad n cap) (.slice none 0 0)).run P w = .ok () w := by unfold eqGuard; simp [hg]
  simp only [execOp, ha.ev hx, ha.ev hy, Sem.run_bind, h2, Result.andThen_ok]
  simp [binOp, Op.equal, Op.maxDepth, h1])
theorem al_build0 {t e : TypeId} {k : Nat} (hu : P.underlying t = some (.slice e)) (hs : (P.info? e).map (·.size) = some k) : AL P ⟨dst, .buildSlice t 0 #[], ty, pos, aft, g⟩ fr H S (fun b => .slice (some ⟨b, 0, none⟩) 0 0) (.cells #[] e) := fun _ _ a w _ hw =>
  ⟨w.alloc (.cells #[] e), .inl (by simp [execOp, Instr.buildSlice, run_underlying hu, run_sizeOf' hs, Instr.fill, newRow]; congr 2; apply Array.ext'; simp), hw.alloc _⟩
theorem rd_str_bytes {src dt e : TypeId} {lo cap : Nat} {ad : Option Addr} {l : List UInt8} (hs : P.underlying src = some (.slice e)) (he : P.underlying e = some (.int .u8)) (hd : P.underlying dt = some .string) (hx : ev fr x = some (.slice ad l.length cap)) (hl : ∀ w, Kn w H S → BsAt w lo ad cap l) :
    RD P ⟨dst, .convert src dt x, ty, pos, aft, g⟩ fr H S (.string ⟨l.toArray⟩) := fun _ _ a w ha hw => .inl (by
  have key : (convert src dt (.slice ad l.length cap)).run P w = .ok (.string ⟨l.toArray⟩) w := by
    have hb := hl w hw
    match ad with
    | none =>
      have hc : cap = 0 := hb.2.2.2.1 rfl
      have hn : l = [] := List.eq_nil_of_length_eq_zero (by have := hb.2.1; omega)
      subst hn
      exact run_convert_bytes_nil (P := P) w src e hs he 0 cap dt hd
    | some ⟨b, off, sp⟩ =>
      by_cases hn : l = []
      · subst hn
        exact run_convert_bytes_back w src dt e ⟨b, off, sp⟩ cap [] hs he hd (fun j hj => by simp at hj)
      · obtain ⟨b', off', h1, h2, h3, h4⟩ := hb.get (by simpa [bcs] using hn)
        cases h1
        refine run_convert_bytes_back w src dt e ⟨b, off, none⟩ cap l hs he hd (fun j hj => ?_)
        rw [addr_add]
        exact h4 j _ (by rw [bcs_get, List.getElem?_eq_getElem hj]; rfl)
  simp [execOp, ha.ev hx, key])
theorem rd_eql_str {t t2 : TypeId} {p q : List UInt8} {r : Bool} (hg : P.eqGuardType P.depth t = false) (hx : ev fr x = some (.string ⟨p.toArray⟩)) (hy : ev fr y = some (.string ⟨q.toArray⟩)) (hr : decide (p = q) = r) :
    RD P ⟨dst, .binOp .eql t x y t2, ty, pos, aft, g⟩ fr H S (.bool r) := fun _ _ a w ha _ => .inl (by
  subst hr
  have h2 : (eqGuard .eql t x y (.string ⟨p.toArray⟩) (.string ⟨q.toArray⟩)).run P w = .ok () w := by unfold eqGuard; simp [hg]
  simp only [execOp, ha.ev hx, ha.ev hy, Sem.run_bind, h2, Result.andThen_ok]
  simp [binOp, Op.stringOp]
  rw [Bool.eq_iff_iff]; simp)
end
end Go.Proofs.YtmlemnbhjbaedaaGreatDoor

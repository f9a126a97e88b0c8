/-
  The engine's laws for slices of what lay there, and for maps of integers by integers. Nothing here speaks of a program.
-/
import Derived.Test.YtmlemnbhjbaedaaGreatDoorIter
import Derived.MapKept
import Derived.Laws.Slices
namespace Go.Proofs.YtmlemnbhjbaedaaGreatDoor
open Go.RowKit
set_option linter.unusedSimpArgs false
set_option linter.unusedVariables false

/-! slices -/
section
variable {P : Program} {fr : Fr} {H : Hp} {S : List World} {dst : Option Tmp} {ty : TypeId} {pos : String} {aft : Array Edge} {g : Option (Nat × Bool)} {x y z : Operand}
theorem rd_len_sl {t e : TypeId} {ats : Array TypeId} {ad : Option Addr} {len cap : Nat} (ht : ats[0]? = some t) (hu : P.underlying t = some (.slice e)) (hx : ev fr x = some (.slice ad len cap)) : RD P ⟨dst, .call ⟨.builtin .len, #[x], ats⟩, ty, pos, aft, g⟩ fr H S (.int .i64 (len : Int)) := fun _ _ a w ha _ => .inl (by
  have e2 : execOp a.eval ⟨dst, .call ⟨.builtin .len, #[x], ats⟩, ty, pos, aft, g⟩ = (do pure (.value (← Builtin.len_ ats ty (#[x].map a.eval)))) := rfl
  rw [e2]
  simp [ha.ev hx, Builtin.len_, ht, run_underlying hu, goInt])
theorem rd_len_str {t : TypeId} {ats : Array TypeId} {s : ByteArray} (ht : ats[0]? = some t) (hu : P.underlying t = some .string) (hx : ev fr x = some (.string s)) : RD P ⟨dst, .call ⟨.builtin .len, #[x], ats⟩, ty, pos, aft, g⟩ fr H S (.int .i64 (s.size : Int)) := fun _ _ a w ha _ => .inl (by
  have e2 : execOp a.eval ⟨dst, .call ⟨.builtin .len, #[x], ats⟩, ty, pos, aft, g⟩ = (do pure (.value (← Builtin.len_ ats ty (#[x].map a.eval)))) := rfl
  rw [e2]
  simp [ha.ev hx, Builtin.len_, ht, run_underlying hu, goInt])
/-- a slice of a slice: it ends ahead of the row's end -/
theorem rd_slice_lh {t e : TypeId} {b off len cap k : Nat} {kl kh : IntKind} {l h : Int} (hu : P.underlying t = some (.slice e)) (hs : (P.info? e).map (·.size) = some k) (hx : ev fr x = some (.slice (some ⟨b, off, none⟩) len cap)) (hy : ev fr y = some (.int kl l)) (hz : ev fr z = some (.int kh h))
    (h0 : 0 ≤ l) (h1 : l ≤ h) (h2 : h ≤ cap) (h3 : l < cap) {o' n' c' : Nat} (ho : off + l.toNat * k = o') (hn : h.toNat - l.toNat = n') (hc : cap - l.toNat = c') :
    RD P ⟨dst, .slice t x (some y) (some z) none, ty, pos, aft, g⟩ fr H S (.slice (some ⟨b, o', none⟩) n' c') := fun _ _ a w ha _ => .inl (by
  subst ho hn hc
  have eh : (h.toNat : Int) = h := Int.toNat_of_nonneg (by omega)
  have hne : ¬ cap = l.toNat := by omega
  simp [execOp, ha.ev hx, ha.ev hy, ha.ev hz, Instr.sliceAt, Instr.slice, run_underlying hu, Instr.sliceBounds, run_sliceBound, run_sizeOf' hs, eh, h0, h1, h2, hne, addr_add, (by omega : 0 ≤ h)])
end

/-! maps -/
def ents (L : List (Int × Int × Nat)) : Array MapEntry := (L.map fun e => ({ key := .int .i64 e.1, val := .int .i64 e.2.1, born := e.2.2 } : MapEntry)).toArray
def getI : List (Int × Int × Nat) → Int → Int
  | [], _ => 0
  | e :: L, n => if n = e.1 then e.2.1 else getI L n
def idxI : List (Int × Int × Nat) → Int → Nat → Option (Nat × Value)
  | [], _, _ => none
  | e :: L, n, i => if n = e.1 then some (i, .int .i64 e.2.1) else idxI L n (i + 1)
def putI : List (Int × Int × Nat) → Int → Int → Nat → List (Int × Int × Nat)
  | [], n, v, c => [(n, v, c)]
  | e :: L, n, v, c => if n = e.1 then (n, v, e.2.2) :: L else e :: putI L n v c
theorem getI_putI (L : List (Int × Int × Nat)) (n v : Int) (c : Nat) (m : Int) : getI (putI L n v c) m = if m = n then v else getI L m := by
  induction L with
  | nil => simp [putI, getI]
  | cons e L ih =>
    unfold putI
    by_cases h : n = e.1
    · rw [if_pos h]; simp only [getI]
      by_cases hm : m = n
      · rw [if_pos hm, if_pos hm]
      · rw [if_neg hm, if_neg hm, if_neg (by rw [← h]; exact hm)]
    · rw [if_neg h]; simp only [getI]
      by_cases hm : m = e.1
      · rw [if_pos hm, if_neg (by rw [hm]; exact fun e => h e.symm), if_pos hm]
      · rw [if_neg hm, ih, if_neg hm]
theorem findNow_ents : ∀ (L : List (Int × Int × Nat)) (n : Int) (i : Nat), Instr.findNow (.int .i64) (.int .i64 n) (ents L).toList i = some (idxI L n i)
  | [], n, i => rfl
  | e :: L, n, i => by
    have ih := findNow_ents L n (i + 1)
    simp only [ents] at ih ⊢
    simp only [List.map_cons, Instr.findNow, Instr.sameNow, if_true, idxI]
    by_cases h : n = e.1
    · simp [h]
    · have : (n == e.1) = false := by simpa using h
      simp only [this, if_neg h]
      simpa using ih
theorem idxI_get : ∀ (L : List (Int × Int × Nat)) (n : Int) (i : Nat), (idxI L n i = none → getI L n = 0) ∧ ∀ p, idxI L n i = some p → p.2 = .int .i64 (getI L n)
  | [], n, i => ⟨fun _ => rfl, fun p h => by simp [idxI] at h⟩
  | e :: L, n, i => by
    have ih := idxI_get L n (i + 1)
    unfold idxI getI
    by_cases h : n = e.1
    · rw [if_pos h, if_pos h]; exact ⟨fun h => by simp at h, fun p h => by simp at h; rw [← h]⟩
    · rw [if_neg h, if_neg h]; exact ih
theorem idxI_shift : ∀ (L : List (Int × Int × Nat)) (n : Int) (i : Nat), idxI L n i = (idxI L n 0).map fun p => (p.1 + i, p.2)
  | [], n, i => rfl
  | e :: L, n, i => by
    unfold idxI
    by_cases h : n = e.1
    · rw [if_pos h, if_pos h]; simp
    · rw [if_neg h, if_neg h, idxI_shift L n (i + 1), idxI_shift L n 1]
      cases idxI L n 0 with
      | none => rfl
      | some p => simp; omega
theorem idxI_put : ∀ (L : List (Int × Int × Nat)) (n v : Int) (c : Nat), (idxI L n 0 = none → putI L n v c = L ++ [(n, v, c)]) ∧
    ∀ p, idxI L n 0 = some p → ∃ e, L[p.1]? = some e ∧ e.1 = n ∧ putI L n v c = L.set p.1 (n, v, e.2.2)
  | [], n, v, c => ⟨fun _ => rfl, fun p h => by simp [idxI] at h⟩
  | e :: L, n, v, c => by
    have ih := idxI_put L n v c
    unfold idxI putI
    by_cases h : n = e.1
    · rw [if_pos h, if_pos h]; exact ⟨fun h => by simp at h, fun p hp => by simp at hp; subst hp; exact ⟨e, by simp, h.symm, by simp⟩⟩
    · rw [if_neg h, if_neg h, idxI_shift]
      refine ⟨fun hn => ?_, fun p hp => ?_⟩
      · rw [ih.1 (by simpa using hn)]; rfl
      · obtain ⟨q, hq, rfl⟩ := Option.map_eq_some_iff.1 hp
        obtain ⟨e', h1, h2, h3⟩ := ih.2 q hq
        exact ⟨e', by simpa using h1, h2, by simp [h3]⟩
theorem ents_push (L : List (Int × Int × Nat)) (n v : Int) (c : Nat) : (ents L).push { key := .int .i64 n, val := .int .i64 v, born := c } = ents (L ++ [(n, v, c)]) := by simp [ents]
theorem ents_set (L : List (Int × Int × Nat)) (i : Nat) (n v : Int) (e : Int × Int × Nat) (he : L[i]? = some e) (_hn : e.1 = n) :
    ((ents L).modify i fun x => { x with key := .int .i64 n, val := .int .i64 v }) = ents (L.set i (n, v, e.2.2)) := by
  apply Array.ext_getElem?
  intro j
  rw [Array.getElem?_modify]
  simp only [ents, List.getElem?_toArray, List.getElem?_map, List.getElem?_set]
  have hl : i < L.length := (List.getElem?_eq_some_iff.1 he).1
  by_cases h : i = j
  · subst h
    rw [he]
    simp [hl]
  · simp [h]
theorem getObj_of {P : Program} {w : World} {b : Nat} {es : Array MapEntry} {c : Nat} (h : w.heap[b]? = some (.map es c)) : (getObj b).run P w = .ok (.map es c) w := by simp [getObj, Sem.run, h]
theorem setObj_of {P : Program} {w : World} {b : Nat} {es : Array MapEntry} {c : Nat} (o' : Obj) (h : w.heap[b]? = some (.map es c)) : (setObj b o').run P w = .ok () { w with heap := w.heap.setIfInBounds b o' } := by simp [setObj, Sem.run, h]
theorem checkKey_int {P : Program} {kt : TypeId} {k : IntKind} {n : Int} (hk : P.underlying kt = some (.int k)) (e : Bool) (w : World) : (Instr.checkKey e 10000 kt (.int k n)).run P w = .ok () w := by
  have key : ∀ m, (Instr.checkKey e (m + 1) kt (.int k n)).run P w = .ok () w := fun m => by
    unfold Instr.checkKey; simp [run_underlying hk]
  exact key 9999
def clkI (L : List (Int × Int × Nat)) (n : Int) (c : Nat) : Nat := if (idxI L n 0).isSome then c else c + 1
section
variable {P : Program} {fr : Fr} {H : Hp} {S : List World} {dst : Option Tmp} {ty : TypeId} {pos : String} {aft : Array Edge} {g : Option (Nat × Bool)} {x y z : Operand}
theorem al_makeMap {t : TypeId} : AL P ⟨dst, .makeMap t none, ty, pos, aft, g⟩ fr H S (fun b => .map (some b)) (.map (ents []) 0) := fun _ _ a w _ hw =>
  ⟨w.alloc (.map #[] 0), .inl (by simp [execOp, Instr.makeMap, newObj, Sem.run]), hw.alloc _⟩
theorem rd_lookup_i {t kt et : TypeId} {b c : Nat} {L : List (Int × Int × Nat)} {n : Int} (hu : P.underlying t = some (.map kt et)) (hk : P.underlying kt = some (.int .i64)) (hz : (P.info? et).bind (·.zero) = some (.int .i64 0))
    (hx : ev fr x = some (.map (some b))) (hy : ev fr y = some (.int .i64 n)) (hm : (b, Obj.map (ents L) c) ∈ H) : RD P ⟨dst, .lookup t x y false, ty, pos, aft, g⟩ fr H S (.int .i64 (getI L n)) := fun _ _ a w ha hw => .inl (by
  have hb := hw.has _ _ hm
  have hck : ∀ e, (Instr.checkKey e 10000 kt (.int .i64 n)).run P w = .ok () w := fun e => checkKey_int hk e w
  have hf : (Instr.findKey kt (.int .i64 n) (ents L).toList).run P w = .ok (idxI L n 0) w := by simp [Instr.findKey, run_underlying hk, findNow_ents]
  have hg := idxI_get L n 0
  cases hi : idxI L n 0 with
  | none =>
    rw [hg.1 hi]
    rw [hi] at hf
    simp [execOp, ha.ev hx, ha.ev hy, Instr.lookup, run_underlying hu, getObj_of hb, hck, hf, run_zeroValue' hz]
  | some p =>
    rw [hi] at hf
    have := hg.2 p hi
    simp [execOp, ha.ev hx, ha.ev hy, Instr.lookup, run_underlying hu, getObj_of hb, hck, hf, this])
theorem wr_update_i {t kt et : TypeId} {b c : Nat} {L : List (Int × Int × Nat)} {n v : Int} (hu : P.underlying t = some (.map kt et)) (hk : P.underlying kt = some (.int .i64))
    (hx : ev fr x = some (.map (some b))) (hy : ev fr y = some (.int .i64 n)) (hz : ev fr z = some (.int .i64 v)) {H' : Hp} (hup : Upd H b (Obj.map (ents L) c) (.map (ents (putI L n v c)) (clkI L n c)) H') :
    WR P ⟨dst, .mapUpdate t x y z, ty, pos, aft, g⟩ fr H S undef H' := fun _ _ a w ha hw => by
  have hb := hw.has _ _ hup.mem
  have hlt := (Array.getElem?_eq_some_iff.1 hb).1
  refine ⟨w.putObj b (.map (ents (putI L n v c)) (clkI L n c)), .inr ⟨?_, rfl⟩, hw.turn hup (turned_putObj _ hlt)⟩
  have hck : ∀ e, (Instr.checkKey e 10000 kt (.int .i64 n)).run P w = .ok () w := fun e => checkKey_int hk e w
  have hf : (Instr.findKey kt (.int .i64 n) (ents L).toList).run P w = .ok (idxI L n 0) w := by simp [Instr.findKey, run_underlying hk, findNow_ents]
  have hp := idxI_put L n v c
  cases hi : idxI L n 0 with
  | none =>
    have e1 := hp.1 hi
    rw [hi] at hf
    simp [execOp, ha.ev hx, ha.ev hy, ha.ev hz, Instr.mapUpdate, run_underlying hu, getObj_of hb, hck, hf, setObj_of _ hb, ents_push, e1, clkI, hi, World.putObj]
  | some p =>
    obtain ⟨e, h1, h2, h3⟩ := hp.2 p hi
    rw [hi] at hf
    have hkey : ((ents L)[p.1]?.map (·.key)).getD (.int .i64 n) = .int .i64 n := by simp [ents, h1, h2]
    have hsb : Instr.sameBits 10000 (.int .i64 n) (.int .i64 n) = true := by simp [Instr.sameBits]
    have hst : (Instr.keyThatStays (.int .i64 n) (.int .i64 n)).run P w = .ok (.int .i64 n) w := by simp [Instr.keyThatStays, hsb]
    obtain ⟨q, pv⟩ := p
    simp only at hkey h1 h3
    simp [execOp, ha.ev hx, ha.ev hy, ha.ev hz, Instr.mapUpdate, run_underlying hu, getObj_of hb, hck, hf, setObj_of _ hb, hst, hkey, ents_set L q n v e h1 h2, h3, clkI, hi, World.putObj]
theorem wr_clear {t kt et : TypeId} {ats : Array TypeId} {b c : Nat} {L : List (Int × Int × Nat)} (ht : ats[0]? = some t) (hu : P.underlying t = some (.map kt et)) (hx : ev fr x = some (.map (some b))) {H' : Hp} (hup : Upd H b (Obj.map (ents L) c) (.map (ents []) c) H') :
    WR P ⟨dst, .call ⟨.builtin .clear, #[x], ats⟩, ty, pos, aft, g⟩ fr H S (.tuple #[]) H' := fun _ _ a w ha hw => by
  have hb := hw.has _ _ hup.mem
  have hlt := (Array.getElem?_eq_some_iff.1 hb).1
  refine ⟨w.putObj b (.map (ents []) c), .inl ?_, hw.turn hup (turned_putObj _ hlt)⟩
  have e2 : execOp a.eval ⟨dst, .call ⟨.builtin .clear, #[x], ats⟩, ty, pos, aft, g⟩ = (do pure (.value (← Builtin.clear_ ats ty (#[x].map a.eval)))) := rfl
  rw [e2]
  simp [ha.ev hx, Builtin.clear_, ht, run_underlying hu, getObj_of hb, setObj_of _ hb, World.putObj, ents]
end
end Go.Proofs.YtmlemnbhjbaedaaGreatDoor

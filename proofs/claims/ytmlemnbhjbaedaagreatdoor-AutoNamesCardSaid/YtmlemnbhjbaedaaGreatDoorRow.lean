import Derived.WalkKit
import Derived.ProofKit
import Derived.Below
import Derived.OwnWalk
import Derived.Deep.WholeRow
import Derived.Laws.CopyRow
import Derived.Deep.Draws
namespace Go.Proofs.YtmlemnbhjbaedaaGreatDoor
open Go.RowKit
set_option linter.unusedSimpArgs false
set_option linter.unusedVariables false
/-- the row of n cells from an address on -/
def rowAt (w : World) (a : Addr) (n : Nat) : Option (Array Value) :=
  match w.heap[a.block]? with
  | some (.cells c _ _) => if a.spot = none ∧ a.off + n ≤ c.size then some (c.extract a.off (a.off + n)) else none
  | _ => none
def aggLen (P : Program) (T : TypeId) : Option Nat :=
  match P.underlying T with
  | some (.struct _) => (P.info? T).map (·.size)
  | some (.array _ _) => (P.info? T).map (·.size)
  | _ => none
def loadVar0 (T : TypeId) (a : Addr) : Sem Value := loadVar T a
def storeVar0 (T : TypeId) (a : Addr) (v : Value) : Sem Unit := storeVar T a v
theorem aggLen_isAgg {P : Program} {T n : Nat} (h : aggLen P T = some n) (w : World) : (isAgg T).run P w = .ok true w ∧ (sizeOf T).run P w = .ok n w := by
  unfold aggLen at h
  cases hu : P.underlying T with
  | none => simp [hu] at h
  | some d =>
    cases hi : P.info? T with
    | none => cases d <;> simp [hu, hi] at h
    | some i =>
      have hs : i.size = n := by cases d <;> simp [hu, hi] at h <;> exact h
      refine ⟨?_, ?_⟩
      · unfold isAgg
        rw [Sem.run_bind, run_underlying hu w]
        cases d <;> simp_all
      · simp [sizeOf, typeInfo, hi, hs]
theorem rowAt_cell {w : World} {a : Addr} {n : Nat} {cs : Array Value} (h : rowAt w a n = some cs) : cs.size = n ∧ ∀ j v, cs[j]? = some v → w.cell? (a.add j) = some v := by
  unfold rowAt at h
  split at h
  · rename_i c t f hb
    split at h
    · rename_i hc
      obtain ⟨hs, hn⟩ := hc
      simp only [Option.some.injEq] at h
      subst h
      refine ⟨by simp; omega, fun j v hv => ?_⟩
      have hadd : a.add j = ⟨a.block, a.off + j, none⟩ := by
        cases a; simp only at hs; subst hs; unfold Addr.add; split <;> simp_all
      rw [hadd]
      simp only [World.cell?, hb]
      simp only [Array.getElem?_extract] at hv
      split at hv
      · simpa using hv
      · cases hv
    · cases h
  · cases h
theorem run_loadVar_agg {P : Program} {T n : Nat} (h : aggLen P T = some n) (a : Addr) (w : World) :
    (loadVar T a).run P w = match rowAt w a n with
      | some cs => .ok (.agg cs) w
      | none => (loadVar0 T a).run P w := by
  cases hr : rowAt w a n with
  | none => rfl
  | some cs =>
    obtain ⟨hs, hc⟩ := rowAt_cell hr
    obtain ⟨h1, h2⟩ := aggLen_isAgg h w
    have hl := run_loadCells_list (P := P) w a cs.toList (fun j v hv => hc j v (by simpa using hv))
    simp only [Array.length_toList, Array.toArray_toList, hs] at hl
    simp [loadVar, Sem.run_bind, h1, h2, hl]

section
variable (w : World)
theorem heap_alloc_at (o : Obj) (n : Nat) (hn : n = w.heap.size) : (w.alloc o).heap[n]? = some o := by subst hn; exact heap_alloc_new w o
theorem heap_alloc_past (o : Obj) (n : Nat) (hn : n < w.heap.size) : (w.alloc o).heap[n]? = w.heap[n]? := Below.heap_alloc w o n hn
@[go_sem] theorem rowAt_alloc_at (c : Array Value) (t : TypeId) (n off m : Nat) (hn : n = w.heap.size) :
    rowAt (w.alloc (.cells c t)) ⟨n, off, none⟩ m = if off + m ≤ c.size then some (c.extract off (off + m)) else none := by
  simp only [rowAt, heap_alloc_at w _ n hn]; simp
@[go_sem] theorem rowAt_alloc_past (o : Obj) (n off m : Nat) (hn : n < w.heap.size) :
    rowAt (w.alloc o) ⟨n, off, none⟩ m = rowAt w ⟨n, off, none⟩ m := by
  simp only [rowAt, heap_alloc_past w o n hn]
@[simp, go_sem] theorem rowAt_drew (a : Addr) (m : Nat) : rowAt w.drew a m = rowAt w a m := rfl
@[simp, go_sem] theorem rowAt_drewN (k : Nat) (a : Addr) (m : Nat) : rowAt (w.drewN k) a m = rowAt w a m := rfl
end
theorem rowAt_below {B : Nat} {w w' : World} (h : Below B w w') {a : Addr} (ha : a.block < B) (m : Nat) : rowAt w' a m = rowAt w a m := by
  unfold rowAt; rw [h.block _ ha]

/-- a row of cells written over -/
def splice (c : Array Value) (off : Nat) (vs : Array Value) : Array Value := (c.toList.take off ++ vs.toList ++ c.toList.drop (off + vs.size)).toArray
theorem splice_size (c : Array Value) (off : Nat) (vs : Array Value) (h : off + vs.size ≤ c.size) : (splice c off vs).size = c.size := by
  simp [splice]; omega
theorem splice_all (c vs : Array Value) (h : vs.size = c.size) : splice c 0 vs = vs := by
  simp only [splice, h, Nat.zero_add, List.take_zero, List.nil_append]
  rw [List.drop_of_length_le (by simp)]; simp
/-- whether a row of n cells lies there, free to be written -/
def freeAt (w : World) (a : Addr) (n : Nat) : Bool :=
  match w.heap[a.block]? with
  | some (.cells c _ f) => decide (a.spot = none) && decide (f = (0, 0)) && decide (a.off + n ≤ c.size)
  | _ => false
/-- the world with a row written over -/
def setRowAt (w : World) (a : Addr) (vs : Array Value) : World :=
  match w.heap[a.block]? with
  | some (.cells c _ _) => w.setRow a.block (splice c a.off vs)
  | _ => w
def plain (vs : Array Value) : Bool := vs.all (·.oneCell')
theorem run_storeVar_agg {P : Program} {T n : Nat} (h : aggLen P T = some n) (a : Addr) (vs : Array Value) (w : World) :
    (storeVar T a (.agg vs)).run P w = if vs.size = n ∧ plain vs = true ∧ freeAt w a n = true then .ok () (setRowAt w a vs) else (storeVar0 T a (.agg vs)).run P w := by
  split
  · rename_i hc
    obtain ⟨hs, hp, hf⟩ := hc
    obtain ⟨_, h2⟩ := aggLen_isAgg h w
    unfold freeAt at hf
    split at hf
    · rename_i c t f hb
      simp only [Bool.and_eq_true, decide_eq_true_eq] at hf
      obtain ⟨⟨hsp, rfl⟩, hn⟩ := hf
      obtain ⟨b, off, sp⟩ := a
      simp only at hsp hb hn
      subst hsp
      have hst := run_storeCells_at (P := P) b off t vs.toList 0 c w hb (by simp; omega) (by
        intro v hv
        unfold plain at hp
        rw [Array.all_eq_true_iff_forall_mem] at hp
        exact hp v (by simpa using hv))
      simp only [Nat.add_zero, Array.length_toList] at hst
      simp only [storeVar, Sem.run_bind, h2, Result.andThen_ok, Value.cells, hs, ne_eq, not_true_eq_false, if_false]
      simp only [hst, setRowAt, hb, splice, hs]
    · cases hf
  · rfl
section
variable (w : World)
@[go_sem] theorem freeAt_alloc_at (c : Array Value) (t : TypeId) (n off m : Nat) (hn : n = w.heap.size) :
    freeAt (w.alloc (.cells c t)) ⟨n, off, none⟩ m = decide (off + m ≤ c.size) := by
  simp only [freeAt, heap_alloc_at w _ n hn]; simp
@[go_sem] theorem freeAt_alloc_past (o : Obj) (n off m : Nat) (hn : n < w.heap.size) :
    freeAt (w.alloc o) ⟨n, off, none⟩ m = freeAt w ⟨n, off, none⟩ m := by
  simp only [freeAt, heap_alloc_past w o n hn]
@[simp, go_sem] theorem freeAt_drew (a : Addr) (m : Nat) : freeAt w.drew a m = freeAt w a m := rfl
@[simp, go_sem] theorem freeAt_drewN (k : Nat) (a : Addr) (m : Nat) : freeAt (w.drewN k) a m = freeAt w a m := rfl
@[go_sem] theorem setRowAt_alloc_at (c : Array Value) (t : TypeId) (n off : Nat) (vs : Array Value) (hn : n = w.heap.size) :
    setRowAt (w.alloc (.cells c t)) ⟨n, off, none⟩ vs = w.alloc (.cells (splice c off vs) t) := by
  simp only [setRowAt, heap_alloc_at w _ n hn]
  subst hn
  exact World.setRow_alloc_new w c _ t
theorem setRow_alloc_past (o : Obj) (n : Nat) (cs : Array Value) (hn : n < w.heap.size) : (w.alloc o).setRow n cs = (w.setRow n cs).alloc o := by
  unfold World.setRow World.alloc
  congr 1
  apply Array.ext_getElem?
  intro k
  simp only [Array.getElem?_modify, Array.getElem?_push, Array.size_modify]
  by_cases hk : k = w.heap.size
  · subst hk
    simp [Nat.ne_of_lt hn]
  · simp [hk]
@[go_sem] theorem setRowAt_alloc_past (o : Obj) (n off : Nat) (vs : Array Value) (hn : n < w.heap.size) :
    setRowAt (w.alloc o) ⟨n, off, none⟩ vs = (setRowAt w ⟨n, off, none⟩ vs).alloc o := by
  simp only [setRowAt, heap_alloc_past w o n hn]
  split
  · exact setRow_alloc_past w o n _ hn
  · rfl
@[go_sem] theorem setRowAt_drew (a : Addr) (vs : Array Value) : setRowAt w.drew a vs = (setRowAt w a vs).drew := by
  unfold setRowAt; simp only [heap_drew]; split <;> rfl
@[simp] theorem size_setRowAt (a : Addr) (vs : Array Value) : (setRowAt w a vs).heap.size = w.heap.size := by
  unfold setRowAt; split <;> simp
end
theorem below_setRowAt {B : Nat} {a w : World} (h : Below B a w) {p : Addr} (hp : B ≤ p.block) (vs : Array Value) : Below B a (setRowAt w p vs) := by
  refine h.trans ?_
  unfold setRowAt
  split
  · refine ⟨rfl, rfl, rfl, by simp, fun k hk => ?_⟩
    simp only [World.setRow, Array.getElem?_modify]
    rw [if_neg (by omega)]
  · exact Below.refl _ _
end Go.Proofs.YtmlemnbhjbaedaaGreatDoor

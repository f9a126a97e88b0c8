/-
  A region that draws its order: each operation is shown once, in the text's order, out of what its own operands are known to be; no operation turns what lay there. Behind a first part that is so, a last part in a forced order.
-/
import Derived.Test.YtmlemnbhjbaedaaGreatDoorOps
namespace Go.Proofs.YtmlemnbhjbaedaaGreatDoor
open Go.RowKit
set_option linter.unusedSimpArgs false
set_option linter.unusedVariables false

inductive Kno where
  | val (v : Value)
  | sat (ψ : Value → World → Prop)
def Kno.holds : Kno → Value → World → Prop
  | .val v, x, _ => x = v
  | .sat ψ, x, w => ψ x w
def Kno.stable : Kno → Prop
  | .val _ => True
  | .sat ψ => ∀ v w w', ψ v w → Below w.heap.size w w' → ψ v w'
theorem Kno.keep {k : Kno} (h : k.stable) {v : Value} {w w' : World} (hv : k.holds v w) (hb : Below w.heap.size w w') : k.holds v w' := by
  cases k with
  | val u => exact hv
  | sat ψ => exact h v w w' hv hb
abbrev Acc := List (Nat × Kno)
def push (acc : Acc) (d : Option Tmp) (k : Kno) : Acc := match d with | some t => (t, k) :: acc | none => acc
def KnS (acc : Acc) (fr : Fr) (L : List Nat) (N : Nat) (ds : List Deferred) (a : Act) (w : World) : Prop :=
  a.tmps.size = N ∧ a.defers = ds ∧ ∀ t ∈ L, match acc.lookup t with
    | some k => ∃ v, a.tmps[t]? = some v ∧ k.holds v w
    | none => ∀ v, fr.lookup t = some v → a.tmps[t]? = some v
def FlowOp (P : Program) (o : Oper) (a : Act) (w : World) (k : Kno) : Prop :=
  (∃ v w', Op1 P o a w v w' ∧ Below w.heap.size w w' ∧ k.holds v w') ∨
  (∃ f args, (execOp a.eval o).run P w = .ok (.enter f args) w ∧ Calls P f args w fun e w' => ∃ v, e = .returned v ∧ Below w.heap.size w w' ∧ k.holds v w')
def Triple (P : Program) (N : Nat) (ds : List Deferred) (ops : Array Oper) (fr : Fr) (H : Hp) (S : List World) (o : Oper) (acc : Acc) (k : Kno) : Prop :=
  ∀ a w, KnS acc fr (o.looksAt ops) N ds a w → Kn w H S →
    (Region.wanted o (yielded ops a.tmps) = true ∧ FlowOp P o a w k) ∨ (Region.wanted o (yielded ops a.tmps) = false ∧ k.holds undef w)
def FW (P : Program) (N : Nat) (ds : List Deferred) (ops : Array Oper) (fr : Fr) (H : Hp) (S : List World) (K : List Oper → Acc → Prop) : Nat → List Oper → Acc → Prop
  | 0, l, acc => K l acc
  | m + 1, o :: l, acc => ∃ k : Kno, k.stable ∧ Triple P N ds ops fr H S o acc k ∧ FW P N ds ops fr H S K m l (push acc o.dst k)
  | _ + 1, [], _ => False
def EndFW (P : Program) (r : Option Nat) (N : Nat) (ds : List Deferred) (ops : Array Oper) (Q : Exit → Act → World → Prop) (H : Hp) (S : List World) (tail : List Oper) : Acc → Fr → (World → Prop) → Prop
  | [], fr, C => ∀ a w, Ag N ds a fr → Kn w H S → C w → wpListIn (FF r) 0 P ops Q tail a w
  | (t, .val v) :: acc, fr, C => EndFW P r N ds ops Q H S tail acc ((t, v) :: fr) C
  | (t, .sat ψ) :: acc, fr, C => ∀ v, EndFW P r N ds ops Q H S tail acc ((t, v) :: fr) (fun w => C w ∧ ψ v w)

/-! the check on the region -/
def edgeTo (o : Oper) (j : Nat) : Bool := o.after.any fun e => Region.binds .any e && e.on == j
def flowB (N : Nat) (ops : List Oper) (m : Nat) : Bool :=
  (List.range ops.length).all fun j => match ops[j]? with
    | none => true
    | some o =>
      noDefer o && dstOk N o.dst &&
      (o.after.all fun e => !Region.binds .any e || decide (e.on < j)) &&
      (if j < m then
        (List.range m).all fun k => match ops[k]? with
          | none => true
          | some p => match p.dst with
            | none => true
            | some t => (k == j || o.dst != some t) && (!(o.looksAt ops.toArray).contains t || k == j || (if k < j then edgeTo o k else edgeTo p j))
       else (List.range j).all fun k => edgeTo o k)

section
variable {P : Program} {r : Option Nat} {N : Nat} {ds : List Deferred} {Q : Exit → Act → World → Prop} {fr : Fr} {H : Hp} {S : List World}

def accL (L : List (Oper × Kno)) : Acc := L.foldl (fun acc p => push acc p.1.dst p.2) []
theorem accL_snoc (L : List (Oper × Kno)) (p : Oper × Kno) : accL (L ++ [p]) = push (accL L) p.1.dst p.2 := by simp [accL]
theorem accL_some {t : Nat} {K : Kno} : ∀ (n : Nat) (L : List (Oper × Kno)), L.length = n → (accL L).lookup t = some K → ∃ (k : Nat) (o : Oper), L[k]? = some (o, K) ∧ o.dst = some t := by
  intro n
  induction n with
  | zero => intro L hL h; rw [List.length_eq_zero_iff.1 hL] at h; simp [accL] at h
  | succ n ih =>
    intro L hL h
    obtain ⟨L', p, rfl⟩ : ∃ L' p, L = L' ++ [p] := ⟨L.dropLast, L.getLast (by intro e; simp [e] at hL), (List.dropLast_concat_getLast _).symm⟩
    have hL' : L'.length = n := by simp at hL; exact hL
    rw [accL_snoc] at h
    have later : (accL L').lookup t = some K → ∃ (k : Nat) (o : Oper), (L' ++ [p])[k]? = some (o, K) ∧ o.dst = some t := fun h => by
      obtain ⟨k, o, h1, h2⟩ := ih L' hL' h
      exact ⟨k, o, by rw [List.getElem?_append_left (List.getElem?_eq_some_iff.1 h1).1]; exact h1, h2⟩
    cases hd : p.1.dst with
    | none => simp only [hd, push] at h; exact later h
    | some u =>
      simp only [hd, push, List.lookup_cons] at h
      by_cases e : t = u
      · subst e
        simp at h
        exact ⟨L'.length, p.1, by simp [← h], hd⟩
      · have e' : (t == u) = false := by simpa using e
        rw [e'] at h
        exact later h
theorem accL_none {t : Nat} : ∀ (n : Nat) (L : List (Oper × Kno)), L.length = n → (accL L).lookup t = none → ∀ (k : Nat) (o : Oper) (K : Kno), L[k]? = some (o, K) → o.dst ≠ some t := by
  intro n
  induction n with
  | zero => intro L hL h k o K hk; rw [List.length_eq_zero_iff.1 hL] at hk; simp at hk
  | succ n ih =>
    intro L hL h k o K hk
    obtain ⟨L', p, rfl⟩ : ∃ L' p, L = L' ++ [p] := ⟨L.dropLast, L.getLast (by intro e; simp [e] at hL), (List.dropLast_concat_getLast _).symm⟩
    have hL' : L'.length = n := by simp at hL; exact hL
    rw [accL_snoc] at h
    have hp : p.1.dst ≠ some t ∧ (accL L').lookup t = none := by
      cases hd : p.1.dst with
      | none => simp only [hd, push] at h; exact ⟨by simp, h⟩
      | some u =>
        simp only [hd, push, List.lookup_cons] at h
        by_cases e : t = u
        · subst e; simp at h
        · have e' : (t == u) = false := by simpa using e
          rw [e'] at h
          exact ⟨fun e2 => e (by simpa using e2.symm), h⟩
    by_cases hlt : k < L'.length
    · rw [List.getElem?_append_left hlt] at hk
      exact ih L' hL' hp.2 k o K hk
    · rw [List.getElem?_append_right (by omega)] at hk
      have hk0 : k - L'.length = 0 := by
        have := (List.getElem?_eq_some_iff.1 hk).1
        simp at this; omega
      rw [hk0] at hk
      simp at hk
      subst hk
      exact hp.1

/-- all triples of a lexical walk, and what stands behind -/
theorem FW.all {ops : Array Oper} {K : List Oper → Acc → Prop} : ∀ (m : Nat) (l : List Oper) (L0 : List (Oper × Kno)), FW P N ds ops fr H S K m l (accL L0) →
    ∃ Ks : List Kno, Ks.length = m ∧ m ≤ l.length ∧ (∀ j o k, (l.take m)[j]? = some o → Ks[j]? = some k → k.stable ∧ Triple P N ds ops fr H S o (accL (L0 ++ ((l.take m).zip Ks).take j)) k) ∧
      K (l.drop m) (accL (L0 ++ (l.take m).zip Ks)) := by
  intro m
  induction m with
  | zero => intro l L0 h; exact ⟨[], rfl, Nat.zero_le _, by simp, by simpa [FW] using h⟩
  | succ m ih =>
    intro l L0 h
    cases l with
    | nil => exact h.elim
    | cons o l =>
      obtain ⟨k, hk, ht, hr⟩ := h
      rw [show push (accL L0) o.dst k = accL (L0 ++ [(o, k)]) from (accL_snoc L0 (o, k)).symm] at hr
      obtain ⟨Ks, h1, h2, h3, h4⟩ := ih l (L0 ++ [(o, k)]) hr
      refine ⟨k :: Ks, by simp [h1], by simp; omega, ?_, by simpa using h4⟩
      intro j o' k' ho' hk'
      cases j with
      | zero =>
        simp at ho' hk'
        subst ho'; subst hk'
        exact ⟨hk, by simpa using ht⟩
      | succ j =>
        simp at ho' hk'
        have := h3 j o' k' (by simpa using ho') hk'
        refine ⟨this.1, ?_⟩
        have h := this.2
        simp only [List.append_assoc, List.singleton_append] at h
        simpa using h

/-- a forced order -/
theorem seq_any {ops : Array Oper} : ∀ (n j : Nat) (listed : Array Bool) (a : Act) (w : World), n + j = ops.size → listed.size = ops.size →
    (∀ k, k < j → listed.getD k false = true) → (∀ k, j ≤ k → k < ops.size → listed.getD k true = false) →
    (∀ i o, j ≤ i → ops[i]? = some o → ∀ k, k < i → edgeTo o k = true) → (∀ i o e, j ≤ i → ops[i]? = some o → e ∈ o.after → Region.binds .any e = true → e.on < i) →
    wpListIn (FF r) 0 P ops Q (ops.toList.drop j) a w → wpAnyIn (FF r) 0 P .any ops Q n listed a w := by
  intro n
  induction n with
  | zero =>
    intro j listed a w hn hsz hl hu hc hlt h
    have hj : j = ops.size := by omega
    rw [hj, List.drop_of_length_le (by simp)] at h
    refine ⟨?_, h⟩
    apply List.eq_nil_iff_forall_not_mem.2
    intro i hi
    obtain ⟨h1, o, ho, _⟩ := mem_ready.1 hi
    have hi' := (Array.getElem?_eq_some_iff.1 ho).1
    have := hl i (by omega)
    simp only [Array.getD_eq_getD_getElem?] at this h1
    rw [Array.getElem?_eq_getElem (by omega)] at this h1
    simp at this h1
    rw [this] at h1; cases h1
  | succ n ih =>
    intro j listed a w hn hsz hl hu hc hlt h
    have hj : j < ops.size := by omega
    have hdrop : ops.toList.drop j = ops[j] :: ops.toList.drop (j + 1) := by
      rw [List.drop_eq_getElem_cons (by simpa using hj)]; simp
    have hoj : ops[j]? = some ops[j] := Array.getElem?_eq_getElem hj
    have hready : ∀ i, i ∈ Region.ready .any ops listed ↔ i = j := by
      intro i
      constructor
      · intro hi
        obtain ⟨h1, o, ho, he⟩ := mem_ready.1 hi
        have hi' := (Array.getElem?_eq_some_iff.1 ho).1
        have hij : j ≤ i := by
          rcases Nat.lt_or_ge i j with h' | h'
          · have := hl i h'
            simp only [Array.getD_eq_getD_getElem?] at this h1
            rw [Array.getElem?_eq_getElem (by omega)] at this h1
            simp at this h1
            rw [this] at h1; cases h1
          · exact h'
        rcases Nat.lt_or_ge j i with h' | h'
        · have hed := hc i o hij ho j h'
          simp only [edgeTo, Array.any_eq_true'] at hed
          obtain ⟨e, hem, hb⟩ := hed
          simp only [Bool.and_eq_true, beq_iff_eq] at hb
          have := he e hem hb.1
          rw [hb.2] at this
          have h2 := hu j (Nat.le_refl _) hj
          simp only [Array.getD_eq_getD_getElem?] at this h2
          rw [Array.getElem?_eq_getElem (by omega)] at this h2
          simp at this h2
          rw [this] at h2; cases h2
        · omega
      · rintro rfl
        refine mem_ready.2 ⟨hu _ (Nat.le_refl _) hj, _, hoj, fun e he hb => hl _ (hlt _ _ e (Nat.le_refl _) hoj he hb)⟩
    refine ⟨fun h0 => (by have := (hready j).2 rfl; rw [h0] at this; cases this), fun i hi => ?_⟩
    obtain rfl := (hready i).1 hi
    rw [hdrop] at h
    unfold wpOpIn
    simp only [hoj]
    have next : ∀ a w, wpListIn (FF r) 0 P ops Q (ops.toList.drop (i + 1)) a w → wpAnyIn (FF r) 0 P .any ops Q n (listed.setIfInBounds i true) a w := fun a w hh => by
      refine ih (i + 1) _ a w (by omega) (by simp [hsz]) ?_ ?_ (fun i' o hi' => hc i' o (by omega)) (fun i' o e hi' => hlt i' o e (by omega)) hh
      · intro k hk
        simp only [Array.getD_eq_getD_getElem?, Array.getElem?_setIfInBounds]
        by_cases e : i = k
        · subst e; simp [hsz, hj]
        · rw [if_neg e]; have := hl k (by omega); simpa [Array.getD_eq_getD_getElem?] using this
      · intro k hk hks
        simp only [Array.getD_eq_getD_getElem?, Array.getElem?_setIfInBounds]
        rw [if_neg (by omega)]
        have := hu k (by omega) hks
        simpa [Array.getD_eq_getD_getElem?] using this
    unfold wpListIn at h
    split
    · rename_i hw
      rw [if_pos hw] at h
      exact Oper.wpIn_mono next h
    · rename_i hw
      rw [if_neg hw] at h
      exact ⟨h.1, next _ _ h.2⟩

theorem getD_t {listed : Array Bool} {k : Nat} : listed.getD k false = true ↔ listed[k]? = some true := by
  rw [Array.getD_eq_getD_getElem?]; cases listed[k]? <;> simp
theorem getD_f {listed : Array Bool} {k : Nat} : listed.getD k true = false ↔ listed[k]? = some false := by
  rw [Array.getD_eq_getD_getElem?]; cases listed[k]? <;> simp

structure Inv (N : Nat) (ds : List Deferred) (fr : Fr) (H : Hp) (S : List World) (ops : Array Oper) (m : Nat) (Ks : List Kno) (listed : Array Bool) (a : Act) (w : World) : Prop where
  size : listed.size = ops.size
  asz : a.tmps.size = N
  adf : a.defers = ds
  kn : Kn w H S
  got : ∀ (k : Nat) (o : Oper) (K : Kno) (t : Nat), ops[k]? = some o → Ks[k]? = some K → listed[k]? = some true → o.dst = some t → ∃ v, a.tmps[t]? = some v ∧ K.holds v w
  base : ∀ (t : Nat) (v : Value), (∀ (k : Nat) (o : Oper), k < m → ops[k]? = some o → o.dst = some t → listed[k]? = some false) → fr.lookup t = some v → a.tmps[t]? = some v
  only : ∀ k : Nat, listed[k]? = some true → k < m
  closed : ∀ (k : Nat) (o : Oper) (e : Edge), ops[k]? = some o → listed[k]? = some true → e ∈ o.after → Region.binds .any e = true → listed[e.on]? = some true

theorem flowB_at {ops : Array Oper} {m : Nat} (hB : flowB N ops.toList m = true) {j : Nat} {o : Oper} (hj : ops[j]? = some o) :
    noDefer o = true ∧ dstOk N o.dst = true ∧ (∀ e ∈ o.after, Region.binds .any e = true → e.on < j) ∧
    (j < m → ∀ k p t, k < m → ops[k]? = some p → p.dst = some t → (k = j ∨ o.dst ≠ some t) ∧ (t ∈ o.looksAt ops → k = j ∨ (if k < j then edgeTo o k = true else edgeTo p j = true))) ∧
    (m ≤ j → ∀ k, k < j → edgeTo o k = true) := by
  have hlt := (Array.getElem?_eq_some_iff.1 hj).1
  unfold flowB at hB
  rw [List.all_eq_true] at hB
  have h := hB j (by simpa using hlt)
  simp only [Array.getElem?_toList, hj, Bool.and_eq_true, Array.all_eq_true_iff_forall_mem, Bool.or_eq_true, Bool.not_eq_true', decide_eq_true_eq] at h
  obtain ⟨⟨⟨h1, h2⟩, h3⟩, h4⟩ := h
  refine ⟨h1, h2, fun e he hb => ?_, fun hjm k p t hk hp ht => ?_, fun hjm k hk => ?_⟩
  · rcases h3 e he with h | h
    · rw [hb] at h; cases h
    · exact h
  · rw [if_pos hjm, List.all_eq_true] at h4
    have := h4 k (by simpa using hk)
    simp only [hp, ht, Bool.and_eq_true, Bool.or_eq_true, beq_iff_eq, bne_iff_ne, ne_eq, Bool.not_eq_true', List.contains_eq_mem, decide_eq_false_iff_not, Array.toArray_toList] at this
    refine ⟨this.1, fun hm => ?_⟩
    rcases this.2 with (h | h) | h
    · exact absurd hm h
    · exact .inl h
    · right; split <;> simp_all
  · rw [if_neg (by omega), List.all_eq_true] at h4
    exact h4 k (by simpa using hk)
theorem edgeTo_spec {o : Oper} {j : Nat} (h : edgeTo o j = true) : ∃ e ∈ o.after, Region.binds .any e = true ∧ e.on = j := by
  simp only [edgeTo, Array.any_eq_true', Bool.and_eq_true, beq_iff_eq] at h
  obtain ⟨e, he, h1, h2⟩ := h
  exact ⟨e, he, h1, h2⟩

theorem flow_any {ops : Array Oper} {m : Nat} {Ks : List Kno} (hKs : Ks.length = m) (hm : m ≤ ops.size) (hB : flowB N ops.toList m = true)
    (htr : ∀ j o k, (ops.toList.take m)[j]? = some o → Ks[j]? = some k → k.stable ∧ Triple P N ds ops fr H S o (accL (((ops.toList.take m).zip Ks).take j)) k)
    (hend : ∀ (listed : Array Bool) (a : Act) (w : World), Inv N ds fr H S ops m Ks listed a w → (∀ k, k < m → listed[k]? = some true) → wpListIn (FF r) 0 P ops Q (ops.toList.drop m) a w) :
    ∀ (n : Nat) (listed : Array Bool) (a : Act) (w : World), n + listed.toList.count true = ops.size → Inv N ds fr H S ops m Ks listed a w → wpAnyIn (FF r) 0 P .any ops Q n listed a w := by
  intro n
  induction n with
  | zero =>
    intro listed a w hn inv
    have hall : ∀ k, k < ops.size → listed[k]? = some true := by
      have h1 : listed.toList.count true = listed.toList.length := by rw [Array.length_toList, inv.size]; omega
      rw [List.count_eq_length] at h1
      intro k hk
      have hk' : k < listed.size := by rw [inv.size]; exact hk
      rw [Array.getElem?_eq_getElem hk']
      have := h1 listed[k] (by simp)
      rw [← this]
    have hsz : m = ops.size := by
      rcases Nat.lt_or_ge m ops.size with h | h
      · have := inv.only m (hall m h); omega
      · omega
    refine seq_any 0 ops.size listed a w (by omega) inv.size (fun k hk => getD_t.2 (hall k hk)) (fun k h1 h2 => by omega) (fun i o hi ho => by
      have := (Array.getElem?_eq_some_iff.1 ho).1; omega) (fun i o e hi ho => by have := (Array.getElem?_eq_some_iff.1 ho).1; omega) ?_
    have := hend listed a w inv (fun k hk => hall k (by omega))
    rwa [hsz] at this
  | succ n ih =>
    intro listed a w hn inv
    by_cases hall : ∀ k, k < m → listed[k]? = some true
    · -- the first part is over: the rest in its forced order
      have hcnt : listed.toList.count true = m := by
        have e : listed.toList = List.replicate m true ++ List.replicate (ops.size - m) false := by
          apply List.ext_getElem?
          intro k
          by_cases h1 : k < m
          · rw [List.getElem?_append_left (by simpa using h1)]
            simp only [Array.getElem?_toList, hall k h1]; simp [h1]
          · rw [List.getElem?_append_right (by simpa using Nat.le_of_not_lt h1)]
            simp only [Array.getElem?_toList, List.length_replicate]
            by_cases h2 : k < ops.size
            · have hk' : k < listed.size := by rw [inv.size]; exact h2
              rw [Array.getElem?_eq_getElem hk']
              have : listed[k] ≠ true := fun h => by
                have := inv.only k (by rw [Array.getElem?_eq_getElem hk', h]); omega
              have : listed[k] = false := by simpa using this
              rw [this, List.getElem?_replicate]; rw [if_pos (by omega)]
            · rw [Array.getElem?_eq_none (by rw [inv.size]; omega), List.getElem?_replicate, if_neg (by omega)]
        rw [e]; simp [List.count_replicate]
      refine seq_any (n + 1) m listed a w (by omega) inv.size (fun k hk => getD_t.2 (hall k hk)) (fun k h1 h2 => getD_f.2 ?_)
        (fun i o hi ho => (flowB_at hB ho).2.2.2.2 hi) (fun i o e hi ho he hb => (flowB_at hB ho).2.2.1 e he hb) (hend listed a w inv hall)
      have hk' : k < listed.size := by rw [inv.size]; exact h2
      rw [Array.getElem?_eq_getElem hk']
      congr 1
      cases hv : listed[k] with
      | false => rfl
      | true => have := inv.only k (by rw [Array.getElem?_eq_getElem hk', hv]); omega
    · -- one of the first part is left
      have hex : ∃ k, k < m ∧ listed[k]? = some false := by
        apply Classical.byContradiction
        intro hno
        apply hall
        intro k hk
        have hk' : k < listed.size := by rw [inv.size]; omega
        rw [Array.getElem?_eq_getElem hk']
        congr 1
        cases hv : listed[k] with
        | true => rfl
        | false => exact absurd ⟨k, hk, by rw [Array.getElem?_eq_getElem hk', hv]⟩ hno
      obtain ⟨kx, hkx⟩ := hex
      obtain ⟨k0, ⟨hk0, hk0f⟩, _, hmin⟩ := exists_least (fun k => k < m ∧ listed[k]? = some false) kx hkx
      have hk0s : k0 < ops.size := by omega
      have hready0 : k0 ∈ Region.ready .any ops listed := by
        have ho : ops[k0]? = some ops[k0] := Array.getElem?_eq_getElem hk0s
        refine mem_ready.2 ⟨getD_f.2 hk0f, _, ho, fun e he hb => getD_t.2 ?_⟩
        have hlt := (flowB_at hB ho).2.2.1 e he hb
        have hk' : e.on < listed.size := by rw [inv.size]; omega
        rw [Array.getElem?_eq_getElem hk']
        congr 1
        cases hv : listed[e.on] with
        | true => rfl
        | false => have := hmin e.on ⟨by omega, by rw [Array.getElem?_eq_getElem hk', hv]⟩; omega
      refine ⟨fun h => (by rw [h] at hready0; cases hready0), fun j hj => ?_⟩
      obtain ⟨hjf, o, hoj, hedges⟩ := mem_ready.1 hj
      have hjf := getD_f.1 hjf
      have hjs := (Array.getElem?_eq_some_iff.1 hoj).1
      obtain ⟨hnd, hdst, hafter, hpre, htail⟩ := flowB_at hB hoj
      have hjm : j < m := by
        rcases Nat.lt_or_ge j m with h | h
        · exact h
        · obtain ⟨e, he, hb, heq⟩ := edgeTo_spec (htail h k0 (by omega))
          have := getD_t.1 (hedges e he hb)
          rw [heq, hk0f] at this; cases this
      have hjl : listed.toList[j]? = some false := by simpa using hjf
      obtain ⟨K, hK⟩ : ∃ K, Ks[j]? = some K := ⟨_, List.getElem?_eq_getElem (by omega)⟩
      have htake : (ops.toList.take m)[j]? = some o := by rw [List.getElem?_take_of_lt hjm]; simpa using hoj
      obtain ⟨hstab, htrip⟩ := htr j o K htake hK
      -- what is known of the slots that it looks at
      have hkns : KnS (accL (((ops.toList.take m).zip Ks).take j)) fr (o.looksAt ops) N ds a w := by
        refine ⟨inv.asz, inv.adf, fun t ht => ?_⟩
        cases hl : (accL (((ops.toList.take m).zip Ks).take j)).lookup t with
        | some k' =>
          obtain ⟨k, p, hkp, hpd⟩ := accL_some _ _ rfl hl
          have hkj : k < j := by
            have := (List.getElem?_eq_some_iff.1 hkp).1
            simp at this; omega
          rw [List.getElem?_take_of_lt hkj, List.getElem?_zip_eq_some] at hkp
          rw [List.getElem?_take_of_lt (by omega)] at hkp
          have hopk : ops[k]? = some p := by simpa using hkp.1
          have hed := ((hpre hjm k p t (by omega) hopk hpd).2 ht)
          rcases hed with h | h
          · omega
          · rw [if_pos hkj] at h
            obtain ⟨e, he, hb, heq⟩ := edgeTo_spec h
            have := getD_t.1 (hedges e he hb)
            rw [heq] at this
            exact inv.got k p k' t hopk hkp.2 this hpd
        | none =>
          intro v hv
          refine inv.base t v (fun k p hkm hp hpd => ?_) hv
          have hks : k < listed.size := by rw [inv.size]; exact (Array.getElem?_eq_some_iff.1 hp).1
          rcases Nat.lt_trichotomy k j with h | h | h
          · exfalso
            obtain ⟨K', hK'⟩ : ∃ K', Ks[k]? = some K' := ⟨_, List.getElem?_eq_getElem (by omega)⟩
            refine accL_none _ _ rfl hl k p K' ?_ hpd
            rw [List.getElem?_take_of_lt h, List.getElem?_zip_eq_some]
            exact ⟨by rw [List.getElem?_take_of_lt hkm]; simpa using hp, hK'⟩
          · rw [h]; exact hjf
          · rcases (hpre hjm k p t hkm hp hpd).2 ht with h' | h'
            · omega
            · rw [if_neg (by omega)] at h'
              obtain ⟨e, he, hb, heq⟩ := edgeTo_spec h'
              rw [Array.getElem?_eq_getElem hks]
              congr 1
              cases hv' : listed[k] with
              | false => rfl
              | true =>
                have := inv.closed k p e hp (by rw [Array.getElem?_eq_getElem hks, hv']) he hb
                rw [heq, hjf] at this; cases this
      -- the step
      have next : ∀ v w', Below w.heap.size w w' → K.holds v w' → wpAnyIn (FF r) 0 P .any ops Q n (listed.setIfInBounds j true) (a.put o.dst v) w' := fun v w' hb hkv => by
        have hjls : j < listed.size := by rw [inv.size]; exact hjs
        have hset : ∀ k, (listed.setIfInBounds j true)[k]? = if j = k then some true else listed[k]? := fun k => by
          rw [Array.getElem?_setIfInBounds]; split
          · rename_i e; subst e; simp
          · rfl
        refine ih _ _ w' ?_ ?_
        · have hc : (listed.setIfInBounds j true).toList.count true = listed.toList.count true + 1 := by
            rw [Array.toList_setIfInBounds, List.count_set (by simpa using hjls)]
            have : listed.toList[j]'(by simpa using hjls) = false := by
              have := hjl; rw [List.getElem?_eq_getElem (by simpa using hjls)] at this; simpa using this
            rw [this]; simp
          omega
        · refine ⟨by simp [inv.size], by cases o.dst <;> simp [Act.put, inv.asz], by cases o.dst <;> simp [Act.put, inv.adf], inv.kn.grow hb, ?_, ?_, ?_, ?_⟩
          · intro k p K' t hp hK' hlk hpd
            rw [hset] at hlk
            by_cases e : j = k
            · subst e
              rw [hoj] at hp; cases hp
              rw [hK] at hK'; cases hK'
              refine ⟨v, ?_, hkv⟩
              have ht : t < N := by rw [hpd] at hdst; simpa [dstOk] using hdst
              simp [hpd, Act.put, inv.asz, ht]
            · rw [if_neg e] at hlk
              obtain ⟨v', h1, h2⟩ := inv.got k p K' t hp hK' hlk hpd
              have hkm := inv.only k hlk
              have hst : K'.stable := (htr k p K' (by rw [List.getElem?_take_of_lt hkm]; simpa using hp) hK').1
              refine ⟨v', ?_, Kno.keep hst h2 hb⟩
              have hne : o.dst ≠ some t := by
                rcases (hpre hjm k p t hkm hp hpd).1 with h | h
                · exact absurd h.symm e
                · exact h
              cases hd : o.dst with
              | none => exact h1
              | some u =>
                rw [hd] at hne
                simp only [Act.put, Array.getElem?_setIfInBounds]
                rw [if_neg (fun e' => hne (by rw [e']))]
                exact h1
          · intro t v' hno hv'
            have hne : o.dst ≠ some t := fun h => by
              have := hno j o hjm hoj h
              rw [hset, if_pos rfl] at this; cases this
            have hb' := inv.base t v' (fun k p hkm hp hpd => by
              have := hno k p hkm hp hpd
              rw [hset] at this
              split at this
              · cases this
              · exact this) hv'
            cases hd : o.dst with
            | none => exact hb'
            | some u =>
              rw [hd] at hne
              simp only [Act.put, Array.getElem?_setIfInBounds]
              rw [if_neg (fun e' => hne (by rw [e']))]
              exact hb'
          · intro k hlk
            rw [hset] at hlk
            split at hlk
            · rename_i e; omega
            · exact inv.only k hlk
          · intro k p e hp hlk he hbe
            rw [hset] at hlk
            rw [hset]
            split
            · rfl
            · split at hlk
              · rename_i e'; subst e'
                rw [hoj] at hp; cases hp
                exact getD_t.1 (hedges e he hbe)
              · exact inv.closed k p e hp hlk he hbe
      unfold wpOpIn
      simp only [hoj]
      rcases htrip a w hkns inv.kn with ⟨hw, hop⟩ | ⟨hw, hku⟩
      · rw [if_pos hw]
        rcases hop with ⟨v, w', h1, h2, h3⟩ | ⟨f, args, h1, h2⟩
        · exact op1_wpIn hnd h1 (next v w' h2 h3)
        · refine ⟨fun f _ => FF_fn r f, ?_⟩
          rw [Oper.semAt_plain _ _ _ (noDefer_spec hnd), h1, Oper.uponIn_enter]
          refine ⟨by simp [FF_depth], (callsFF (r := r) h2).mono ?_⟩
          rintro e w' ⟨v, rfl, h3, h4⟩
          exact next v w' h3 h4
      · rw [if_neg (by rw [hw]; simp)]
        exact ⟨fun f _ => FF_fn r f, next undef w (Below.refl _ _) hku⟩

theorem endFW_use {ops : Array Oper} {tail : List Oper} : ∀ (acc : Acc) (fr0 : Fr) (C : World → Prop) (a : Act) (w : World), EndFW P r N ds ops Q H S tail acc fr0 C → C w → Kn w H S →
    a.tmps.size = N → a.defers = ds → (∀ t k, acc.lookup t = some k → ∃ v, a.tmps[t]? = some v ∧ k.holds v w) → (acc.map (·.1)).Nodup → (∀ t v, (∀ k, acc.lookup t ≠ some k) → fr0.lookup t = some v → a.tmps[t]? = some v) →
    wpListIn (FF r) 0 P ops Q tail a w
  | [], fr0, C, a, w, h, hC, hk, hs, hd, _, _, hb => h a w ⟨hs, hd, fun t v hv => hb t v (by simp) hv⟩ hk hC
  | (t, k) :: acc, fr0, C, a, w, h, hC, hk, hs, hd, hg, hn, hb => by
    simp only [List.map_cons, List.nodup_cons] at hn
    obtain ⟨v, hv, hkv⟩ := hg t k (by simp)
    have hnt : acc.lookup t = none := by
      cases hl : acc.lookup t with
      | none => rfl
      | some k' =>
        exfalso
        apply hn.1
        have : ∀ (l : Acc), l.lookup t = some k' → t ∈ l.map (·.1) := by
          intro l
          induction l with
          | nil => simp
          | cons p l ih =>
            obtain ⟨u, x⟩ := p
            intro h
            simp only [List.lookup_cons] at h
            by_cases e : t = u
            · simp [e]
            · have e' : (t == u) = false := by simpa using e
              rw [e'] at h; simp only [List.map_cons, List.mem_cons]; exact .inr (ih h)
        exact this acc hl
    have hg' : ∀ u x, acc.lookup u = some x → ∃ v, a.tmps[u]? = some v ∧ x.holds v w := fun u x hx => by
      refine hg u x ?_
      simp only [List.lookup_cons]
      by_cases e : u = t
      · subst e; rw [hnt] at hx; cases hx
      · have e' : (u == t) = false := by simpa using e
        rw [e']; exact hx
    have hb' : ∀ u x, (∀ k, acc.lookup u ≠ some k) → ((t, v) :: fr0).lookup u = some x → a.tmps[u]? = some x := fun u x hno hx => by
      simp only [List.lookup_cons] at hx
      by_cases e : u = t
      · subst e; simp at hx; subst hx; exact hv
      · have e' : (u == t) = false := by simpa using e
        rw [e'] at hx
        refine hb u x (fun k' => ?_) hx
        simp only [List.lookup_cons, e']
        exact hno k'
    cases k with
    | val u =>
      have : v = u := hkv
      subst this
      exact endFW_use acc _ C a w h hC hk hs hd hg' hn.2 hb'
    | sat ψ => exact endFW_use acc _ _ a w (h v) ⟨hC, hkv⟩ hk hs hd hg' hn.2 hb'

theorem cw_flow {id : Nat} {l : List Oper} (m : Nat) (hmx : P.follows .mixedOrders = true) (hB : flowB N l m = true) (h : FW P N ds l.toArray fr H S (fun tail acc => (acc.map (·.1)).Nodup ∧ EndFW P r N ds l.toArray Q H S tail acc fr (fun _ => True)) m l []) :
    CW P r N ds (.region id l.toArray true) Q fr H S := by
  refine ⟨fun a w ha hw => ?_⟩
  refine wpIn_region_any hmx ?_
  obtain ⟨Ks, h1, h2, h3, h4, h5⟩ := FW.all m l [] h
  simp only [List.nil_append] at h3 h4 h5
  refine flow_any (Ks := Ks) h1 (by simpa using h2) (by simpa using hB) (fun j o k ho hk => h3 j o k (by simpa using ho) hk) ?_ _ _ a _ (by simp [List.count_replicate]) ?_
  · intro listed a w inv hall
    rw [show l.toArray.toList = l from rfl]
    refine endFW_use _ fr _ a w h5 trivial inv.kn inv.asz inv.adf ?_ h4 ?_
    · intro t k hl
      obtain ⟨j, o, hj, hd⟩ := accL_some _ _ rfl hl
      rw [List.getElem?_zip_eq_some] at hj
      have hjm : j < m := by have := (List.getElem?_eq_some_iff.1 hj.1).1; simp at this; omega
      rw [List.getElem?_take_of_lt hjm] at hj
      exact inv.got j o k t (by simpa using hj.1) hj.2 (hall j hjm) hd
    · intro t v hno hv
      refine inv.base t v (fun k p hkm hp hpd => ?_) hv
      exfalso
      obtain ⟨K', hK'⟩ : ∃ K', Ks[k]? = some K' := ⟨_, List.getElem?_eq_getElem (by omega)⟩
      cases hl : (accL ((l.take m).zip Ks)).lookup t with
      | some x => exact hno x hl
      | none =>
        refine accL_none _ _ rfl hl k p K' ?_ hpd
        rw [List.getElem?_zip_eq_some]
        exact ⟨by rw [List.getElem?_take_of_lt hkm]; simpa using hp, hK'⟩
  · refine ⟨by simp, ha.size, ha.defs, hw.drawn _, ?_, fun t v _ hv => ha.at_ t v hv, ?_, ?_⟩
    · intro k o K t _ _ hl
      simp [Array.getElem?_replicate] at hl
    · intro k hl; simp [Array.getElem?_replicate] at hl
    · intro k o e _ hl; simp [Array.getElem?_replicate] at hl

/-! ### what a triple is shown by -/
def frS (ops : Array Oper) (o : Oper) (acc : Acc) (fr : Fr) : Fr :=
  (o.looksAt ops).filterMap fun t => match acc.lookup t with
    | some (.val v) => some (t, v)
    | some (.sat _) => none
    | none => (fr.lookup t).map fun v => (t, v)
theorem frS_ag {ops : Array Oper} {o : Oper} {acc : Acc} {a : Act} {w : World} (h : KnS acc fr (o.looksAt ops) N ds a w) : Ag N ds a (frS ops o acc fr) := by
  refine ⟨h.1, h.2.1, fun t v hl => ?_⟩
  have hmem : (t, v) ∈ frS ops o acc fr := by
    have : ∀ (l : Fr), l.lookup t = some v → (t, v) ∈ l := by
      intro l
      induction l with
      | nil => simp
      | cons p l ih =>
        obtain ⟨u, x⟩ := p
        intro h
        simp only [List.lookup_cons] at h
        by_cases e : t = u
        · subst e; simp at h; simp [h]
        · have e' : (t == u) = false := by simpa using e
          rw [e'] at h; exact List.mem_cons_of_mem _ (ih h)
    exact this _ hl
  simp only [frS, List.mem_filterMap] at hmem
  obtain ⟨u, hu, hx⟩ := hmem
  have := h.2.2 u hu
  cases hl' : acc.lookup u with
  | some k =>
    rw [hl'] at hx this
    cases k with
    | val y =>
      simp only [Option.some.injEq, Prod.mk.injEq] at hx
      obtain ⟨rfl, rfl⟩ := hx
      obtain ⟨v', h1, h2⟩ := this
      have : v' = y := h2
      rw [h1, this]
    | sat ψ => cases hx
  | none =>
    rw [hl'] at hx this
    cases hf : fr.lookup u with
    | none => rw [hf] at hx; cases hx
    | some y =>
      rw [hf] at hx
      simp only [Option.map_some, Option.some.injEq, Prod.mk.injEq] at hx
      obtain ⟨rfl, rfl⟩ := hx
      exact this _ hf
section
variable {ops : Array Oper} {K : List Oper → Acc → Prop} {m : Nat} {o : Oper} {l : List Oper} {acc : Acc}
theorem fw_rd {v : Value} (hg : gd ops (frS ops o acc fr) o = some true) (h : RD P o (frS ops o acc fr) H S v) (hr : FW P N ds ops fr H S K m l (push acc o.dst (.val v))) : FW P N ds ops fr H S K (m + 1) (o :: l) acc :=
  ⟨.val v, trivial, fun a w hk hw => .inl ⟨gd_spec (frS_ag hk) hg, .inl ⟨v, w, h _ _ a w (frS_ag hk) hw, Below.refl _ _, rfl⟩⟩, hr⟩
theorem fw_skip (hg : gd ops (frS ops o acc fr) o = some false) (hr : FW P N ds ops fr H S K m l (push acc o.dst (.val undef))) : FW P N ds ops fr H S K (m + 1) (o :: l) acc :=
  ⟨.val undef, trivial, fun _ _ hk _ => .inr ⟨gd_spec (frS_ag hk) hg, rfl⟩, hr⟩
theorem fw_al {f : Nat → Value} {ob : Obj} (hg : gd ops (frS ops o acc fr) o = some true) (h : ∀ N ds a w, Ag N ds a (frS ops o acc fr) → Kn w H S → Op1 P o a w (f w.heap.size) (w.alloc ob))
    (hr : FW P N ds ops fr H S K m l (push acc o.dst (.sat fun v w => ∃ b, v = f b ∧ w.heap[b]? = some ob ∧ Fresh b H S))) : FW P N ds ops fr H S K (m + 1) (o :: l) acc :=
  ⟨.sat fun v w => ∃ b, v = f b ∧ w.heap[b]? = some ob ∧ Fresh b H S, fun v w w' h hb => by
    obtain ⟨b, h1, h2, h3⟩ := h
    exact ⟨b, h1, (hb.block b (Array.getElem?_eq_some_iff.1 h2).1).trans h2, h3⟩,
   fun a w hk hw => .inl ⟨gd_spec (frS_ag hk) hg, .inl ⟨_, _, h _ _ a w (frS_ag hk) hw, below_alloc w ob, w.heap.size, rfl, heap_alloc_new w ob, hw.fresh⟩⟩, hr⟩
variable {dst : Option Tmp} {ty : TypeId} {pos : String} {aft : Array Edge} {g : Option (Nat × Bool)}
theorem run_call {x : Operand} {xs : List Operand} {ats : Array TypeId} {f : FuncId} {fi ca : Array Value} {vs : List Value} {args : Array Value} {fr : Fr} {a : Act} (ha : Ag N ds a fr)
    (hx : ev fr x = some (.func (.func f) fi ca)) (hxs : xs.mapM (ev fr) = some vs) (he : ∀ args w, (callFunc f args).run P w = .ok (.enter f args) w) (hargs : fi ++ vs.toArray ++ ca = args) (w : World) :
    (execOp a.eval ⟨dst, .call ⟨.value x, xs.toArray, ats⟩, ty, pos, aft, g⟩).run P w = .ok (.enter f args) w := by
  subst hargs
  have e1 : xs.toArray.map a.eval = vs.toArray := by rw [← evs_map ha _ _ hxs]; simp
  simp only [execOp, resolve, e1, ha.ev hx, Deferred.ofValue, Sem.run_bind, Sem.run_pure, Result.andThen_ok, invoke]
  exact he _ _
theorem fw_call {x : Operand} {xs : List Operand} {ats : Array TypeId} {f : FuncId} {fi ca : Array Value} {vs : List Value} {args : Array Value} {v : Value}
    (hg : gd ops (frS ops ⟨dst, .call ⟨.value x, xs.toArray, ats⟩, ty, pos, aft, g⟩ acc fr) ⟨dst, .call ⟨.value x, xs.toArray, ats⟩, ty, pos, aft, g⟩ = some true)
    (hx : ev (frS ops ⟨dst, .call ⟨.value x, xs.toArray, ats⟩, ty, pos, aft, g⟩ acc fr) x = some (.func (.func f) fi ca))
    (hxs : xs.mapM (ev (frS ops ⟨dst, .call ⟨.value x, xs.toArray, ats⟩, ty, pos, aft, g⟩ acc fr)) = some vs) (he : ∀ args w, (callFunc f args).run P w = .ok (.enter f args) w) (hargs : fi ++ vs.toArray ++ ca = args)
    (h : ∀ w, Kn w H S → Calls P f args w fun e w' => e = .returned v ∧ Below w.heap.size w w')
    (hr : FW P N ds ops fr H S K m l (push acc dst (.val v))) : FW P N ds ops fr H S K (m + 1) (⟨dst, .call ⟨.value x, xs.toArray, ats⟩, ty, pos, aft, g⟩ :: l) acc :=
  ⟨.val v, trivial, fun a w hk hw => .inl ⟨gd_spec (frS_ag hk) hg, .inr ⟨f, args, run_call (frS_ag hk) hx hxs he hargs w, by
    refine (h w hw).mono ?_
    rintro e w' ⟨h1, h2⟩
    exact ⟨v, h1, h2, rfl⟩⟩⟩, hr⟩
theorem fw_end (hn : (acc.map (·.1)).Nodup) {tail : List Oper} {Q : Exit → Act → World → Prop} {fr0 : Fr} (h : EndFW P r N ds ops Q H S tail acc fr0 (fun _ => True)) :
    FW P N ds ops fr H S (fun tail acc => (acc.map (·.1)).Nodup ∧ EndFW P r N ds ops Q H S tail acc fr0 (fun _ => True)) 0 tail acc := ⟨hn, h⟩
theorem end_nil {tail : List Oper} {Q : Exit → Act → World → Prop} {fr0 : Fr} {C : World → Prop} (h : OW P r N ds ops tail Q fr0 H S) : EndFW P r N ds ops Q H S tail [] fr0 C := fun a w ha hk _ => h.run a w ha hk
theorem end_val {tail : List Oper} {Q : Exit → Act → World → Prop} {fr0 : Fr} {C : World → Prop} {t : Nat} {v : Value} (h : EndFW P r N ds ops Q H S tail acc ((t, v) :: fr0) C) : EndFW P r N ds ops Q H S tail ((t, .val v) :: acc) fr0 C := h
end
end
end Go.Proofs.YtmlemnbhjbaedaaGreatDoor

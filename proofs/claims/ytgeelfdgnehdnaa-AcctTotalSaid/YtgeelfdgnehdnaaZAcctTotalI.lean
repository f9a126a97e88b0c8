/-
  What the proof of AcctTotal stands on, part 9. No condition.
-/
import Derived.ChangeArms
import Derived.ChangeOld
import Derived.OpenVars
import Derived.Carry
import Derived.Test.YtgeelfdgnehdnaaZAcctTotalH
namespace Go.Proofs.Ytgeelfdgnehdnaa
open Go.RowKit Go.ChangeShapes Go.WideShapes
set_option linter.unusedSimpArgs false
set_option linter.unusedVariables false
inductive Sh where
  | bool
  | int (k : IntKind)
  | str
  | arr (n sz : Nat) (s : Sh)
  | st (n : Nat) (fs : List Sh)
  | sl (sz bz : Nat) (s : Sh)
def Sh.cells : Sh → Nat
  | .arr n sz _ => n * sz
  | .st n _ => n
  | _ => 1
def Sh.agg : Sh → Bool
  | .arr _ _ _ => true
  | .st _ _ => true
  | _ => false
def shF (g : TypeId → Option Sh) (P : Program) : List Field → Nat → Option (List Sh × Nat)
  | [], off => some ([], off)
  | F :: Fs, off => match g F.type with
    | some s => match Nat.beq F.offset off && Nat.beq (P.cellsOf F.type) s.cells with
      | true => match shF g P Fs (off + s.cells) with
        | some (l, n) => some (s :: l, n)
        | none => none
      | false => none
    | none => none
def shOf (P : Program) : Nat → TypeId → Option Sh
  | 0, _ => none
  | d + 1, t => match P.underlying t with
    | some .bool => some .bool
    | some (.int k) => some (.int k)
    | some .string => some .str
    | some (.array n e) => match shOf P d e with
      | some s => match Nat.beq (P.cellsOf e) s.cells && Nat.beq (P.cellsOf t) (n * s.cells) with
        | true => some (.arr n s.cells s)
        | false => none
      | none => none
    | some (.slice e) => match shOf P d e with
      | some s => match Nat.beq (P.cellsOf e) s.cells && Nat.blt 0 s.cells with
        | true => some (.sl s.cells (P.bytesOf e) s)
        | false => none
      | none => none
    | some (.struct F) => match shF (shOf P d) P F.toList 0 with
      | some (l, n) => match Nat.beq (P.cellsOf t) n with
        | true => some (.st n l)
        | false => none
      | none => none
    | _ => none
mutual
/-- a value of that shape -/
def Fit : Sh → W → Prop
  | .bool, w => ∃ b, w = .bool b
  | .int k, w => ∃ n, w = .int k n ∧ (Lit.int k n).wf = true
  | .str, w => ∃ x, w = .str x ∧ x.length ≤ reachBytes
  | .arr n sz s, w => ∃ l, w = .arr (n * sz) sz l ∧ l.length = n ∧ ∀ x ∈ l, Fit s x
  | .st n fs, w => ∃ l, w = .agg n l ∧ FitL fs l
  | .sl sz bz s, w => ∃ l, w = .fz l sz false ∧ l.length * bz ≤ reachBytes ∧ ∀ x ∈ l, Fit s x
def FitL : List Sh → List W → Prop
  | [], l => l = []
  | s :: fs, l => ∃ x l', l = x :: l' ∧ Fit s x ∧ FitL fs l'
end
theorem Fit.size {s : Sh} {w : W} (h : Fit s w) : w.size = s.cells := by
  cases s <;> simp only [Fit] at h
  case bool => obtain ⟨_, rfl⟩ := h; rfl
  case int => obtain ⟨_, rfl, _⟩ := h; rfl
  case str => obtain ⟨_, rfl, _⟩ := h; rfl
  all_goals (obtain ⟨_, rfl, _⟩ := h; rfl)
theorem Fit.agg {s : Sh} {w : W} (h : Fit s w) : w.isAgg = s.agg := by
  cases s <;> simp only [Fit] at h
  case bool => obtain ⟨_, rfl⟩ := h; rfl
  case int => obtain ⟨_, rfl, _⟩ := h; rfl
  case str => obtain ⟨_, rfl, _⟩ := h; rfl
  all_goals (obtain ⟨_, rfl, _⟩ := h; rfl)
def Ex0 (W0 : World) : Prop := ∃ (bn : Nat) (cs : Array Value) (ty : TypeId) (fz : Nat × Nat), W0.heap[bn]? = some (.cells cs ty fz)
theorem segs {W0 : World} {s : Sh} {sz : Nat} : ∀ (n : Nat) (L : List Value), (∀ i, i < n → ∃ w, Fit s w ∧ HC W0 w ((L.drop (i * sz)).take sz)) → ∃ l : List W, l.length = n ∧ (∀ x ∈ l, Fit s x) ∧ HCL W0 l (L.take (n * sz))
  | 0, L, _ => ⟨[], rfl, by simp, by simp [HCL]⟩
  | n + 1, L, h => by
    obtain ⟨w, f, hc⟩ := h 0 (by omega)
    obtain ⟨l, h1, h2, h3⟩ := segs n (L.drop sz) (fun i hi => by
      have := h (i + 1) (by omega)
      rw [List.drop_drop, show sz + i * sz = (i + 1) * sz by rw [Nat.add_mul]; omega]
      exact this)
    refine ⟨w :: l, by simp [h1], ?_, ?_⟩
    · intro x hx
      rcases List.mem_cons.1 hx with rfl | hx
      · exact f
      · exact h2 x hx
    · simp only [HCL]
      refine ⟨L.take sz, (L.drop sz).take (n * sz), ?_, by simpa using hc, h3⟩
      rw [show (n + 1) * sz = sz + n * sz by rw [Nat.add_mul]; omega, List.take_add]
section
variable {H : Type} {enc : TypeId × Value → H} {P : Program} {W0 : World}
theorem mem_weightsAll {e : TypeId} : ∀ {l : List (DataW H)} {d : DataW H} {n : Nat}, d ∈ l → n ∈ d.weights P e → n ∈ DataW.weightsAll P e l
  | [], _, _, h, _ => by simp at h
  | x :: l, d, n, h, hn => by
    rw [DataW.weightsAll]
    rcases List.mem_cons.1 h with rfl | h
    · exact List.mem_append_left _ hn
    · exact List.mem_append_right _ (mem_weightsAll h hn)
abbrev Tr0 (enc : TypeId × Value → H) (P : Program) (W0 : World) := DataW.trod enc P W0 0 (fun _ => true) true
theorem fields {g : TypeId → Option Sh} {m : Nat} (ih : ∀ t sh, g t = some sh → ∀ cs x, Tr0 enc P W0 m t cs = some x → (∀ n ∈ x.1.weights P t, n ≤ reachBytes) → ((∃ a n c, Value.slice (some a) n c ∈ cs) → Ex0 W0) → ∃ w, Fit sh w ∧ HC W0 w cs) (cs : List Value) (hE : (∃ a n c, Value.slice (some a) n c ∈ cs) → Ex0 W0) :
    ∀ (Fs : List Field) (xs : List (DataW H × List MemPlace)) (off : Nat) (fs : List Sh) (n : Nat), shF g P Fs off = some (fs, n) → xs.length = Fs.length → (∀ (i : Nat) (f : Field), Fs[i]? = some f → Tr0 enc P W0 m f.type ((cs.drop f.offset).take (P.cellsOf f.type)) = xs[i]?) →
      (∀ n ∈ DataW.weightsEach P (Fs.map (·.type)) (xs.map (·.1)), n ≤ reachBytes) → ∃ l, FitL fs l ∧ HCL W0 l ((cs.drop off).take (n - off)) ∧ off ≤ n
  | [], xs, off, fs, n, hs, hl, hx, hw => by
    simp only [shF, Option.some.injEq, Prod.mk.injEq] at hs
    obtain ⟨rfl, rfl⟩ := hs
    exact ⟨[], by simp [FitL], by simp [HCL], Nat.le_refl _⟩
  | F :: Fs, [], off, fs, n, hs, hl, hx, hw => by simp at hl
  | F :: Fs, x :: xs, off, fs, n, hs, hl, hx, hw => by
    unfold shF at hs
    split at hs
    · rename_i s hg
      split at hs
      · rename_i hc
        simp only [Bool.and_eq_true, Nat.beq_eq] at hc
        split at hs
        · rename_i l' n' hr
          simp only [Option.some.injEq, Prod.mk.injEq] at hs
          obtain ⟨rfl, rfl⟩ := hs
          simp only [List.map_cons, DataW.weightsEach] at hw
          obtain ⟨l, k1, k2, k3⟩ := fields ih cs hE Fs xs (off + s.cells) l' n' hr (by simpa using hl) (fun i f hf => by
            have := hx (i + 1) f (by simpa using hf)
            simpa using this) (fun k hk => hw k (List.mem_append_right _ hk))
          have h0 := hx 0 F rfl
          simp only [List.getElem?_cons_zero] at h0
          obtain ⟨w, f1, f2⟩ := ih F.type s hg _ x h0 (fun k hk => hw k (List.mem_append_left _ hk)) (fun ⟨a, n, c, hm⟩ => hE ⟨a, n, c, List.mem_of_mem_drop (List.mem_of_mem_take hm)⟩)
          rw [hc.1, hc.2] at f2
          refine ⟨w :: l, ⟨w, l, rfl, f1, k1⟩, ?_, by omega⟩
          simp only [HCL]
          refine ⟨_, _, ?_, f2, k2⟩
          rw [show n' - off = s.cells + (n' - (off + s.cells)) by omega, List.take_add, List.drop_drop]
        · cases hs
      · cases hs
    · cases hs
theorem open_trod : ∀ (d : Nat) (t : TypeId) (sh : Sh), shOf P d t = some sh → ∀ (fuel : Nat) (cs : List Value) (x : DataW H × List MemPlace), Tr0 enc P W0 fuel t cs = some x → (∀ n ∈ x.1.weights P t, n ≤ reachBytes) → ((∃ a n c, Value.slice (some a) n c ∈ cs) → Ex0 W0) → ∃ w, Fit sh w ∧ HC W0 w cs
  | 0, t, sh, hs => by simp [shOf] at hs
  | d + 1, t, sh, hs => fun fuel cs x h hw hE => by
    unfold shOf at hs
    split at hs
    · rename_i ht
      cases hs
      obtain ⟨b, rfl, rfl⟩ := DataW.trod_bool ht h
      exact ⟨.bool b, ⟨b, rfl⟩, by simp [HC]⟩
    · rename_i k ht
      cases hs
      obtain ⟨n, rfl, rfl, hwf⟩ := DataW.trod_int ht h
      exact ⟨.int k n, ⟨n, rfl, hwf⟩, by simp [HC]⟩
    · rename_i ht
      cases hs
      obtain ⟨s, rfl, rfl, hsz⟩ := DataW.trod_string ht h
      refine ⟨.str s.data.toList, ⟨_, rfl, ?_⟩, ?_⟩
      · exact hw _ (by simp [DataW.weights])
      · simp only [HC]
    · rename_i n e ht
      split at hs
      · rename_i s he
        split at hs
        · rename_i hc
          cases hs
          simp only [Bool.and_eq_true, Nat.beq_eq] at hc
          obtain ⟨xs, m, rfl, rfl, hl, hxl, hx⟩ := DataW.trod_array ht h
          rw [hc.1] at hx
          have hw : ∀ k ∈ DataW.weightsAll P e (xs.map (·.1)), k ≤ reachBytes := fun k hk => hw k (by simp only [DataW.weights, ht]; exact hk)
          obtain ⟨l, l1, l2, l3⟩ := segs (W0 := W0) (s := s) (sz := s.cells) n cs (fun i hi => by
            have h1 := hx i hi
            have hlt : i < xs.length := by omega
            rw [List.getElem?_eq_getElem hlt] at h1
            exact open_trod d e s he m _ _ h1 (fun k hk => hw k (mem_weightsAll (List.mem_map_of_mem (List.getElem_mem hlt)) hk)) (fun ⟨a, n, c, hm⟩ => hE ⟨a, n, c, List.mem_of_mem_drop (List.mem_of_mem_take hm)⟩))
          have hcl : cs.length = n * s.cells := by rw [hl, hc.2]
          refine ⟨.arr (n * s.cells) s.cells l, ⟨l, rfl, l1, l2⟩, ?_⟩
          simp only [HC]
          refine ⟨hcl, fun x hx => (l2 x hx).size, by rw [l1], ?_⟩
          rwa [List.take_of_length_le (by omega)] at l3
        · cases hs
      · cases hs
    · rename_i e ht
      split at hs
      · rename_i s he
        split at hs
        · rename_i hc
          cases hs
          simp only [Bool.and_eq_true, Nat.beq_eq] at hc
          obtain ⟨hce, hpos⟩ := hc
          have hpos : 0 < s.cells := blt_t hpos
          rcases DataW.trod_slice ht h with ⟨rfl, rfl⟩ | ⟨a, len, cap, elems, rest, n, rfl, rfl, rfl, hb, hl, hm, hlen, hel, hsp, _⟩
          · exact ⟨.fz [] s.cells false, ⟨[], rfl, by simp, by simp⟩, by unfold HC; exact ⟨rfl, .inl ⟨rfl, rfl⟩⟩⟩
          · by_cases hc0 : cap = 0
            · subst hc0
              obtain rfl : len = 0 := by omega
              obtain ⟨bn, cs', ty, fz, ho⟩ := hE ⟨a, 0, 0, by simp⟩
              exact ⟨.fz [] s.cells false, ⟨[], rfl, by simp, by simp⟩, by unfold HC; exact ⟨rfl, .inr (.inl ⟨rfl, hpos, a, bn, cs', ty, fz, rfl, ho⟩)⟩⟩
            · obtain ⟨hrl, hr⟩ := hsp rfl
              rw [hce] at hel hr
              have each : ∀ i, i < cap → ∃ csi y, W0.cells? 0 (a.add (i * s.cells)) s.cells = some csi ∧ Tr0 enc P W0 n e csi = some y ∧ (i < len → elems[i]? = some y) := fun i hi => by
                by_cases h1 : i < len
                · have h2 := hel i h1
                  have hlt : i < elems.length := by omega
                  rw [List.getElem?_eq_getElem hlt, Option.bind_eq_some_iff] at h2
                  obtain ⟨csi, q1, q2⟩ := h2
                  exact ⟨csi, _, q1, q2, fun _ => List.getElem?_eq_getElem hlt⟩
                · have h2 := hr (i - len) (by omega)
                  have hlt : i - len < rest.length := by omega
                  rw [List.getElem?_eq_getElem hlt, Option.bind_eq_some_iff, show len + (i - len) = i by omega] at h2
                  obtain ⟨csi, q1, q2⟩ := h2
                  exact ⟨csi, _, q1, q2, fun h => absurd h h1⟩
              -- the block
              obtain ⟨cs0, y0, e0, _, _⟩ := each 0 (by omega)
              obtain ⟨_, l0, c0⟩ := World.cells?_some e0
              have c1 := c0 0 hpos
              rw [Nat.zero_mul] at c1
              have ha0 : (a.add 0).add 0 = a := by simp [Addr.add]
              rw [ha0, List.getElem?_eq_getElem (by omega)] at c1
              obtain ⟨ab, ao, asp⟩ := a
              unfold World.cell? at c1
              split at c1
              · rename_i cs' ty fz ho
                simp only at ho c1
                split at c1
                · cases c1
                · rename_i hsp0
                  have hsp0 : asp = none := by simpa using hsp0
                  subst hsp0
                  obtain ⟨L, hL⟩ : ∃ L, L = cs'.toList.drop ao := ⟨_, rfl⟩
                  have seg : ∀ i, i < cap → ∀ csi, W0.cells? 0 (Addr.add ⟨ab, ao, none⟩ (i * s.cells)) s.cells = some csi → csi = (L.drop (i * s.cells)).take s.cells := fun i hi csi hcs => by
                    obtain ⟨_, q1, q2⟩ := World.cells?_some hcs
                    apply List.ext_getElem?
                    intro k
                    by_cases hk : k < s.cells
                    · have := q2 k hk
                      rw [addr_add, addr_add] at this
                      simp only [World.cell?, ho] at this
                      rw [← this, List.getElem?_take_of_lt hk, List.getElem?_drop, hL, List.getElem?_drop, Array.getElem?_toList, Nat.add_assoc]
                      simp
                    · rw [List.getElem?_eq_none (by omega), List.getElem?_eq_none (by simp; omega)]
                  have hLlen : cap * s.cells ≤ L.length := by
                    obtain ⟨csi, y, q1, _, _⟩ := each (cap - 1) (by omega)
                    obtain ⟨_, q2, _⟩ := World.cells?_some q1
                    have q3 := seg (cap - 1) (by omega) csi q1
                    have q4 := congrArg List.length q3
                    rw [q2, List.length_take, List.length_drop] at q4
                    have : cap * s.cells = (cap - 1) * s.cells + s.cells := by
                      have := Nat.add_mul (cap - 1) 1 s.cells
                      rw [show cap - 1 + 1 = cap by omega] at this; omega
                    omega
                  have hw2 : ∀ k ∈ DataW.weightsAll P e (elems.map (·.1)), k ≤ reachBytes := fun k hk => hw k (by simp only [DataW.weights, ht]; exact List.mem_cons_of_mem _ (List.mem_append_left _ hk))
                  have hw1 : (elems.length + rest.length) * P.bytesOf e ≤ reachBytes := hw _ (by simp only [DataW.weights, ht, List.length_map]; exact List.mem_cons_self ..)
                  obtain ⟨l, l1, l2, l3⟩ := segs (W0 := W0) (s := s) (sz := s.cells) len L (fun i hi => by
                    obtain ⟨csi, y, q1, q2, q3⟩ := each i (by omega)
                    rw [seg i (by omega) csi q1] at q2
                    exact open_trod d e s he n _ _ q2 (fun k hk => hw2 k (mem_weightsAll (List.mem_map_of_mem (List.mem_of_getElem? (q3 hi))) hk)) (fun _ => ⟨ab, cs', ty, fz, ho⟩))
                  have hlc : len * s.cells ≤ cap * s.cells := Nat.mul_le_mul_right _ hl
                  refine ⟨.fz l s.cells false, ⟨l, rfl, ?_, l2⟩, ?_⟩
                  · rw [l1]
                    refine Nat.le_trans (Nat.mul_le_mul_right _ ?_) hw1
                    omega
                  · unfold HC
                    refine ⟨rfl, .inr (.inr ⟨⟨ab, ao, none⟩, cap, by rw [l1], by omega, rfl, hpos, fun x hx => (l2 x hx).size, cs'.toList.take ao, L.take (len * s.cells), L.drop (len * s.cells), ty, fz, ?_, ?_, l3⟩)⟩
                    · rw [List.take_append_drop, hL, List.take_append_drop, Array.toArray_toList]; exact ho
                    · have hq : (cs'.toList.take ao).length = min ao cs'.toList.length := List.length_take
                      have := congrArg List.length hL
                      rw [List.length_drop] at this
                      have h2 : 0 < cap * s.cells := Nat.mul_pos (by omega) hpos
                      show (cs'.toList.take ao).length = ao
                      omega
              · cases c1
        · cases hs
      · cases hs
    · rename_i F ht
      split at hs
      · rename_i fs n hF
        split at hs
        · rename_i hc
          cases hs
          have hc := Nat.eq_of_beq_eq_true hc
          obtain ⟨xs, m, rfl, rfl, hl, hxl, hx⟩ := DataW.trod_struct ht h
          obtain ⟨l, k1, k2, k3⟩ := fields (enc := enc) (fun t sh hs cs x h1 h2 h3 => open_trod d t sh hs m cs x h1 h2 h3) cs hE F.toList xs 0 fs n hF (by simpa using hxl) (fun i f hf => hx i f (by simpa using hf)) (fun k hk => hw k (by simp only [DataW.weights, ht]; exact hk))
          have hcl : cs.length = n := by rw [hl, hc]
          refine ⟨.agg n l, ⟨l, rfl, k1⟩, ?_⟩
          simp only [HC]
          refine ⟨hcl, ?_⟩
          rwa [List.drop_zero, Nat.sub_zero, List.take_of_length_le (by omega)] at k2
        · cases hs
      · cases hs
    · cases hs
theorem shape_ex {b : Nat} {x : TypeId × Nat} (h : W0.shape? b = some x) : Ex0 W0 := by
  unfold World.shape? at h
  split at h
  · rename_i cs ty fz ho; exact ⟨b, cs, ty, fz, ho⟩
  · cases h
theorem cell_ex {r : Reach} {base : Nat} {u : TypeId} {a : Addr} {n c : Nat} (h : Cell.okWide P W0 r base u (.slice (some a) n c)) : Ex0 W0 := by
  unfold Cell.okWide at h
  split at h
  all_goals first
    | (rename_i he; cases he; done)
    | skip
  unfold Cell.ok at h
  split at h
  all_goals first
    | exact h.elim
    | (rename_i he; cases he; done)
    | skip
  rename_i he
  cases he
  obtain ⟨_, _, row, cells, hs, _⟩ := h.2.2
  exact shape_ex hs
theorem cell_one {r : Reach} {base : Nat} {u : TypeId} {v : Value} (h : Cell.okWide P W0 r base u v) : v.cells = #[v] := by
  cases v <;> first
    | rfl
    | (exfalso
       unfold Cell.okWide at h
       split at h
       all_goals first
         | (rename_i he; cases he; done)
         | skip
       unfold Cell.ok at h
       split at h
       all_goals first
         | exact h.elim
         | (rename_i he; cases he; done))
theorem row_ex {r : Reach} {base : Nat} {t : TypeId} {cs : Array Value} (h : Row.okWide P W0 r base t cs) {a : Addr} {n c : Nat} (hm : Value.slice (some a) n c ∈ cs.toList) : Ex0 W0 := by
  obtain ⟨ts, _, _, hc⟩ := h
  obtain ⟨i, hi⟩ := List.getElem?_of_mem hm
  obtain ⟨u, _, hu⟩ := hc i _ (by simpa using hi)
  exact cell_ex hu
theorem ok_agg {r : Reach} {base d : Nat} {t : TypeId} {sh : Sh} {v : Value} (hs : shOf P d t = some sh) (hv : Value.okWide P W0 r base t v) : match sh.agg with
    | true => ∃ cs : Array Value, v = .agg cs ∧ Row.okWide P W0 r base t cs
    | false => Cell.okWide P W0 r base t v := by
  cases d with
  | zero => simp [shOf] at hs
  | succ d =>
    unfold shOf at hs
    unfold Value.okWide at hv
    split at hs
    · rename_i ht; cases hs; rw [ht] at hv; exact hv
    · rename_i k ht; cases hs; rw [ht] at hv; exact hv
    · rename_i ht; cases hs; rw [ht] at hv; exact hv
    · rename_i n e ht
      rw [ht] at hv
      obtain ⟨cs, rfl, _, hr⟩ := hv
      split at hs
      · split at hs
        · cases hs; exact ⟨cs, rfl, hr⟩
        · cases hs
      · cases hs
    · rename_i e ht
      rw [ht] at hv
      split at hs
      · split at hs
        · cases hs; exact hv
        · cases hs
      · cases hs
    · rename_i F ht
      rw [ht] at hv
      obtain ⟨cs, rfl, _, hr⟩ := hv
      split at hs
      · split at hs
        · cases hs; exact ⟨cs, rfl, hr⟩
        · cases hs
      · cases hs
    · cases hs
theorem open_arg {r : Reach} {base d : Nat} {t : TypeId} {sh : Sh} {v : Value} {x : DataW H} {p : List MemPlace} (hs : shOf P d t = some sh) (hv : Value.okWide P W0 r base t v) (hd : DataW.Trod enc P W0 0 (fun _ => true) true t v x p) (hw : ∀ n ∈ x.weights P t, n ≤ reachBytes) : ∃ w, Fit sh w ∧ HV W0 w v := by
  obtain ⟨fuel, hf⟩ := hd
  have hk := ok_agg hs hv
  obtain ⟨w, f, hc⟩ := open_trod d t sh hs fuel _ _ hf hw (fun ⟨a, n, c, hm⟩ => by
    split at hk
    · obtain ⟨cs, rfl, hr⟩ := hk
      exact row_ex hr hm
    · rw [cell_one hk] at hm
      simp only [List.mem_cons, List.not_mem_nil, or_false] at hm
      rw [← hm] at hk
      exact cell_ex hk)
  refine ⟨w, f, ?_⟩
  unfold HV
  rw [f.agg]
  generalize sh.agg = ag at hk
  cases ag with
  | true =>
    obtain ⟨cs, rfl, hr⟩ := hk
    exact ⟨cs.toList, by simp, hc⟩
  | false =>
    have hk : Cell.okWide P W0 r base t v := hk
    rw [cell_one hk] at hc
    exact hc
def shAll (P : Program) (d : Nat) : List TypeId → Option (List Sh)
  | [] => some []
  | t :: ts => match shOf P d t, shAll P d ts with
    | some s, some l => some (s :: l)
    | _, _ => none
theorem open_all {r : Reach} {base d : Nat} : ∀ {ts : List TypeId} {shs : List Sh} {vs : List Value} {xs : List (DataW H)} {p : List MemPlace}, shAll P d ts = some shs → (∀ (j : Nat) t v, ts[j]? = some t → vs[j]? = some v → Value.okWide P W0 r base t v) →
    DataW.TrodAll enc P W0 0 (fun _ => true) true ts vs xs p → (∀ n ∈ DataW.weightsEach P ts xs, n ≤ reachBytes) → ∃ ws, FitL shs ws ∧ HVL W0 ws vs
  | [], shs, vs, xs, p, hs, hv, hd, hw => by
    obtain ⟨rfl, rfl, rfl⟩ := trodAll_nil hd
    simp only [shAll, Option.some.injEq] at hs
    subst hs
    exact ⟨[], by simp [FitL], by simp [HVL]⟩
  | t :: ts, shs, vs, xs, p, hs, hv, hd, hw => by
    obtain ⟨v, vs', x, xs', p', q, rfl, rfl, rfl, h1, h2⟩ := trodAll_cons hd
    simp only [shAll] at hs
    split at hs
    · rename_i s l e1 e2
      cases hs
      simp only [DataW.weightsEach] at hw
      obtain ⟨w, f, k⟩ := open_arg e1 (hv 0 t v rfl rfl) h1 (fun n hn => hw n (List.mem_append_left _ hn))
      obtain ⟨ws, fs, ks⟩ := open_all e2 (fun j t v h3 h4 => hv (j + 1) t v (by simpa using h3) (by simpa using h4)) h2 (fun n hn => hw n (List.mem_append_right _ hn))
      exact ⟨w :: ws, ⟨w, ws, rfl, f, fs⟩, ⟨v, vs', rfl, k, ks⟩⟩
    · cases hs
def rowedAll (P : Program) : List TypeId → Bool
  | [] => true
  | t :: ts => P.readableRec t && Nat.blt t P.types.size && rowedAll P ts
theorem Below.trodAll (hl : laidOutB P = true) {W W' : World} (hb : Below W.heap.size W W') : ∀ {ts : List TypeId} {vs : List Value} {xs : List (DataW H)} {p : List MemPlace}, rowedAll P ts = true → DataW.TrodAll enc P W 0 (fun _ => true) true ts vs xs p → DataW.TrodAll enc P W' 0 (fun b => decide (b < W.heap.size)) true ts vs xs p
  | [], vs, xs, p, hr, h => by
    obtain ⟨rfl, rfl, rfl⟩ := trodAll_nil h
    exact trodAll_mk0
  | t :: ts, vs, xs, p, hr, h => by
    simp only [rowedAll, Bool.and_eq_true] at hr
    obtain ⟨v, vs', x, xs', p', q, rfl, rfl, rfl, h1, h2⟩ := trodAll_cons h
    refine trodAll_cons_mk (Below.trod hl hr.1.1 (blt_t hr.1.2) h1 hb ?_) (Below.trodAll hl hb hr.2 h2)
    obtain ⟨m, hm⟩ := h1
    exact DataW.trod_lt m _ _ _ hm
end
theorem Later.glob {C : Cfg} {h h' : Heap} {ρ ρ' : Env} (la : Later h ρ h' ρ') (gl : GlobOK C (DD (fun i => i < h.next) ρ) ρ) : GlobOK C (DD (fun i => i < h'.next) ρ') ρ' := fun g hg => by
  obtain ⟨h1, h2, h3⟩ := gl g hg
  obtain ⟨e1, e2, _, _⟩ := la.env g h1.1
  exact ⟨la.dd _ _ h1, by rw [e1]; exact h2, by rw [e2]; exact h3⟩
theorem Later.grel {C : Cfg} {G : Nat → Option W} {h h' : Heap} {ρ ρ' : Env} (la : Later h ρ h' ρ') (gr : GRel C G (ctx0 h)) : GRel C G (ctx0 h') := fun g w hg hw nw σ =>
  RV.mono (Γ := ⟨nw, σ, (ctx0 h).D, (ctx0 h).h⟩) (Γ' := ⟨nw, σ, (ctx0 h').D, (ctx0 h').h⟩) ⟨Nat.le_refl _, fun _ _ => rfl, la.le.D, la.le.val⟩ (gr g w hg hw nw σ)
theorem calls_of {P : Program} {C : Cfg} {G : Nat → Option W} (hmx : P.follows .mixedOrders = true) (hC : CfgOK P C) (hF : FnsOK P C) (hK : KnownOK P C) {f : FuncId} {shs : List Sh} (ps : ∀ ws, FitL shs ws → PS C G f ws (.bool true)) {W0 : World} {h : Heap} {ρ : Env} (s : Start W0 h ρ)
    (gl : GlobOK C (DD (fun i => i < h.next) ρ) ρ) (gr : GRel C G (ctx0 h)) {vs : List Value} (hv : ∃ ws, FitL shs ws ∧ HVL W0 ws vs) :
    Calls P f vs.toArray W0 fun e w' => e = .returned (.bool true) ∧ Below W0.heap.size W0 w' := by
  obtain ⟨ws, f1, hv⟩ := hv
  obtain ⟨h', ρ', xs, la, st, rfl, i, r⟩ := open_vs hv s
  exact law1 hmx hC hF hK (ps ws f1) st (la.glob gl) (la.grel gr) i r
theorem Start.bare (W0 : World) (K n : Nat) : Start W0 ⟨n, n, .nil⟩ (rho0 K) := ⟨fun i _ => Tr.get_nil i, fun i b hb => by
  have : (Tr.nil : Tr Blk).get i = some b := hb
  rw [Tr.get_nil] at this; cases this⟩
mutual
def zCells : Sh → List Value
  | .bool => [.bool false]
  | .int k => [.int k 0]
  | .str => [.string ⟨#[]⟩]
  | .arr n _ s => (List.replicate n (zCells s)).flatten
  | .st _ fs => zCellsL fs
  | .sl _ _ _ => [.slice none 0 0]
def zCellsL : List Sh → List Value
  | [] => []
  | s :: l => zCells s ++ zCellsL l
end
def zVal (s : Sh) : Value := match s.agg, zCells s with
  | true, l => .agg l.toArray
  | false, v :: _ => v
  | false, [] => .bool false
end Go.Proofs.Ytgeelfdgnehdnaa
namespace Go.Proofs.Ytgeelfdgnehdnaa
open Go.RowKit
set_option linter.unusedSimpArgs false
set_option linter.unusedVariables false
theorem fit_list {α : Type} {f : α → W} {Q : α → Prop} : ∀ {l : List W}, (∀ x ∈ l, ∃ a, x = f a ∧ Q a) → ∃ ys : List α, l = ys.map f ∧ ∀ a ∈ ys, Q a
  | [], _ => ⟨[], rfl, by simp⟩
  | x :: l, h => by
    obtain ⟨a, rfl, ha⟩ := h x (List.mem_cons_self ..)
    obtain ⟨ys, rfl, hs⟩ := fit_list (l := l) fun y hy => h y (List.mem_cons_of_mem _ hy)
    exact ⟨a :: ys, rfl, fun b hb => by
      rcases List.mem_cons.1 hb with rfl | hb
      · exact ha
      · exact hs b hb⟩
theorem fit_u8 {w : W} (h : Fit (.int .u8) w) : ∃ c : UInt8, w = .int .u8 (.ofNat c.toNat) ∧ True := by
  obtain ⟨n, rfl, hw⟩ := h
  have hb : 0 ≤ n ∧ n ≤ 255 := by
    simp [Lit.wf, IntKind.min, IntKind.max, IntKind.signed, IntKind.bits] at hw
    omega
  refine ⟨UInt8.ofNat n.toNat, ?_, trivial⟩
  congr 1
  have : (UInt8.ofNat n.toNat).toNat = n.toNat := by simp; omega
  rw [this]
  show n = ((n.toNat : Nat) : Int)
  omega
theorem fit_u64 {w : W} (h : Fit (.int .u64) w) : ∃ n : Nat, w = .int .u64 (n : Int) ∧ n < 18446744073709551616 := by
  obtain ⟨n, rfl, hw⟩ := h
  have hb : 0 ≤ n ∧ n ≤ 18446744073709551615 := by
    simp [Lit.wf, IntKind.min, IntKind.max, IntKind.signed, IntKind.bits] at hw
    omega
  exact ⟨n.toNat, by congr 1; omega, by omega⟩
theorem fit_i64 {w : W} (h : Fit (.int .i64) w) : ∃ n : Int, w = .int .i64 n ∧ -9223372036854775808 ≤ n ∧ n ≤ 9223372036854775807 := by
  obtain ⟨n, rfl, hw⟩ := h
  have hb : -9223372036854775808 ≤ n ∧ n ≤ 9223372036854775807 := by
    simp [Lit.wf, IntKind.min, IntKind.max, IntKind.signed, IntKind.bits] at hw
    omega
  exact ⟨n, rfl, hb⟩
theorem fit_bool {w : W} (h : Fit .bool w) : ∃ b, w = .bool b := h
theorem fit_bytes {l : List W} (h : ∀ x ∈ l, Fit (.int .u8) x) : ∃ bs : List UInt8, l = bytesW bs := by
  obtain ⟨bs, rfl, _⟩ := fit_list (f := fun c : UInt8 => W.int .u8 (.ofNat c.toNat)) (Q := fun _ => True) fun x hx => fit_u8 (h x hx)
  exact ⟨bs, rfl⟩
theorem fit_dig {w : W} (h : Fit (.arr 32 1 (.int .u8)) w) : ∃ k : Dig, w = dW k := by
  obtain ⟨l, rfl, hl, hx⟩ := h
  obtain ⟨bs, rfl⟩ := fit_bytes hx
  exact ⟨⟨bs, by simpa [bytesW] using hl⟩, rfl⟩
theorem fit_bW {bz : Nat} {w : W} (h : Fit (.sl 1 bz (.int .u8)) w) : ∃ b : List UInt8, w = bW b ∧ b.length * bz ≤ 140737488351232 := by
  obtain ⟨l, rfl, hl, hx⟩ := h
  obtain ⟨bs, rfl⟩ := fit_bytes hx
  exact ⟨bs, rfl, by simpa [bytesW, reachBytes] using hl⟩
theorem fit_sl {α : Type} {f : α → W} {Q : α → Prop} {sz bz : Nat} {s : Sh} {w : W} (h : Fit (.sl sz bz s) w) (hx : ∀ x, Fit s x → ∃ a, x = f a ∧ Q a) : ∃ ys : List α, w = .fz (ys.map f) sz false ∧ ys.length * bz ≤ 140737488351232 ∧ ∀ a ∈ ys, Q a := by
  obtain ⟨l, rfl, hl, hs⟩ := h
  obtain ⟨ys, rfl, hq⟩ := fit_list fun x hm => hx x (hs x hm)
  exact ⟨ys, rfl, by simpa [reachBytes] using hl, hq⟩
end Go.Proofs.Ytgeelfdgnehdnaa
namespace Go.Proofs.Ytgeelfdgnehdnaa
open Go.RowKit
set_option linter.unusedSimpArgs false
set_option linter.unusedVariables false
theorem fit_acct {w : W} (h : Fit (.st 2 [.int .u64, .int .u64]) w) : ∃ a : Acct, w = aW a ∧ a.ok := by
  obtain ⟨l, rfl, x, l1, rfl, h1, y, l2, rfl, h2, rfl⟩ := h
  obtain ⟨n, rfl, hn⟩ := fit_u64 h1
  obtain ⟨m, rfl, hm⟩ := fit_u64 h2
  exact ⟨⟨n, m⟩, rfl, hn, hm⟩
theorem fit_node {w : W} (h : Fit (.st 36 [.bool, .arr 32 1 (.int .u8), .sl 1 1 (.int .u8), .int .i64, .int .i64]) w) : ∃ x : Node, w = nW x ∧ x.val.length ≤ 140737488351232 := by
  obtain ⟨l, rfl, w1, l1, rfl, h1, w2, l2, rfl, h2, w3, l3, rfl, h3, w4, l4, rfl, h4, w5, l5, rfl, h5, rfl⟩ := h
  obtain ⟨b, rfl⟩ := fit_bool h1
  obtain ⟨k, rfl⟩ := fit_dig h2
  obtain ⟨v, rfl, hv⟩ := fit_bW h3
  obtain ⟨i, rfl, _⟩ := fit_i64 h4
  obtain ⟨j, rfl, _⟩ := fit_i64 h5
  exact ⟨⟨b, k, v, i, j⟩, rfl, by simpa using hv⟩
theorem fit_tree {w : W} (h : Fit (.st 2 [.sl 36 80 (.st 36 [.bool, .arr 32 1 (.int .u8), .sl 1 1 (.int .u8), .int .i64, .int .i64]), .int .i64]) w) : ∃ t : Tree, w = tW t ∧ t.nodes.length * 80 ≤ 140737488351232 ∧ (∀ x ∈ t.nodes, x.val.length ≤ 140737488351232) ∧ t.root ≤ 9223372036854775807 := by
  obtain ⟨l, rfl, w1, l1, rfl, h1, w2, l2, rfl, h2, rfl⟩ := h
  obtain ⟨ns, rfl, hl, hn⟩ := fit_sl h1 fun x hx => fit_node hx
  obtain ⟨r, rfl, _, hr⟩ := fit_i64 h2
  exact ⟨⟨ns, r⟩, rfl, hl, hn, hr⟩
end Go.Proofs.Ytgeelfdgnehdnaa

/-
  The plain machine's operations that touch memory. Nothing here speaks of a program.
-/
import Derived.Test.YtmlemnbhjbaedaaGreatDoorEOps
namespace Go.Proofs.YtmlemnbhjbaedaaGreatDoor
open Go.RowKit
set_option linter.unusedSimpArgs false
set_option linter.unusedVariables false

/-! ### elements in a row -/
/-- n elements of e cells each, from an offset on -/
noncomputable def subArrS : Nat → V → Nat → Nat → Nat → Option (List V)
  | 0, _, _, _, _ => none
  | f + 1, v, off, n, e =>
    match v with
    | .arr m e' l =>
      match Nat.beq e' e && Nat.beq (off % e) 0 && Nat.ble (off + n * e) m with
      | true => match Nat.beq ((l.drop (off / e)).take n).length n with
        | true => some ((l.drop (off / e)).take n)
        | false => none
      | false => match Nat.beq off 0 && Nat.beq n 1 && Nat.beq m e with
       | true => some [.arr m e' l]
       | false => match l[off / e']? with
        | some x => match Nat.beq x.size e' && Nat.ble (off / e' * e' + e') m && Nat.ble (off % e' + n * e) e' with
          | true => subArrS f x (off % e') n e
          | false => none
        | none => none
    | .agg m l => match Nat.beq off 0 && Nat.beq n 1 && Nat.beq m e with
     | true => some [.agg m l]
     | false => match findI l off with
      | some (x, o) => match Nat.ble (off - o + x.size) m && Nat.ble (o + n * e) x.size with
        | true => subArrS f x o n e
        | false => none
      | none => none
    | _ => none
theorem concE_length (ρ : Env) (e : Nat) : ∀ l : List V, (concE ρ e l).length = l.length * e
  | [] => by simp [concE]
  | v :: l => by simp [concE, concE_length ρ e l, Nat.add_mul]; omega
theorem concE_append (ρ : Env) (e : Nat) : ∀ a b : List V, concE ρ e (a ++ b) = concE ρ e a ++ concE ρ e b
  | [], b => by simp [concE]
  | v :: a, b => by simp [concE, concE_append ρ e a b]
theorem concE_drop (ρ : Env) (e : Nat) : ∀ (l : List V) (i : Nat), concE ρ e (l.drop i) = (concE ρ e l).drop (i * e)
  | [], i => by simp [concE]
  | v :: l, 0 => by simp
  | v :: l, i + 1 => by
    have h1 : (fit e (cellsV ρ v)).drop ((i + 1) * e) = [] := List.drop_of_length_le (by rw [fit_length, Nat.add_mul]; omega)
    simp only [List.drop_succ_cons, concE, concE_drop ρ e l i]
    rw [List.drop_append, h1, List.nil_append, fit_length, Nat.add_mul]
    congr 1
    omega
theorem concE_take (ρ : Env) (e : Nat) : ∀ (l : List V) (i : Nat), concE ρ e (l.take i) = (concE ρ e l).take (i * e)
  | [], i => by simp [concE]
  | v :: l, 0 => by simp [concE]
  | v :: l, i + 1 => by
    simp only [List.take_succ_cons, concE, concE_take ρ e l i]
    rw [List.take_append, List.take_of_length_le (l := fit e (cellsV ρ v)) (by simp [Nat.add_mul])]
    congr 2
    simp [Nat.add_mul]
theorem fit_sub {m a b : Nat} {L : List Value} (h1 : a + b ≤ m) (h2 : a + b ≤ L.length) : ((fit m L).drop a).take b = (L.drop a).take b := by
  simp only [fit]
  rw [List.drop_take, List.take_take, show min b (m - a) = b by omega, List.drop_append_of_le_length (by omega), List.take_append_of_le_length (by simp; omega)]
theorem subArrS_spec {ρ : Env} : ∀ (f : Nat) (v : V) (off n e : Nat) (l : List V), subArrS f v off n e = some l →
    l.length = n ∧ off + n * e ≤ v.size ∧ ((cellsV ρ v).drop off).take (n * e) = concE ρ e l ∧ ∀ D, InD D v → InDL D l
  | 0, _, _, _, _, _, h => by simp [subArrS] at h
  | f + 1, v, off, n, e, r, h => by
    simp only [subArrS] at h
    split at h
    · rename_i m e' l
      split at h
      · rename_i hc
        simp only [Bool.and_eq_true, Nat.beq_eq] at hc
        obtain ⟨⟨rfl, h0⟩, hle⟩ := hc
        have hle := Nat.le_of_ble_eq_true hle
        split at h
        · rename_i hn
          rw [Nat.beq_eq] at hn
          cases h
          have hoff : off / e' * e' = off := by
            have := Nat.div_add_mod off e'
            rw [Nat.mul_comm] at this; omega
          refine ⟨hn, hle, ?_, fun D hv => InDL_iff.2 fun x hx => InDL_iff.1 (show InDL D l from hv) x (List.mem_of_mem_drop (List.mem_of_mem_take hx))⟩
          by_cases hn0 : n = 0
          · subst hn0; simp [concE]
          have hlen : off + n * e' ≤ (concE ρ e' l).length := by
            rw [concE_length]
            rw [List.length_take, List.length_drop] at hn
            have := Nat.mul_le_mul_right e' (show off / e' + n ≤ l.length by omega)
            rw [Nat.add_mul] at this; omega
          simp only [cellsV]
          rw [fit_sub hle hlen, concE_take, concE_drop, hoff]
        · cases h
      · split at h
        · rename_i hc
          simp only [Bool.and_eq_true, Nat.beq_eq] at hc
          obtain ⟨⟨rfl, rfl⟩, rfl⟩ := hc
          cases h
          refine ⟨rfl, by show 0 + 1 * m ≤ m; omega, ?_, fun D hv => ⟨hv, trivial⟩⟩
          simp only [concE, List.append_nil, Nat.one_mul, List.drop_zero]
          rw [fit_self (by simp [V.size]), List.take_of_length_le (by simp [V.size])]
        · split at h
          · rename_i x hx
            split at h
            · rename_i hc
              simp only [Bool.and_eq_true, Nat.beq_eq] at hc
              obtain ⟨⟨h1, h2⟩, h3⟩ := hc
              have h2 := Nat.le_of_ble_eq_true h2
              have h3 := Nat.le_of_ble_eq_true h3
              obtain ⟨g1, g2, g3, g4⟩ := subArrS_spec (ρ := ρ) f x _ n e r h
              obtain ⟨a, c, k1, k2⟩ := concE_at (ρ := ρ) (e := e') _ _ _ hx
              have hdm := Nat.div_add_mod off e'
              rw [Nat.mul_comm] at hdm
              refine ⟨g1, by show off + n * e ≤ m; omega, ?_, fun D hv => g4 D (InDL.at_ (show InDL D l from hv) hx)⟩
              rw [fit_self (by simp [h1])] at k1
              have key := take_drop_fit (n := m) (a := a) (b := cellsV ρ x) (c := c) (by simp; omega)
              rw [← k1] at key
              simp only [cellsV]
              rw [← g3, ← key, take_drop_take_drop (by simp; omega), k2, hdm]
            · cases h
          · cases h
    · rename_i m l
      split at h
      · rename_i hc
        simp only [Bool.and_eq_true, Nat.beq_eq] at hc
        obtain ⟨⟨rfl, rfl⟩, rfl⟩ := hc
        cases h
        refine ⟨rfl, by show 0 + 1 * m ≤ m; omega, ?_, fun D hv => ⟨hv, trivial⟩⟩
        simp only [concE, List.append_nil, Nat.one_mul, List.drop_zero]
        rw [fit_self (by simp [V.size]), List.take_of_length_le (by simp [V.size])]
      split at h
      · rename_i x o hf
        split at h
        · rename_i hc
          simp only [Bool.and_eq_true] at hc
          have h2 := Nat.le_of_ble_eq_true hc.1
          have h3 := Nat.le_of_ble_eq_true hc.2
          obtain ⟨a, c, k1, k2, k3⟩ := findI_spec (ρ := ρ) _ _ _ _ hf
          obtain ⟨g1, g2, g3, g4⟩ := subArrS_spec (ρ := ρ) f x o n e r h
          refine ⟨g1, by show off + n * e ≤ m; omega, ?_, fun D hv => g4 D (findI_in hf (show InDL D l from hv))⟩
          have ha : a.length = off - o := by omega
          have key := take_drop_fit (n := m) (a := a) (b := cellsV ρ x) (c := c) (by simp; omega)
          rw [← k1] at key
          simp only [cellsV]
          rw [← g3, ← key, take_drop_take_drop (by simp; omega), k2]
        · cases h
      · cases h
    · cases h
/-- e cells each, taken as aggregates -/
noncomputable def chop (l : List V) (e : Nat) : Nat → List V
  | 0 => []
  | n + 1 => .agg e (l.take e) :: chop (l.drop e) e n
theorem chop_length {e : Nat} : ∀ (n : Nat) (l : List V), (chop l e n).length = n
  | 0, _ => rfl
  | n + 1, l => by simp [chop, chop_length n]
theorem chop_flat {e : Nat} : ∀ (n : Nat) (l : List V), (∀ x ∈ l, x.isAgg = false) → n * e ≤ l.length → flatE e (chop l e n) = l.take (n * e) ∧ ∀ x ∈ chop l e n, x.size = e ∧ x.isAgg = true ∧ ∀ y ∈ flatV x, y ∈ l
  | 0, l, _, _ => by simp [chop, flatE]
  | n + 1, l, h, hl => by
    rw [Nat.add_mul] at hl
    obtain ⟨g1, g2⟩ := chop_flat (e := e) n (l.drop e) (fun x hx => h x (List.mem_of_mem_drop hx)) (by simp; omega)
    have hf : flatV (.agg e (l.take e)) = l.take e := flat_agg (fun x hx => h x (List.mem_of_mem_take hx)) (by simp; omega)
    refine ⟨?_, fun x hx => ?_⟩
    · simp only [chop, flatE, hf, g1]
      rw [fitV_self (by simp; omega), Nat.add_mul, Nat.one_mul, Nat.add_comm (n * e) e, List.take_add]
    · simp only [chop, List.mem_cons] at hx
      rcases hx with rfl | hx
      · exact ⟨rfl, rfl, fun y hy => by rw [hf] at hy; exact List.mem_of_mem_take hy⟩
      · obtain ⟨k1, k2, k3⟩ := g2 x hx
        exact ⟨k1, k2, fun y hy => List.mem_of_mem_drop (k3 y hy)⟩
noncomputable def flatSub (v : V) (off n e : Nat) : Option (List V) := match v.isAgg && Nat.ble (off + n * e) v.size with
  | true => some (chop ((flatV v).drop off) e n)
  | false => none
noncomputable def okE (e : Nat) (l : List V) : Bool := l.all fun x => Nat.beq x.size e && (x.leaf || x.isAgg)
noncomputable def subArr (f : Nat) (v : V) (off n e : Nat) : Option (List V) := match subArrS f v off n e with
  | some l => match okE e l with
    | true => some l
    | false => flatSub v off n e
  | none => flatSub v off n e
theorem flatSub_spec {v : V} {off n e : Nat} {l : List V} (h : flatSub v off n e = some l) :
    l.length = n ∧ off + n * e ≤ v.size ∧ ((flatV v).drop off).take (n * e) = flatE e l ∧ (∀ x ∈ l, x.size = e) ∧ ∀ x ∈ l, ∀ y ∈ flatV x, y ∈ flatV v := by
  unfold flatSub at h
  split at h
  · rename_i hc
    simp only [Bool.and_eq_true] at hc
    have hle := Nat.le_of_ble_eq_true hc.2
    cases h
    obtain ⟨g1, g2⟩ := chop_flat n ((flatV v).drop off) (e := e) (fun x hx => flat_one v x (List.mem_of_mem_drop hx)) (by simp; omega)
    exact ⟨chop_length _ _, hle, g1.symm, fun x hx => (g2 x hx).1, fun x hx y hy => List.mem_of_mem_drop ((g2 x hx).2.2 y hy)⟩
  · cases h
theorem in_of_flat {D : Nat → Nat → Prop} {e : Nat} : ∀ (n : Nat) (l : List V), (∀ y ∈ l, InD D y) → InDL D (chop l e n)
  | 0, _, _ => trivial
  | n + 1, l, h => ⟨InDL_iff.2 fun y hy => h y (List.mem_of_mem_take hy), in_of_flat n _ fun y hy => h y (List.mem_of_mem_drop hy)⟩
theorem subArr_spec {ρ : Env} (f : Nat) (v : V) (off n e : Nat) (l : List V) (h : subArr f v off n e = some l) :
    l.length = n ∧ off + n * e ≤ v.size ∧ ((cellsV ρ v).drop off).take (n * e) = concE ρ e l ∧ ∀ D, InD D v → InDL D l := by
  have fl : ∀ {l}, flatSub v off n e = some l → l.length = n ∧ off + n * e ≤ v.size ∧ ((cellsV ρ v).drop off).take (n * e) = concE ρ e l ∧ ∀ D, InD D v → InDL D l := fun {l} h => by
    obtain ⟨h1, h2, h3, h4, h5⟩ := flatSub_spec h
    refine ⟨h1, h2, ?_, fun D hv => ?_⟩
    · rw [flatE_cells, ← h3, cells_flat, List.map_take, List.map_drop]
    · unfold flatSub at h
      split at h
      · cases h
        exact in_of_flat _ _ fun y hy => flat_in hv y (List.mem_of_mem_drop hy)
      · cases h
  unfold subArr at h
  split at h
  · split at h
    · cases h; exact subArrS_spec f v off n e l (by assumption)
    · exact fl h
  · exact fl h
/-- elements written over, one by one -/
noncomputable def putN : V → Nat → Nat → List V → Option V
  | v, _, _, [] => some v
  | v, off, e, x :: l => match Nat.beq x.size e with
    | true => match putAt 50 v off x with
      | some v' => putN v' (off + e) e l
      | none => none
    | false => none
theorem spl_two {c a b : List Value} {off : Nat} (h : off + a.length + b.length ≤ c.length) : spl (spl c off a) (off + a.length) b = spl c off (a ++ b) := by
  simp only [spl]
  apply List.ext_getElem?
  intro i
  simp only [List.append_assoc, List.getElem?_append, List.getElem?_take, List.getElem?_drop, List.length_take, List.length_append, List.length_drop]
  by_cases h1 : i < off
  · simp only [show i < min (off + a.length) (min off c.length + (a.length + (c.length - (off + a.length)))) from by omega, show i < off + a.length from by omega, show i < min off c.length from by omega, h1, if_true]
  · by_cases h2 : i < off + a.length
    · simp only [show i < min (off + a.length) (min off c.length + (a.length + (c.length - (off + a.length)))) from by omega, h2, show ¬ i < min off c.length from by omega, show i - min off c.length < a.length from by omega, if_true, if_false]
    · have m1 : min (off + a.length) (off + (a.length + (c.length - (off + a.length)))) = off + a.length := by omega
      have m2 : min off c.length = off := by omega
      by_cases h3 : i < off + a.length + b.length
      · simp only [m1, m2, h1, h2, if_false, show i - (off + a.length) < b.length from by omega, show ¬ i - off < a.length from by omega, show i - off - a.length < b.length from by omega, if_true]
        congr 1; omega
      · simp only [m1, m2, h1, h2, if_false, show ¬ i - (off + a.length) < b.length from by omega, show ¬ i - off < a.length from by omega, show ¬ i - off - a.length < b.length from by omega,
          show ¬ off + a.length + b.length + (i - (off + a.length) - b.length) < off from by omega, show ¬ off + a.length + b.length + (i - (off + a.length) - b.length) - off < a.length from by omega]
        congr 1; omega
theorem putN_spec {ρ : Env} {e : Nat} : ∀ (l : List V) (v : V) (off : Nat) (v' : V), putN v off e l = some v' →
    v'.size = v.size ∧ (l = [] ∨ off + l.length * e ≤ v.size) ∧ cellsV ρ v' = (if l = [] then cellsV ρ v else spl (cellsV ρ v) off (concE ρ e l)) ∧ v'.isAgg = v.isAgg ∧ v'.leaf = v.leaf ∧ (∀ D, InD D v → InDL D l → InD D v') ∧ ∀ x ∈ l, x.size = e
  | [], v, off, v', h => by simp only [putN, Option.some.injEq] at h; subst h; exact ⟨rfl, .inl rfl, by simp, rfl, rfl, fun _ h _ => h, by simp⟩
  | x :: l, v, off, v', h => by
    simp only [putN] at h
    split at h
    · rename_i hs
      rw [Nat.beq_eq] at hs
      split at h
      · rename_i v1 h1
        obtain ⟨k1, k2, k3, k4, k5, k6⟩ := putAt_spec (ρ := ρ) 50 v off x v1 h1
        obtain ⟨g1, g2, g3, g4, g5, g6, g7⟩ := putN_spec (ρ := ρ) l v1 _ v' h
        have hfx : fit e (cellsV ρ x) = cellsV ρ x := fit_self (by simp [hs])
        refine ⟨g1.trans k1, .inr ?_, ?_, g4.trans k4, g5.trans k5, fun D hv hl => g6 D (putAt_in h1 hv hl.1) hl.2, fun y hy => ?_⟩
        · rcases g2 with h0 | g2
          · subst h0; show off + 1 * e ≤ v.size; omega
          · rw [List.length_cons, Nat.add_mul]; omega
        · rw [g3, if_neg (show ¬ (x :: l = []) by simp)]
          by_cases hl : l = []
          · subst hl
            rw [if_pos rfl, k3]; simp [concE, hfx]
          · rw [if_neg hl]
            rcases g2 with h0 | g2
            · exact absurd h0 hl
            · rw [k3]
              simp only [concE, hfx]
              rw [← spl_two (by rw [cellsV_length, cellsV_length, concE_length]; omega)]
              simp [hs]
        · rcases List.mem_cons.1 hy with rfl | hy
          · exact hs
          · exact g7 y hy
      · cases h
    · cases h

/-! ### the operations -/
noncomputable def Heap.val (h : Heap) (b : Nat) : Option V := match h.get b with
  | some (.cells _ v) => some v
  | some (.ro v) => some v
  | _ => none
noncomputable def bytesV (s : List UInt8) : List V := s.map fun c => .int .u8 (.ofNat c.toNat)
/-- what is appended -/
noncomputable def srcV (C : Cfg) (h : Heap) (tx : TypeId) (esz : Nat) (x : V) : Option (List V) := match C.ty tx with
  | none => none
  | some j => match j.d, x with
    | .slice _, .nils => some []
    | .slice _, .sl b _ off n e _ => match Nat.beq e esz, h.val b with
      | true, some v => subArr 50 v off n esz
      | _, _ => none
    | .str, .str s => match Nat.beq esz 1 with
      | true => some (bytesV s)
      | false => none
    | _, _ => none
noncomputable def appendV (C : Cfg) (h : Heap) (ts tx : TypeId) (s x : V) : Option (V × Heap) := match C.ty ts with
  | none => none
  | some j => match j.d with
    | .slice e => match C.ty e with
      | none => none
      | some k => match Nat.beq k.size 0 with
        | true => none
        | false => match srcV C h tx k.size x with
          | none => none
          | some news => match s with
            | .nils => match news with
              | [] => some (.nils, h)
              | _ :: _ => match Nat.ble (news.length * k.bytes) 140737488355328 && Nat.ble news.length 70368744177664 with
                | true => some (.sl h.next 0 0 news.length k.size none, h.push (.cells e (.arr (news.length * k.size) k.size news)))
                | false => none
            | .sl b base off len esz lim => match Nat.beq esz k.size, news with
              | false, _ => none
              | true, [] => some (.sl b base off len esz lim, h)
              | true, _ :: _ => match Nat.ble ((len + news.length) * k.bytes) 140737488355328 && Nat.ble (len + news.length) 70368744177664 with
                | false => none
                | true => match lim with
                  | some c => match Nat.ble (len + news.length) c with
                    | true => match h.get b with
                      | some (.cells ty v) => match Nat.ble (off + (len + news.length) * esz) v.size with
                        | true => match putN v (off + len * esz) esz news with
                          | some v' => some (.sl b base off (len + news.length) esz lim, h.put b (.cells ty v'))
                          | none => none
                        | false => none
                      | _ => none
                    | false => match h.val b with
                      | some v => match subArr 50 v off len esz with
                        | some olds => some (.sl h.next 0 0 (len + news.length) esz none, h.push (.cells e (.arr ((len + news.length) * esz) esz (olds ++ news))))
                        | none => none
                      | none => none
                  | none => match h.get b with
                    | some (.cells ty v) => match Nat.ble (off + (len + news.length) * esz) v.size with
                      | true => match putN v (off + len * esz) esz news with
                        | some v' => some (.sl b base off (len + news.length) esz none, h.put b (.cells ty v'))
                        | none => none
                      | false => match Nat.beq ty e, subArr 50 v off len esz with
                        | true, some olds => some (.sl h.next 0 0 (len + news.length) esz none, (h.push (.cells e (.arr ((len + news.length) * esz) esz (olds ++ news)))).kill b)
                        | _, _ => none
                    | _ => none
            | _ => none
    | _ => none
/-- as many elements as there are, over the first ones -/
noncomputable def copyV (C : Cfg) (h : Heap) (ts tx : TypeId) (s x : V) : Option (V × Heap) := match C.ty ts with
  | none => none
  | some j => match j.d with
    | .slice e => match C.ty e with
      | none => none
      | some k => match srcV C h tx k.size x with
        | none => none
        | some all => match s with
          | .nils => some (.int .i64 (.ofNat 0), h)
          | .sl b _ off len esz _ => match Nat.beq esz k.size, all.take len with
            | true, [] => some (.int .i64 (.ofNat 0), h)
            | true, y :: ys => match h.get b with
              | some (.cells ty v) => match Nat.ble (off + (ys.length + 1) * esz) v.size with
                | true => match putN v off esz (y :: ys) with
                  | some v' => some (.int .i64 (.ofNat (ys.length + 1)), h.put b (.cells ty v'))
                  | none => none
                | false => none
              | _ => none
            | _, _ => none
          | _ => none
    | _ => none
noncomputable def repV (n e : Nat) (z : V) : V := .arr (n * e) e (List.replicate n z)
noncomputable def fillE (C : Cfg) (fr : Tr V) (e : Nat) : V → List (Nat × Operand) → Option V
  | v, [] => some v
  | v, (i, x) :: l => match evV C fr x with
    | some y => match Nat.beq y.size e with
      | true => match putAt 50 v (i * e) y with
        | some v' => fillE C fr e v' l
        | none => none
      | false => none
    | none => none
noncomputable def descOf (C : Cfg) (e : TypeId) : Option TyD := match C.ty e with
  | some k => some k.d
  | none => none
noncomputable def bytesOf : List V → Option (List UInt8)
  | [] => some []
  | .int .u8 (.ofNat c) :: l => match Nat.blt c 256, bytesOf l with
    | true, some r => some (UInt8.ofNat c :: r)
    | _, _ => none
  | _ => none
noncomputable def ohConvert (C : Cfg) (fr : Tr V) (h : Heap) (s : TypeId) (t : TypeId) (x : Operand) : Option (V × Heap) := match C.ty s, C.ty t, evV C fr x with
  | some js, some jt, some v => match js.d, jt.d, v with
    | .slice e, .str, v => match descOf C e, v with
      | some (.int .u8), .nils => some (.str [], h)
      | some (.int .u8), .sl b _ off n esz _ => match Nat.beq esz 1, h.val b with
        | true, some bv => match subArr 50 bv off n esz with
          | some l => match bytesOf (flatE 1 l) with
            | some r => some (.str r, h)
            | none => none
          | none => none
        | _, _ => none
      | _, _ => none
    | .slice _, .slice e, .sl b base off n esz lim => match Nat.beq s t, descOf C e, h.get b with
      | true, some (.int .u8), some (.cells _ bv) => some (.sl b base off n esz lim, h.put b (.ro bv))
      | _, _, _ => none
    | .str, .slice e, .str s => match descOf C e with
      | some (.int .u8) => some (.sl h.next 0 0 s.length 1 none, h.push (.ro (.arr s.length 1 (bytesV s))))
      | _ => none
    | _, _, _ => none
  | _, _, _ => none
noncomputable def ohLoad (C : Cfg) (fr : Tr V) (h : Heap) (t : TypeId) (x : Operand) : Option (V × Heap) := match evV C fr x, C.ty t with
  | some (.ptr b off), some i => match h.val b with
    | some v => match getAt 50 v off i.size i.agg with
      | some r => some (r, h)
      | none => none
    | none => none
  | _, _ => none
noncomputable def ohStore (C : Cfg) (fr : Tr V) (h : Heap) (t : TypeId) (x : Operand) (y : Operand) : Option (V × Heap) := match evV C fr x, evV C fr y, C.ty t with
  | some (.ptr b off), some u, some i => match h.get b, Nat.beq u.size i.size with
    | some (.cells ty v), true => match putAt 50 v off u with
      | some v' => some (.undef, h.put b (.cells ty v'))
      | none => none
    | _, _ => none
  | _, _, _ => none
noncomputable def ohAlloc (C : Cfg) (fr : Tr V) (h : Heap) (t : TypeId) : Option (V × Heap) := match C.ty t with
  | some i => some (.ptr h.next 0, h.push (.cells t i.zero))
  | none => none
noncomputable def ohBox (C : Cfg) (fr : Tr V) (h : Heap) (t : TypeId) (x : Operand) : Option (V × Heap) := match evV C fr x with
  | some v => match v.leaf || v.isAgg with
    | true => some (.ptr h.next 0, h.push (.cells t v))
    | false => none
  | none => none
noncomputable def ohBuildslice (C : Cfg) (fr : Tr V) (h : Heap) (t : TypeId) (n : Nat) (parts : Array (Nat × Operand)) : Option (V × Heap) := match C.ty t with
  | some i => match i.d with
    | .slice e => match C.ty e with
      | some k => match Nat.beq k.size 0 || !Nat.ble (n * k.size) 16777216 with
        | true => none
        | false => match fillE C fr k.size (repV n k.size k.zero) parts.toList with
          | some v => some (.sl h.next 0 0 n k.size none, h.push (.cells e v))
          | none => none
      | none => none
    | _ => none
  | none => none
noncomputable def ohMakeslice (C : Cfg) (fr : Tr V) (h : Heap) (t : TypeId) (x : Operand) (y : Operand) : Option (V × Heap) := match C.ty t, evV C fr x, evV C fr y with
  | some i, some u, some v => match i.d, natI u, natI v with
    | .slice e, some l, some c => match C.ty e with
      | some k => match Nat.beq k.size 0 || !Nat.ble l c || !Nat.ble (k.bytes * c) 281474976710656 || !Nat.ble c 9223372036854775807 with
        | true => none
        | false => some (.sl h.next 0 0 l k.size none, h.push (.cells e (repV c k.size k.zero)))
      | none => none
    | _, _, _ => none
  | _, _, _ => none
noncomputable def ohAppend (C : Cfg) (fr : Tr V) (h : Heap) (args : Array Operand) (ats : Array TypeId) : Option (V × Heap) := match args.toList, ats.toList with
  | [x, y], [ts, tx] => match evV C fr x, evV C fr y with
    | some s, some u => appendV C h ts tx s u
    | _, _ => none
  | _, _ => none
noncomputable def ohCopy (C : Cfg) (fr : Tr V) (h : Heap) (args : Array Operand) (ats : Array TypeId) : Option (V × Heap) := match args.toList, ats.toList with
  | [x, y], [ts, tx] => match evV C fr x, evV C fr y with
    | some s, some u => copyV C h ts tx s u
    | _, _ => none
  | _, _ => none
noncomputable def ohSlice (C : Cfg) (fr : Tr V) (h : Heap) (t : TypeId) (x : Operand) (lo : Option Operand) (hi : Option Operand) (mx : Option Operand) : Option (V × Heap) := match C.ty t, evV C fr x with
  | some j, some v => match j.d, v with
    | .arr n e, .ptr b off => match C.ty e, bndI C fr 0 lo, bndI C fr n hi, mx, h.val b with
      | some k, some l, some r, none, some bv => match Nat.beq k.size 0 || !Nat.ble l r || !Nat.ble r n || !Nat.ble (off + n * k.size) bv.size with
        | true => none
        | false => some (.sl b off (off + l * k.size) (r - l) k.size (some (n - l)), h)
      | _, _, _, _, _ => none
    | .slice e, .sl b base off len esz lim => match C.ty e, bndI C fr 0 lo, bndI C fr len hi, mx, h.val b with
      | some k, some l, some r, none, some bv => match Nat.beq k.size esz && Nat.ble l r && Nat.ble 1 r && Nat.ble (off + r * esz) bv.size && (match lim with | none => true | some c => Nat.ble r c) with
        | false => none
        | true => some (.sl b (match Nat.beq l 0 with | true => base | false => off) (off + l * esz) (r - l) esz (limCut l lim), h)
      | _, _, _, _, _ => none
    | _, _ => none
  | _, _ => none
/-! maps -/
noncomputable def kEqV : V → V → Option Bool
  | .int j a, .int k b => match decide (j = k) with
    | true => some (eqI a b)
    | false => none
  | .str a, .str b => some (bytesEq a b)
  | _, _ => none
noncomputable def findM (k : V) : List (V × V × Nat) → Nat → Option (Option (Nat × V × Nat))
  | [], _ => some none
  | e :: l, i => match kEqV k e.1 with
    | some true => some (some (i, e.2.1, e.2.2))
    | some false => findM k l (i + 1)
    | none => none
noncomputable def keyOK (C : Cfg) (kt : TypeId) (k : V) : Bool := match C.ty kt with
  | some j => match j.d, k with
    | .int _, .int _ _ => true
    | .str, .str _ => true
    | _, _ => false
  | none => false
noncomputable def bornM (n : Nat) : List (V × V × Nat) → Nat → Option Nat
  | [], _ => none
  | e :: l, i => match Nat.beq e.2.2 n with
    | true => some i
    | false => bornM n l (i + 1)
noncomputable def ohMakemap (C : Cfg) (fr : Tr V) (h : Heap) (t : TypeId) (x : Option Operand) : Option (V × Heap) := match x with
  | none => some (.map h.next, h.push (.map [] 0))
  | some x => match C.mp t, evV C fr x with
    | some _, some (.int _ _) => some (.map h.next, h.push (.map [] 0))
    | _, _ => none
noncomputable def okT (ok : Bool) (v : V) (b : Bool) : V := match ok with
  | true => .tup [v, .bool b]
  | false => v
noncomputable def ohLookup (C : Cfg) (fr : Tr V) (h : Heap) (t : TypeId) (x y : Operand) (ok : Bool) : Option (V × Heap) := match C.mp t, evV C fr x, evV C fr y with
  | some (kt, et), some m, some k => match keyOK C kt k, C.ty et with
    | true, some j => match m with
      | .nilm => some (okT ok j.zero false, h)
      | .map r => match h.get r with
        | some (.map es _) => match findM k es 0 with
          | some (some (_, v, _)) => some (okT ok v true, h)
          | some none => some (okT ok j.zero false, h)
          | none => none
        | _ => none
      | _ => none
    | _, _ => none
  | _, _, _ => none
noncomputable def ohMapupdate (C : Cfg) (fr : Tr V) (h : Heap) (t : TypeId) (x y z : Operand) : Option (V × Heap) := match C.mp t, evV C fr x, evV C fr y, evV C fr z with
  | some (kt, _), some (.map r), some k, some v => match keyOK C kt k, h.get r with
    | true, some (.map es c) => match findM k es 0 with
      | some (some (i, _, b)) => some (.undef, h.put r (.map (es.set i (k, v, b)) c))
      | some none => some (.undef, h.put r (.map (es ++ [(k, v, c)]) (c + 1)))
      | none => none
    | _, _ => none
  | _, _, _, _ => none
noncomputable def ohMapentry (C : Cfg) (fr : Tr V) (h : Heap) (t : TypeId) (x y : Operand) : Option (V × Heap) := match C.mp t, evV C fr x, evV C fr y with
  | some (kt, et), some (.map r), some k => match keyOK C kt k, C.ty et, h.get r with
    | true, some j, some (.map es c) => match findM k es 0 with
      | some (some (i, v, b)) => some (.tup [v, .int .i64 (.ofNat b)], h.put r (.map (es.set i (k, v, b)) c))
      | some none => some (.tup [j.zero, .int .i64 (.ofNat c)], h.put r (.map (es ++ [(k, j.zero, c)]) (c + 1)))
      | none => none
    | _, _, _ => none
  | _, _, _ => none
noncomputable def ohEntrystore (C : Cfg) (fr : Tr V) (h : Heap) (x y z : Operand) : Option (V × Heap) := match evV C fr x, evV C fr y, evV C fr z with
  | some (.map r), some (.int _ (.ofNat n)), some v => match h.get r with
    | some (.map es c) => match bornM n es 0 with
      | some i => match es[i]? with
        | some (k, _, b) => some (.undef, h.put r (.map (es.set i (k, v, b)) c))
        | none => none
      | none => none
    | _ => none
  | _, _, _ => none
noncomputable def ohClear (C : Cfg) (fr : Tr V) (h : Heap) (args : Array Operand) (ats : Array TypeId) : Option (V × Heap) := match args.toList, ats.toList with
  | [x], [t] => match C.mp t, evV C fr x with
    | some _, some .nilm => some (.undef, h)
    | some _, some (.map r) => match h.get r with
      | some (.map _ c) => some (.undef, h.put r (.map [] c))
      | _ => none
    | _, _ => none
  | _, _ => none
noncomputable def ohClearS (C : Cfg) (fr : Tr V) (h : Heap) (args : Array Operand) (ats : Array TypeId) : Option (V × Heap) := match args.toList, ats.toList with
  | [x], [t] => match C.ty t, evV C fr x with
    | some j, some v => match j.d, v with
      | .slice _, .nils => some (.undef, h)
      | .slice e, .sl b _ off len esz _ => match C.ty e, h.get b, len with
        | some _, _, 0 => some (.undef, h)
        | some k, some (.cells ty bv), n + 1 => match Nat.beq esz k.size && Nat.ble (off + (n + 1) * esz) bv.size with
          | true => match putN bv off esz (List.replicate (n + 1) k.zero) with
            | some v' => some (.undef, h.put b (.cells ty v'))
            | none => none
          | false => none
        | _, _, _ => none
      | _, _ => none
    | _, _ => none
  | _, _ => none
noncomputable def ohClearA (C : Cfg) (fr : Tr V) (h : Heap) (args : Array Operand) (ats : Array TypeId) : Option (V × Heap) := match ohClear C fr h args ats with
  | some r => some r
  | none => ohClearS C fr h args ats
noncomputable def ohLenM (C : Cfg) (fr : Tr V) (h : Heap) (args : Array Operand) (ats : Array TypeId) : Option (V × Heap) := match args.toList, ats.toList with
  | [x], [t] => match C.mp t, evV C fr x with
    | some _, some .nilm => some (.int .i64 (.ofNat 0), h)
    | some _, some (.map r) => match h.get r with
      | some (.map es _) => some (.int .i64 (.ofNat es.length), h)
      | _ => none
    | _, _ => none
  | _, _ => none
noncomputable def opH (C : Cfg) (fr : Tr V) (h : Heap) : Op → Option (V × Heap)
  | .makeMap t x => ohMakemap C fr h t x
  | .lookup t x y ok => ohLookup C fr h t x y ok
  | .mapUpdate t x y z => ohMapupdate C fr h t x y z
  | .insert t x y z => ohMapupdate C fr h t x y z
  | .mapEntry t x y => ohMapentry C fr h t x y
  | .entryStore _ x y z => ohEntrystore C fr h x y z
  | .call ⟨.builtin .clear, args, ats⟩ => ohClearA C fr h args ats
  | .call ⟨.builtin .len, args, ats⟩ => ohLenM C fr h args ats
  | .convert s t x => ohConvert C fr h s t x
  | .load t x => ohLoad C fr h t x
  | .store t x y => ohStore C fr h t x y
  | .alloc t => ohAlloc C fr h t
  | .box t x => ohBox C fr h t x
  | .buildSlice t n parts => ohBuildslice C fr h t n parts
  | .makeSlice t x y => ohMakeslice C fr h t x y
  | .call ⟨.builtin .append, args, ats⟩ => ohAppend C fr h args ats
  | .call ⟨.builtin .copy, args, ats⟩ => ohCopy C fr h args ats
  | .slice t x lo hi mx => ohSlice C fr h t x lo hi mx
  | _ => none

/-! ### what it does is what the model does -/
/-- an operation, and what is known behind it -/
structure Did (P : Program) (C : Cfg) (s0 : World) (U : Nat) (o : Oper) (a : Act) (D : Nat → Prop) (ρ : Env) (h : Heap) (w : World) (v : V) (h' : Heap) (x : Value) (D' : Nat → Prop) (ρ' : Env) (w' : World) : Prop where
  op : Op1 P o a w x w'
  val : x = conc ρ' v
  rel : Rel s0 U D' ρ' h' w'
  nxt : Nxt D ρ h w D' ρ' h' w'
  in_ : InD (DD D' ρ') v
section
variable {P : Program} {C : Cfg} {s0 : World} {U : Nat} {D : Nat → Prop} {ρ : Env} {fr : Tr V} {a : Act} {w : World} {h : Heap}
theorem Rel.dd_mono {i m m' : Nat} (h1 : DD D ρ i m) (h2 : m' ≤ m) : DD D ρ i m' := ⟨h1.1, Nat.le_trans h2 h1.2⟩
theorem push_dd (r : Rel s0 U D ρ h w) (hU : h.next + 1 ≤ U) {pre cap : Nat} {v : V} (hv : InD (DD D ρ) v) : InD (DD (fun i => D i ∨ i = h.next) (ρ.add h.next w.heap.size pre cap)) v := by
  refine hv.mono fun i m hi => ⟨.inl hi.1, ?_⟩
  have : i ≠ h.next := r.next_new hU i hi.1
  simp only [Env.add, this, if_false]
  exact hi.2
theorem push_new {pre cap m : Nat} (hm : m ≤ cap) : DD (fun i => D i ∨ i = h.next) (ρ.add h.next w.heap.size pre cap) h.next m := ⟨.inr rfl, by simp [Env.add]; exact hm⟩
/-- a value's cells lie there -/
theorem Rel.val (r : Rel s0 U D ρ h w) {b : Nat} {v : V} (hb : D b) (hv : h.val b = some v) : ∃ pre tail ty fz, w.heap[ρ.b b]? = some (.cells (pre ++ (cellsV ρ v ++ tail)).toArray ty fz) ∧ pre.length = ρ.pre b ∧ v.size ≤ ρ.cap b ∧ InD (DD D ρ) v := by
  unfold Heap.val at hv
  split at hv
  · rename_i ty v' hg
    cases hv
    obtain ⟨o, h1, pre, tail, rfl, h2, h3⟩ := r.has b _ hb hg
    exact ⟨pre, tail, ty, _, h1, h2, by omega, r.clo b _ hb hg⟩
  · rename_i v' hg
    cases hv
    obtain ⟨o, h1, pre, tail, ty, fz, rfl, h2, h3⟩ := r.has b _ hb hg
    exact ⟨pre, tail, ty, fz, h1, h2, h3, r.clo b _ hb hg⟩
  · cases hv
theorem row_get {pre c tail : List Value} {off n : Nat} (h : off + n ≤ c.length) : (pre ++ (c ++ tail)).toArray.extract (pre.length + off) (pre.length + off + n) = ((c.drop off).take n).toArray := by
  apply Array.ext'
  simp only [Array.toList_extract, List.extract]
  rw [show pre.length + off + n - (pre.length + off) = n by omega, List.drop_length_add_append, List.drop_append_of_le_length (by omega), List.take_append_of_le_length (by simp; omega)]
theorem row_at {pre c tail : List Value} {i : Nat} {x : Value} (h : c[i]? = some x) : (pre ++ (c ++ tail)).toArray[pre.length + i]? = some x := by
  have hi := (List.getElem?_eq_some_iff.1 h).1
  simp only [List.getElem?_toArray]
  rw [List.getElem?_append_right (by omega), show pre.length + i - pre.length = i by omega, List.getElem?_append_left hi, h]
theorem load_sound (hC : CfgOK P C) (r : Rel s0 U D ρ h w) {t : TypeId} {i : TyI} {b off : Nat} {v x : V} (hi : C.ty t = some i) (hb : D b) (hv : h.val b = some v) (hg : getAt 50 v off i.size i.agg = some x) :
    (loadVar t ⟨ρ.b b, ρ.pre b + off, none⟩).run P w = .ok (conc ρ x) w ∧ InD (DD D ρ) x := by
  obtain ⟨pre, tail, ty, fz, h1, h2, _, h3⟩ := r.val hb hv
  obtain ⟨g1, g2, g3, g4⟩ := getAt_spec (ρ := ρ) 50 v off i.size i.agg x hg
  have ok := hC.ty t i hi
  refine ⟨?_, getAt_in hg h3⟩
  cases ha : i.agg with
  | true =>
    rw [ha, if_pos rfl] at g4
    have hrow : rowAt w ⟨ρ.b b, ρ.pre b + off, none⟩ i.size = some (cellsV ρ x).toArray := by
      rw [kn_row h1 (by simp; omega), ← h2, row_get (by simpa using g2), g3]
    rw [run_loadVar_agg (ok.aggLen ha), hrow, conc_agg g4]
  | false =>
    rw [ha, if_neg (by simp)] at g4
    have e1 := cellsV_leaf (ρ := ρ) g4
    have e2 : x.size = 1 := by
      have := cellsV_length ρ x
      rw [e1] at this; simpa using this.symm
    have hc : (cellsV ρ v)[off]? = some (conc ρ x) := by
      have h4 : (((cellsV ρ v).drop off).take i.size)[0]? = some (conc ρ x) := by rw [g3, e1]; rfl
      rw [List.getElem?_take_of_lt (by omega), List.getElem?_drop, Nat.add_zero] at h4
      exact h4
    have hcell : w.cell? ⟨ρ.b b, ρ.pre b + off, none⟩ = some (conc ρ x) := by
      simp only [World.cell?, h1]
      rw [← h2]
      simpa using row_at (pre := pre) (tail := tail) hc
    have ha' := ok.isAgg w
    rw [ha] at ha'
    simp [loadVar, ha', hcell]
/-- a write to a block of one's own -/
theorem put_sound (r : Rel s0 U D ρ h w) {b off : Nat} {ty : TypeId} {v v' : V} {vs : List Value} (hb : D b) (hg : h.get b = some (.cells ty v)) (hs : v'.size = v.size) (hv : cellsV ρ v' = spl (cellsV ρ v) off vs) (hle : off + vs.length ≤ v.size) (hin : InD (DD D ρ) v') :
    ∃ pre tail, w.heap[ρ.b b]? = some (.cells (pre ++ (cellsV ρ v ++ tail)).toArray ty (0, 0)) ∧ pre.length = ρ.pre b ∧
      ∀ w', Turned (ρ.b b) (.cells (splice (pre ++ (cellsV ρ v ++ tail)).toArray (ρ.pre b + off) vs.toArray) ty (0, 0)) w w' → Rel s0 U D ρ (h.put b (.cells ty v')) w' ∧ Nxt D ρ h w D ρ (h.put b (.cells ty v')) w' := by
  obtain ⟨o, h1, pre, tail, rfl, h2, h3⟩ := r.has b _ hb hg
  refine ⟨pre, tail, h1, h2, fun w' t => r.put hb hg rfl rfl t ⟨pre, tail, ?_, h2, by rw [hs]; exact h3⟩ hin⟩
  congr 1
  simp only [splice, List.size_toArray]
  congr 1
  rw [hv]
  have := spl_spl (b := cellsV ρ v) (vs := vs) (a' := pre) (c' := tail) (o := off) (by simp; exact hle)
  simp only [List.append_assoc] at this
  rw [this, h2]
  rfl
theorem store_sound (hC : CfgOK P C) (r : Rel s0 U D ρ h w) {t : TypeId} {i : TyI} {b off : Nat} {ty : TypeId} {v v' x : V} (hi : C.ty t = some i) (hsz : x.size = i.size) (hb : D b) (hg : h.get b = some (.cells ty v)) (hp : putAt 50 v off x = some v') (hx : InD (DD D ρ) x) :
    ∃ w', (storeVar t ⟨ρ.b b, ρ.pre b + off, none⟩ (conc ρ x)).run P w = .ok () w' ∧ Rel s0 U D ρ (h.put b (.cells ty v')) w' ∧ Nxt D ρ h w D ρ (h.put b (.cells ty v')) w' := by
  obtain ⟨k1, k2, k3, k4, k5, k6⟩ := putAt_spec (ρ := ρ) 50 v off x v' hp
  obtain ⟨pre, tail, h1, h2, h3⟩ := put_sound r hb hg k1 k3 (by simpa using k2) (putAt_in hp (r.clo b _ hb hg) hx)
  refine ⟨w.setRow (ρ.b b) (splice (pre ++ (cellsV ρ v ++ tail)).toArray (ρ.pre b + off) (cellsV ρ x).toArray), ?_, ?_⟩
  · have hcells : (conc ρ x).cells = (cellsV ρ x).toArray := conc_cells k6
    have hst := run_storeCells_at (P := P) (ρ.b b) (ρ.pre b + off) ty (cellsV ρ x) 0 (pre ++ (cellsV ρ v ++ tail)).toArray w h1 (by simp; omega) (cells_one ρ x)
    simp only [Nat.add_zero] at hst
    have hs := (hC.ty t i hi).sizeOf w
    simp only [storeVar, Sem.run_bind, hs, Result.andThen_ok, hcells, List.size_toArray, cellsV_length, hsz, ne_eq, not_true_eq_false, if_false]
    rw [hst]
    simp [splice]
  · refine h3 _ ⟨rfl, rfl, rfl, by simp, ?_, fun k hk => ?_⟩
    · simp [World.setRow, Array.getElem?_modify, h1]
    · simp only [World.setRow, Array.getElem?_modify]; rw [if_neg (fun e => hk e.symm)]
/-- a new row of cells -/
theorem new_sound (r : Rel s0 U D ρ h w) (hU : h.next + 1 ≤ U) {v : V} {t : TypeId} {tail : List Value} (hv : InD (DD D ρ) v) :
    Rel s0 U (fun i => D i ∨ i = h.next) (ρ.add h.next w.heap.size 0 (v.size + tail.length)) (h.push (.cells t v)) (w.alloc (.cells (cellsV ρ v ++ tail).toArray t)) ∧
    Nxt D ρ h w (fun i => D i ∨ i = h.next) (ρ.add h.next w.heap.size 0 (v.size + tail.length)) (h.push (.cells t v)) (w.alloc (.cells (cellsV ρ v ++ tail).toArray t)) := by
  refine r.push hU (below_alloc w _) (heap_alloc_new w _) rfl hv ⟨[], tail, ?_, by simp [Env.add], by simp [Env.add]⟩
  have hag : Env.Agree (DD D ρ) ρ (ρ.add h.next w.heap.size 0 (v.size + tail.length)) := Env.add_agree (r.next_new hU)
  rw [cellsV_agree hag hv]; rfl
theorem new_ptr (r : Rel s0 U D ρ h w) {cap : Nat} : conc (ρ.add h.next w.heap.size 0 cap) (.ptr h.next 0) = .pointer (some ⟨w.heap.size, 0, none⟩) ∧ InD (DD (fun i => D i ∨ i = h.next) (ρ.add h.next w.heap.size 0 cap)) (.ptr h.next 0) :=
  ⟨by simp [conc, Env.add], push_new (Nat.zero_le _)⟩
theorem new_sl (n len k : Nat) (hk : 0 < k) (hl : len ≤ n) {cap : Nat} (hc : cap = n * k) : conc (ρ.add h.next w.heap.size 0 cap) (.sl h.next 0 0 len k none) = .slice (some ⟨w.heap.size, 0, none⟩) len n ∧ InD (DD (fun i => D i ∨ i = h.next) (ρ.add h.next w.heap.size 0 cap)) (.sl h.next 0 0 len k none) := by
  subst hc
  refine ⟨by simp [conc, slConc, slCap, Env.add, Nat.mul_div_cancel _ hk], hk, Nat.le_refl _, ?_⟩
  refine push_new ?_
  simp only [Option.getD_none, Nat.zero_add]
  exact Nat.mul_le_mul_right k hl
/-! rows of one value again and again -/
theorem rep_cells (ρ : Env) (n e : Nat) (z : V) (hz : z.size = e) (he : 0 < e) : (cellsV ρ (repV n e z)).toArray = (Array.range (n * e)).map ((cellsV ρ z).toArray[· % (cellsV ρ z).toArray.size]!) := by
  have hl : (concE ρ e (List.replicate n z)).length = n * e := by rw [concE_length]; simp
  apply Array.ext'
  simp only [repV, cellsV, fit_self hl, Array.toList_map, Array.toList_range]
  apply List.ext_getElem?
  intro i
  rw [List.getElem?_map]
  have hsz : (cellsV ρ z).length = e := by simp [hz]
  have key : ∀ (n i : Nat), (concE ρ e (List.replicate n z))[i]? = if i < n * e then (cellsV ρ z)[i % e]? else none := by
    intro n
    induction n with
    | zero => intro i; simp [concE]
    | succ n ih =>
      intro i
      simp only [List.replicate_succ, concE, fit_self hsz]
      by_cases h1 : i < e
      · rw [List.getElem?_append_left (by omega), Nat.mod_eq_of_lt h1, if_pos (by rw [Nat.add_mul]; omega)]
      · rw [List.getElem?_append_right (by omega), ih, hsz, Nat.add_mul]
        have : (i - e) % e = i % e := (Nat.mod_eq_sub_mod (by omega)).symm
        rw [this]
        by_cases h2 : i < n * e + e
        · rw [if_pos (by omega), if_pos (by omega)]
        · rw [if_neg (by omega), if_neg (by omega)]
  rw [key]
  by_cases h1 : i < n * e
  · rw [if_pos h1, List.getElem?_range h1]
    have hm : i % e < (cellsV ρ z).length := by rw [hsz]; exact Nat.mod_lt _ he
    simp only [Option.map_some, List.size_toArray, hsz]
    rw [List.getElem?_eq_getElem hm]
    simp [hm, List.getElem?_eq_getElem hm]
  · rw [if_neg h1, List.getElem?_eq_none (by simpa using Nat.le_of_not_lt h1)]; rfl
theorem fillE_spec (hfr : FrE C D ρ fr a) {e : Nat} : ∀ (parts : List (Nat × Operand)) (v v' : V), fillE C fr e v parts = some v' → InD (DD D ρ) v →
    Instr.fill (fun i => some (i * e, e)) (cellsV ρ v).toArray (parts.map fun p => (p.1, a.eval p.2)) = some (cellsV ρ v').toArray ∧ InD (DD D ρ) v' ∧ v'.size = v.size
  | [], v, v', hh, hv => by simp only [fillE, Option.some.injEq] at hh; subst hh; exact ⟨rfl, hv, rfl⟩
  | (i, x) :: l, v, v', hh, hv => by
    simp only [fillE] at hh
    split at hh
    · rename_i y hx
      split at hh
      · rename_i hsz
        rw [Nat.beq_eq] at hsz
        split at hh
        · rename_i v1 hput
          obtain ⟨e1, e2⟩ := hfr.ev hx
          obtain ⟨k1, k2, k3, k4, k5, k6⟩ := putAt_spec (ρ := ρ) 50 v (i * e) y v1 hput
          obtain ⟨g1, g2, g3⟩ := fillE_spec hfr l v1 v' hh (putAt_in hput hv e2)
          refine ⟨?_, g2, g3.trans k1⟩
          have hcells : (conc ρ y).cells = (cellsV ρ y).toArray := conc_cells k6
          simp only [List.map_cons, Instr.fill, e1, hcells]
          have hn : ¬ ((cellsV ρ y).toArray.size ≠ e || decide (i * e + (cellsV ρ y).toArray.size > (cellsV ρ v).toArray.size)) = true := by
            simp [hsz]; omega
          rw [if_neg hn]
          have hz : (cellsV ρ y).toArray.zipIdx.foldl (fun cs (p : Value × Nat) => cs.setIfInBounds (i * e + p.2) p.1) (cellsV ρ v).toArray = (cellsV ρ v1).toArray := by
            have := fold_spl (cellsV ρ y) (i * e) 0 (cellsV ρ v).toArray (by simp; omega)
            rw [k3, ← Array.foldl_toList]
            simpa using this
          rw [hz]
          exact g1
        · cases hh
      · cases hh
    · cases hh
/-- a slice's cells in the model -/
theorem sl_cells (r : Rel s0 U D ρ h w) {b base off n esz : Nat} {lim : Option Nat} {v : V} {l : List V} (hin : InD (DD D ρ) (.sl b base off n esz lim)) (hv : h.val b = some v) (hs : subArr 50 v off n esz = some l) :
    ∀ j u, (concE ρ esz l)[j]? = some u → w.cell? ((⟨ρ.b b, ρ.pre b + (if slCap ρ b off esz lim = 0 then base else off), none⟩ : Addr).add j) = some u := by
  intro j u hj
  obtain ⟨g1, g2, g3, g4⟩ := subArr_spec (ρ := ρ) 50 v off n esz l hs
  have hc := slCap_ge hin
  have hn : n ≠ 0 := fun e => by
    have : (concE ρ esz l).length = 0 := by rw [concE_length, g1, e, Nat.zero_mul]
    have := (List.getElem?_eq_some_iff.1 hj).1
    omega
  have hc0 : ¬ slCap ρ b off esz lim = 0 := by omega
  obtain ⟨pre, tail, ty, fz, h1, h2, _, _⟩ := r.val hin.2.2.1 hv
  rw [if_neg hc0, addr_add, ← h2]
  have hcell : (cellsV ρ v)[off + j]? = some u := by
    rw [← g3, List.getElem?_take] at hj
    split at hj
    · rwa [List.getElem?_drop] at hj
    · cases hj
  simp only [World.cell?, h1]
  rw [Nat.add_assoc]
  simpa using row_at (pre := pre) (tail := tail) hcell
theorem bytes_concE (ρ : Env) : ∀ s : List UInt8, concE ρ 1 (bytesV s) = s.map fun b => Value.int .u8 b.toNat
  | [] => rfl
  | c :: s => by
    have := bytes_concE ρ s
    simp only [bytesV, List.map_cons, concE] at this ⊢
    rw [this]
    rfl
theorem srcV_spec (hC : CfgOK P C) (r : Rel s0 U D ρ h w) {tx : TypeId} {esz : Nat} {x : V} {news : List V} (hx : InD (DD D ρ) x) (hs : srcV C h tx esz x = some news) :
    Src P esz tx (conc ρ x) news.length (concE ρ esz news) w ∧ InDL (DD D ρ) news := by
  unfold srcV at hs
  split at hs
  · cases hs
  · rename_i j hj
    have hd := (hC.ty tx j hj).d
    split at hs
    · rename_i e he
      rw [he] at hd
      cases hs
      exact ⟨by simpa [conc, concE] using Src.ofNil (P := P) (size := esz) w hd 0, trivial⟩
    · rename_i e b base off n e' lim he
      rw [he] at hd
      split at hs
      · rename_i v hes hv
        rw [Nat.beq_eq] at hes
        subst hes
        obtain ⟨g1, g2, g3, g4⟩ := subArr_spec (ρ := ρ) 50 v off n e' news hs
        obtain ⟨pre, tail, ty, fz, h1, h2, h3, hvin⟩ := r.val hx.2.2.1 hv
        refine ⟨?_, g4 _ hvin⟩
        simp only [conc, slConc]
        rw [g1]
        exact Src.ofSlice w hd _ n _ _ (by rw [concE_length, g1]) (sl_cells r hx hv hs) (cells_oneE ρ e' news)
      · cases hs
    · rename_i s he
      rw [he] at hd
      split at hs
      · rename_i h1
        rw [Nat.beq_eq] at h1
        subst h1
        cases hs
        have := Src.ofString (P := P) w hd ⟨⟨s⟩⟩
        rw [show (⟨⟨s⟩⟩ : ByteArray).size = s.length from rfl] at this
        refine ⟨?_, InDL_iff.2 fun y hy => by obtain ⟨c, _, rfl⟩ := List.mem_map.1 hy; trivial⟩
        rw [bytes_concE]
        simpa [conc, bytesV, byteCells] using this
      · cases hs
    · cases hs
/-- a new row for what is appended -/
theorem app_grow (hC : CfgOK P C) (r : Rel s0 U D ρ h w) (hU : h.next + 1 ≤ U) {ts tx ty e : TypeId} {k : TyI} {base : Option Addr} {len cap : Nat} {olds news : List V} {x : Value} (hu : P.underlying ts = some (.slice e)) (hk : C.ty e = some k) (hk0 : 0 < k.size)
    (hold : (Builtin.firstCells k.size len (.slice base len cap)).run P w.drew = .ok (concE ρ k.size olds).toArray w.drew) (hlen : olds.length = len) (hs : Src P k.size tx x news.length (concE ρ k.size news) w)
    (hg : cap < len + news.length) (hb : (len + news.length) * k.bytes ≤ 140737488355328) (hm : len + news.length ≤ 70368744177664) (hio : InDL (DD D ρ) olds) (hin : InDL (DD D ρ) news) :
    ∃ val D' ρ' w', (Builtin.append_ #[ts, tx] ty #[.slice base len cap, x]).run P w = .ok val w' ∧ val = conc ρ' (.sl h.next 0 0 (len + news.length) k.size none) ∧
      Rel s0 U D' ρ' (h.push (.cells e (.arr ((len + news.length) * k.size) k.size (olds ++ news)))) w' ∧ Nxt D ρ h w D' ρ' (h.push (.cells e (.arr ((len + news.length) * k.size) k.size (olds ++ news)))) w' ∧ InD (DD D' ρ') (.sl h.next 0 0 (len + news.length) k.size none) := by
  have ok := hC.ty e k hk
  obtain ⟨inf, hin', hsz, hby, hz⟩ := ok.info
  have hz := hz ρ
  have hzs : (conc ρ k.zero).cells.size = k.size := by
    have : (conc ρ k.zero).cells = (cellsV ρ k.zero).toArray := conc_cells (by
      cases ha : k.agg with
      | true => exact .inr (by rw [ok.zagg]; exact ha)
      | false => exact .inl (ok.zleaf ha))
    rw [this]; simp [ok.zsize]
  have hfit : Builtin.nextslicecap (len + news.length) cap * inf.bytes ≤ 281474976710656 := growslice_fits hg (by rw [hby]; exact hb)
  rw [← hsz] at hold hs
  have key := run_append_grow_src w ts tx ty e inf _ hu hin' hz base len cap (concE ρ inf.size olds) hold x news.length (concE ρ inf.size news) hs hg (by omega) hfit
  rw [hsz] at key
  have hge := grownCap_ge w (len + news.length) cap e
  generalize grownCap w (len + news.length) cap e = gc at key hge
  have hv : InD (DD D ρ) (.arr ((len + news.length) * k.size) k.size (olds ++ news)) := InDL_iff.2 fun y hy => by
    rcases List.mem_append.1 hy with h | h
    · exact InDL_iff.1 hio y h
    · exact InDL_iff.1 hin y h
  have hcells : cellsV ρ (.arr ((len + news.length) * k.size) k.size (olds ++ news)) = concE ρ k.size olds ++ concE ρ k.size news := by
    simp only [cellsV]
    rw [fit_self (by rw [concE_length]; simp [hlen]), concE_append]
  have htl : (Builtin.zeroCells (conc ρ k.zero).cells (gc - (len + news.length))).toList.length = (gc - (len + news.length)) * k.size := by simp [Builtin.zeroCells, hzs]
  obtain ⟨r1, n1⟩ := new_sound (t := e) (tail := (Builtin.zeroCells (conc ρ k.zero).cells (gc - (len + news.length))).toList) (r.drawn (w.drawn + 1)) hU hv
  have hcap : (V.arr ((len + news.length) * k.size) k.size (olds ++ news)).size + (Builtin.zeroCells (conc ρ k.zero).cells (gc - (len + news.length))).toList.length = gc * k.size := by
    rw [htl]
    show (len + news.length) * k.size + _ = _
    rw [← Nat.add_mul]; congr 1; omega
  have heq : ((concE ρ k.size olds ++ concE ρ k.size news) ++ (Builtin.zeroCells (conc ρ k.zero).cells (gc - (len + news.length))).toList).toArray = (concE ρ k.size olds ++ concE ρ k.size news).toArray ++ Builtin.zeroCells (conc ρ k.zero).cells (gc - (len + news.length)) := by
    apply Array.ext'; simp
  obtain ⟨s1, s2⟩ := new_sl (D := D) (ρ := ρ) (w := w) (h := h) gc (len + news.length) k.size hk0 hge hcap
  refine ⟨_, _, _, _, key, s1.symm, ?_, ?_, s2⟩
  · rw [hcells, heq] at r1
    exact r1
  · rw [hcells, heq] at n1
    exact n1.undrew
end
end Go.Proofs.YtmlemnbhjbaedaaGreatDoor

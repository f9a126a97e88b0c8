/-
  What the proof of AcctTotal stands on, part 2. No condition.
-/
import Derived.LoopNIn
import Derived.Test.YtgeelfdgnehdnaaZAcctTotalA
namespace Go.Proofs.Ytgeelfdgnehdnaa
open Go.RowKit
set_option linter.unusedSimpArgs false
set_option linter.unusedVariables false
noncomputable def subArrS : Nat → V → Nat → Nat → Nat → Option (List V)
  | 0, _, _, _, _ => none
  | f + 1, v, off, n, e =>
    match v with
    | .arr m e' l =>
      match Nat.beq e' e && Nat.beq (off % e) 0 && Nat.ble (off + n * e) m with
      | true => match Nat.beq ((l.drop (off / e)).take n).length n with
        | true => some ((l.drop (off / e)).take n)
        | false => none
      | false => match Nat.beq off 0 && Nat.beq n 1 && Nat.beq m e with
       | true => some [.arr m e' l]
       | false => match l[off / e']? with
        | some x => match Nat.beq x.size e' && Nat.ble (off / e' * e' + e') m && Nat.ble (off % e' + n * e) e' with
          | true => subArrS f x (off % e') n e
          | false => none
        | none => none
    | .agg m l => match Nat.beq off 0 && Nat.beq n 1 && Nat.beq m e with
     | true => some [.agg m l]
     | false => match findI l off with
      | some (x, o) => match Nat.ble (off - o + x.size) m && Nat.ble (o + n * e) x.size with
        | true => subArrS f x o n e
        | false => none
      | none => none
    | _ => none
theorem concE_length (ρ : Env) (e : Nat) : ∀ l : List V, (concE ρ e l).length = l.length * e
  | [] => by simp [concE]
  | v :: l => by simp [concE, concE_length ρ e l, Nat.add_mul]; omega
theorem concE_append (ρ : Env) (e : Nat) : ∀ a b : List V, concE ρ e (a ++ b) = concE ρ e a ++ concE ρ e b
  | [], b => by simp [concE]
  | v :: a, b => by simp [concE, concE_append ρ e a b]
theorem concE_drop (ρ : Env) (e : Nat) : ∀ (l : List V) (i : Nat), concE ρ e (l.drop i) = (concE ρ e l).drop (i * e)
  | [], i => by simp [concE]
  | v :: l, 0 => by simp
  | v :: l, i + 1 => by
    have h1 : (fit e (cellsV ρ v)).drop ((i + 1) * e) = [] := List.drop_of_length_le (by rw [fit_length, Nat.add_mul]; omega)
    simp only [List.drop_succ_cons, concE, concE_drop ρ e l i]
    rw [List.drop_append, h1, List.nil_append, fit_length, Nat.add_mul]
    congr 1
    omega
theorem concE_take (ρ : Env) (e : Nat) : ∀ (l : List V) (i : Nat), concE ρ e (l.take i) = (concE ρ e l).take (i * e)
  | [], i => by simp [concE]
  | v :: l, 0 => by simp [concE]
  | v :: l, i + 1 => by
    simp only [List.take_succ_cons, concE, concE_take ρ e l i]
    rw [List.take_append, List.take_of_length_le (l := fit e (cellsV ρ v)) (by simp [Nat.add_mul])]
    congr 2
    simp [Nat.add_mul]
theorem fit_sub {m a b : Nat} {L : List Value} (h1 : a + b ≤ m) (h2 : a + b ≤ L.length) : ((fit m L).drop a).take b = (L.drop a).take b := by
  simp only [fit]
  rw [List.drop_take, List.take_take, show min b (m - a) = b by omega, List.drop_append_of_le_length (by omega), List.take_append_of_le_length (by simp; omega)]
theorem subArrS_spec {ρ : Env} : ∀ (f : Nat) (v : V) (off n e : Nat) (l : List V), subArrS f v off n e = some l →
    l.length = n ∧ off + n * e ≤ v.size ∧ ((cellsV ρ v).drop off).take (n * e) = concE ρ e l ∧ ∀ D, InD D v → InDL D l
  | 0, _, _, _, _, _, h => by simp [subArrS] at h
  | f + 1, v, off, n, e, r, h => by
    simp only [subArrS] at h
    split at h
    · rename_i m e' l
      split at h
      · rename_i hc
        simp only [Bool.and_eq_true, Nat.beq_eq] at hc
        obtain ⟨⟨rfl, h0⟩, hle⟩ := hc
        have hle := Nat.le_of_ble_eq_true hle
        split at h
        · rename_i hn
          rw [Nat.beq_eq] at hn
          cases h
          have hoff : off / e' * e' = off := by
            have := Nat.div_add_mod off e'
            rw [Nat.mul_comm] at this; omega
          refine ⟨hn, hle, ?_, fun D hv => InDL_iff.2 fun x hx => InDL_iff.1 (show InDL D l from hv) x (List.mem_of_mem_drop (List.mem_of_mem_take hx))⟩
          by_cases hn0 : n = 0
          · subst hn0; simp [concE]
          have hlen : off + n * e' ≤ (concE ρ e' l).length := by
            rw [concE_length]
            rw [List.length_take, List.length_drop] at hn
            have := Nat.mul_le_mul_right e' (show off / e' + n ≤ l.length by omega)
            rw [Nat.add_mul] at this; omega
          simp only [cellsV]
          rw [fit_sub hle hlen, concE_take, concE_drop, hoff]
        · cases h
      · split at h
        · rename_i hc
          simp only [Bool.and_eq_true, Nat.beq_eq] at hc
          obtain ⟨⟨rfl, rfl⟩, rfl⟩ := hc
          cases h
          refine ⟨rfl, by show 0 + 1 * m ≤ m; omega, ?_, fun D hv => ⟨hv, trivial⟩⟩
          simp only [concE, List.append_nil, Nat.one_mul, List.drop_zero]
          rw [fit_self (by simp [V.size]), List.take_of_length_le (by simp [V.size])]
        · split at h
          · rename_i x hx
            split at h
            · rename_i hc
              simp only [Bool.and_eq_true, Nat.beq_eq] at hc
              obtain ⟨⟨h1, h2⟩, h3⟩ := hc
              have h2 := Nat.le_of_ble_eq_true h2
              have h3 := Nat.le_of_ble_eq_true h3
              obtain ⟨g1, g2, g3, g4⟩ := subArrS_spec (ρ := ρ) f x _ n e r h
              obtain ⟨a, c, k1, k2⟩ := concE_at (ρ := ρ) (e := e') _ _ _ hx
              have hdm := Nat.div_add_mod off e'
              rw [Nat.mul_comm] at hdm
              refine ⟨g1, by show off + n * e ≤ m; omega, ?_, fun D hv => g4 D (InDL.at_ (show InDL D l from hv) hx)⟩
              rw [fit_self (by simp [h1])] at k1
              have key := take_drop_fit (n := m) (a := a) (b := cellsV ρ x) (c := c) (by simp; omega)
              rw [← k1] at key
              simp only [cellsV]
              rw [← g3, ← key, take_drop_take_drop (by simp; omega), k2, hdm]
            · cases h
          · cases h
    · rename_i m l
      split at h
      · rename_i hc
        simp only [Bool.and_eq_true, Nat.beq_eq] at hc
        obtain ⟨⟨rfl, rfl⟩, rfl⟩ := hc
        cases h
        refine ⟨rfl, by show 0 + 1 * m ≤ m; omega, ?_, fun D hv => ⟨hv, trivial⟩⟩
        simp only [concE, List.append_nil, Nat.one_mul, List.drop_zero]
        rw [fit_self (by simp [V.size]), List.take_of_length_le (by simp [V.size])]
      split at h
      · rename_i x o hf
        split at h
        · rename_i hc
          simp only [Bool.and_eq_true] at hc
          have h2 := Nat.le_of_ble_eq_true hc.1
          have h3 := Nat.le_of_ble_eq_true hc.2
          obtain ⟨a, c, k1, k2, k3⟩ := findI_spec (ρ := ρ) _ _ _ _ hf
          obtain ⟨g1, g2, g3, g4⟩ := subArrS_spec (ρ := ρ) f x o n e r h
          refine ⟨g1, by show off + n * e ≤ m; omega, ?_, fun D hv => g4 D (findI_in hf (show InDL D l from hv))⟩
          have ha : a.length = off - o := by omega
          have key := take_drop_fit (n := m) (a := a) (b := cellsV ρ x) (c := c) (by simp; omega)
          rw [← k1] at key
          simp only [cellsV]
          rw [← g3, ← key, take_drop_take_drop (by simp; omega), k2]
        · cases h
      · cases h
    · cases h
noncomputable def chop (l : List V) (e : Nat) : Nat → List V
  | 0 => []
  | n + 1 => .agg e (l.take e) :: chop (l.drop e) e n
theorem chop_length {e : Nat} : ∀ (n : Nat) (l : List V), (chop l e n).length = n
  | 0, _ => rfl
  | n + 1, l => by simp [chop, chop_length n]
theorem chop_flat {e : Nat} : ∀ (n : Nat) (l : List V), (∀ x ∈ l, x.isAgg = false) → n * e ≤ l.length → flatE e (chop l e n) = l.take (n * e) ∧ ∀ x ∈ chop l e n, x.size = e ∧ x.isAgg = true ∧ ∀ y ∈ flatV x, y ∈ l
  | 0, l, _, _ => by simp [chop, flatE]
  | n + 1, l, h, hl => by
    rw [Nat.add_mul] at hl
    obtain ⟨g1, g2⟩ := chop_flat (e := e) n (l.drop e) (fun x hx => h x (List.mem_of_mem_drop hx)) (by simp; omega)
    have hf : flatV (.agg e (l.take e)) = l.take e := flat_agg (fun x hx => h x (List.mem_of_mem_take hx)) (by simp; omega)
    refine ⟨?_, fun x hx => ?_⟩
    · simp only [chop, flatE, hf, g1]
      rw [fitV_self (by simp; omega), Nat.add_mul, Nat.one_mul, Nat.add_comm (n * e) e, List.take_add]
    · simp only [chop, List.mem_cons] at hx
      rcases hx with rfl | hx
      · exact ⟨rfl, rfl, fun y hy => by rw [hf] at hy; exact List.mem_of_mem_take hy⟩
      · obtain ⟨k1, k2, k3⟩ := g2 x hx
        exact ⟨k1, k2, fun y hy => List.mem_of_mem_drop (k3 y hy)⟩
noncomputable def flatSub (v : V) (off n e : Nat) : Option (List V) := match v.isAgg && Nat.ble (off + n * e) v.size with
  | true => some (chop ((flatV v).drop off) e n)
  | false => none
noncomputable def okE (e : Nat) (l : List V) : Bool := l.all fun x => Nat.beq x.size e && (x.leaf || x.isAgg)
noncomputable def subArr (f : Nat) (v : V) (off n e : Nat) : Option (List V) := match subArrS f v off n e with
  | some l => match okE e l with
    | true => some l
    | false => flatSub v off n e
  | none => flatSub v off n e
theorem flatSub_spec {v : V} {off n e : Nat} {l : List V} (h : flatSub v off n e = some l) :
    l.length = n ∧ off + n * e ≤ v.size ∧ ((flatV v).drop off).take (n * e) = flatE e l ∧ (∀ x ∈ l, x.size = e) ∧ ∀ x ∈ l, ∀ y ∈ flatV x, y ∈ flatV v := by
  unfold flatSub at h
  split at h
  · rename_i hc
    simp only [Bool.and_eq_true] at hc
    have hle := Nat.le_of_ble_eq_true hc.2
    cases h
    obtain ⟨g1, g2⟩ := chop_flat n ((flatV v).drop off) (e := e) (fun x hx => flat_one v x (List.mem_of_mem_drop hx)) (by simp; omega)
    exact ⟨chop_length _ _, hle, g1.symm, fun x hx => (g2 x hx).1, fun x hx y hy => List.mem_of_mem_drop ((g2 x hx).2.2 y hy)⟩
  · cases h
theorem in_of_flat {D : Nat → Nat → Prop} {e : Nat} : ∀ (n : Nat) (l : List V), (∀ y ∈ l, InD D y) → InDL D (chop l e n)
  | 0, _, _ => trivial
  | n + 1, l, h => ⟨InDL_iff.2 fun y hy => h y (List.mem_of_mem_take hy), in_of_flat n _ fun y hy => h y (List.mem_of_mem_drop hy)⟩
theorem subArr_spec {ρ : Env} (f : Nat) (v : V) (off n e : Nat) (l : List V) (h : subArr f v off n e = some l) :
    l.length = n ∧ off + n * e ≤ v.size ∧ ((cellsV ρ v).drop off).take (n * e) = concE ρ e l ∧ ∀ D, InD D v → InDL D l := by
  have fl : ∀ {l}, flatSub v off n e = some l → l.length = n ∧ off + n * e ≤ v.size ∧ ((cellsV ρ v).drop off).take (n * e) = concE ρ e l ∧ ∀ D, InD D v → InDL D l := fun {l} h => by
    obtain ⟨h1, h2, h3, h4, h5⟩ := flatSub_spec h
    refine ⟨h1, h2, ?_, fun D hv => ?_⟩
    · rw [flatE_cells, ← h3, cells_flat, List.map_take, List.map_drop]
    · unfold flatSub at h
      split at h
      · cases h
        exact in_of_flat _ _ fun y hy => flat_in hv y (List.mem_of_mem_drop hy)
      · cases h
  unfold subArr at h
  split at h
  · split at h
    · cases h; exact subArrS_spec f v off n e l (by assumption)
    · exact fl h
  · exact fl h
noncomputable def putN : V → Nat → Nat → List V → Option V
  | v, _, _, [] => some v
  | v, off, e, x :: l => match Nat.beq x.size e with
    | true => match putAt 50 v off x with
      | some v' => putN v' (off + e) e l
      | none => none
    | false => none
theorem spl_two {c a b : List Value} {off : Nat} (h : off + a.length + b.length ≤ c.length) : spl (spl c off a) (off + a.length) b = spl c off (a ++ b) := by
  simp only [spl]
  apply List.ext_getElem?
  intro i
  simp only [List.append_assoc, List.getElem?_append, List.getElem?_take, List.getElem?_drop, List.length_take, List.length_append, List.length_drop]
  by_cases h1 : i < off
  · simp only [show i < min (off + a.length) (min off c.length + (a.length + (c.length - (off + a.length)))) from by omega, show i < off + a.length from by omega, show i < min off c.length from by omega, h1, if_true]
  · by_cases h2 : i < off + a.length
    · simp only [show i < min (off + a.length) (min off c.length + (a.length + (c.length - (off + a.length)))) from by omega, h2, show ¬ i < min off c.length from by omega, show i - min off c.length < a.length from by omega, if_true, if_false]
    · have m1 : min (off + a.length) (off + (a.length + (c.length - (off + a.length)))) = off + a.length := by omega
      have m2 : min off c.length = off := by omega
      by_cases h3 : i < off + a.length + b.length
      · simp only [m1, m2, h1, h2, if_false, show i - (off + a.length) < b.length from by omega, show ¬ i - off < a.length from by omega, show i - off - a.length < b.length from by omega, if_true]
        congr 1; omega
      · simp only [m1, m2, h1, h2, if_false, show ¬ i - (off + a.length) < b.length from by omega, show ¬ i - off < a.length from by omega, show ¬ i - off - a.length < b.length from by omega,
          show ¬ off + a.length + b.length + (i - (off + a.length) - b.length) < off from by omega, show ¬ off + a.length + b.length + (i - (off + a.length) - b.length) - off < a.length from by omega]
        congr 1; omega
theorem putN_spec {ρ : Env} {e : Nat} : ∀ (l : List V) (v : V) (off : Nat) (v' : V), putN v off e l = some v' →
    v'.size = v.size ∧ (l = [] ∨ off + l.length * e ≤ v.size) ∧ cellsV ρ v' = (if l = [] then cellsV ρ v else spl (cellsV ρ v) off (concE ρ e l)) ∧ v'.isAgg = v.isAgg ∧ v'.leaf = v.leaf ∧ (∀ D, InD D v → InDL D l → InD D v') ∧ ∀ x ∈ l, x.size = e
  | [], v, off, v', h => by simp only [putN, Option.some.injEq] at h; subst h; exact ⟨rfl, .inl rfl, by simp, rfl, rfl, fun _ h _ => h, by simp⟩
  | x :: l, v, off, v', h => by
    simp only [putN] at h
    split at h
    · rename_i hs
      rw [Nat.beq_eq] at hs
      split at h
      · rename_i v1 h1
        obtain ⟨k1, k2, k3, k4, k5, k6⟩ := putAt_spec (ρ := ρ) 50 v off x v1 h1
        obtain ⟨g1, g2, g3, g4, g5, g6, g7⟩ := putN_spec (ρ := ρ) l v1 _ v' h
        have hfx : fit e (cellsV ρ x) = cellsV ρ x := fit_self (by simp [hs])
        refine ⟨g1.trans k1, .inr ?_, ?_, g4.trans k4, g5.trans k5, fun D hv hl => g6 D (putAt_in h1 hv hl.1) hl.2, fun y hy => ?_⟩
        · rcases g2 with h0 | g2
          · subst h0; show off + 1 * e ≤ v.size; omega
          · rw [List.length_cons, Nat.add_mul]; omega
        · rw [g3, if_neg (show ¬ (x :: l = []) by simp)]
          by_cases hl : l = []
          · subst hl
            rw [if_pos rfl, k3]; simp [concE, hfx]
          · rw [if_neg hl]
            rcases g2 with h0 | g2
            · exact absurd h0 hl
            · rw [k3]
              simp only [concE, hfx]
              rw [← spl_two (by rw [cellsV_length, cellsV_length, concE_length]; omega)]
              simp [hs]
        · rcases List.mem_cons.1 hy with rfl | hy
          · exact hs
          · exact g7 y hy
      · cases h
    · cases h
noncomputable def Heap.val (h : Heap) (b : Nat) : Option V := match h.get b with
  | some (.cells _ v) => some v
  | some (.ro v) => some v
  | _ => none
noncomputable def bytesV (s : List UInt8) : List V := s.map fun c => .int .u8 (.ofNat c.toNat)
noncomputable def srcV (C : Cfg) (h : Heap) (tx : TypeId) (esz : Nat) (x : V) : Option (List V) := match C.ty tx with
  | none => none
  | some j => match j.d, x with
    | .slice _, .nils => some []
    | .slice _, .sl b _ off n e _ => match Nat.beq e esz, h.val b with
      | true, some v => subArr 50 v off n esz
      | _, _ => none
    | .str, .str s => match Nat.beq esz 1 with
      | true => some (bytesV s)
      | false => none
    | _, _ => none
noncomputable def appendV (C : Cfg) (h : Heap) (ts tx : TypeId) (s x : V) : Option (V × Heap) := match C.ty ts with
  | none => none
  | some j => match j.d with
    | .slice e => match C.ty e with
      | none => none
      | some k => match Nat.beq k.size 0 with
        | true => none
        | false => match srcV C h tx k.size x with
          | none => none
          | some news => match s with
            | .nils => match news with
              | [] => some (.nils, h)
              | _ :: _ => match Nat.ble (news.length * k.bytes) 140737488355328 && Nat.ble news.length 70368744177664 with
                | true => some (.sl h.next 0 0 news.length k.size none, h.push (.cells e (.arr (news.length * k.size) k.size news)))
                | false => none
            | .sl b base off len esz lim => match Nat.beq esz k.size, news with
              | false, _ => none
              | true, [] => some (.sl b base off len esz lim, h)
              | true, _ :: _ => match Nat.ble ((len + news.length) * k.bytes) 140737488355328 && Nat.ble (len + news.length) 70368744177664 with
                | false => none
                | true => match lim with
                  | some c => match Nat.ble (len + news.length) c with
                    | true => match h.get b with
                      | some (.cells ty v) => match Nat.ble (off + (len + news.length) * esz) v.size with
                        | true => match putN v (off + len * esz) esz news with
                          | some v' => some (.sl b base off (len + news.length) esz lim, h.put b (.cells ty v'))
                          | none => none
                        | false => none
                      | _ => none
                    | false => match h.val b with
                      | some v => match subArr 50 v off len esz with
                        | some olds => some (.sl h.next 0 0 (len + news.length) esz none, h.push (.cells e (.arr ((len + news.length) * esz) esz (olds ++ news))))
                        | none => none
                      | none => none
                  | none => match h.get b with
                    | some (.cells ty v) => match Nat.ble (off + (len + news.length) * esz) v.size with
                      | true => match putN v (off + len * esz) esz news with
                        | some v' => some (.sl b base off (len + news.length) esz none, h.put b (.cells ty v'))
                        | none => none
                      | false => match Nat.beq ty e, subArr 50 v off len esz with
                        | true, some olds => some (.sl h.next 0 0 (len + news.length) esz none, (h.push (.cells e (.arr ((len + news.length) * esz) esz (olds ++ news)))).kill b)
                        | _, _ => none
                    | _ => none
            | _ => none
    | _ => none
noncomputable def copyV (C : Cfg) (h : Heap) (ts tx : TypeId) (s x : V) : Option (V × Heap) := match C.ty ts with
  | none => none
  | some j => match j.d with
    | .slice e => match C.ty e with
      | none => none
      | some k => match srcV C h tx k.size x with
        | none => none
        | some all => match s with
          | .nils => some (.int .i64 (.ofNat 0), h)
          | .sl b _ off len esz _ => match Nat.beq esz k.size, all.take len with
            | true, [] => some (.int .i64 (.ofNat 0), h)
            | true, y :: ys => match h.get b with
              | some (.cells ty v) => match Nat.ble (off + (ys.length + 1) * esz) v.size with
                | true => match putN v off esz (y :: ys) with
                  | some v' => some (.int .i64 (.ofNat (ys.length + 1)), h.put b (.cells ty v'))
                  | none => none
                | false => none
              | _ => none
            | _, _ => none
          | _ => none
    | _ => none
noncomputable def repV (n e : Nat) (z : V) : V := .arr (n * e) e (List.replicate n z)
noncomputable def fillE (C : Cfg) (fr : Tr V) (e : Nat) : V → List (Nat × Operand) → Option V
  | v, [] => some v
  | v, (i, x) :: l => match evV C fr x with
    | some y => match Nat.beq y.size e with
      | true => match putAt 50 v (i * e) y with
        | some v' => fillE C fr e v' l
        | none => none
      | false => none
    | none => none
noncomputable def descOf (C : Cfg) (e : TypeId) : Option TyD := match C.ty e with
  | some k => some k.d
  | none => none
noncomputable def bytesOf : List V → Option (List UInt8)
  | [] => some []
  | .int .u8 (.ofNat c) :: l => match Nat.blt c 256, bytesOf l with
    | true, some r => some (UInt8.ofNat c :: r)
    | _, _ => none
  | _ => none
noncomputable def ohConvert (C : Cfg) (fr : Tr V) (h : Heap) (s : TypeId) (t : TypeId) (x : Operand) : Option (V × Heap) := match C.ty s, C.ty t, evV C fr x with
  | some js, some jt, some v => match js.d, jt.d, v with
    | .slice e, .str, v => match descOf C e, v with
      | some (.int .u8), .nils => some (.str [], h)
      | some (.int .u8), .sl b _ off n esz _ => match Nat.beq esz 1, h.val b with
        | true, some bv => match subArr 50 bv off n esz with
          | some l => match bytesOf (flatE 1 l) with
            | some r => some (.str r, h)
            | none => none
          | none => none
        | _, _ => none
      | _, _ => none
    | .slice _, .slice e, .sl b base off n esz lim => match Nat.beq s t, descOf C e, h.get b with
      | true, some (.int .u8), some (.cells _ bv) => match Nat.ble base bv.size with
        | true => some (.sl b base off n esz lim, h.put b (.ro bv))
        | false => none
      | _, _, _ => none
    | .str, .slice e, .str s => match descOf C e with
      | some (.int .u8) => some (.sl h.next 0 0 s.length 1 none, h.push (.ro (.arr s.length 1 (bytesV s))))
      | _ => none
    | _, _, _ => none
  | _, _, _ => none
noncomputable def ohLoad (C : Cfg) (fr : Tr V) (h : Heap) (t : TypeId) (x : Operand) : Option (V × Heap) := match evV C fr x, C.ty t with
  | some (.ptr b off), some i => match h.val b with
    | some v => match getAt 50 v off i.size i.agg with
      | some r => some (r, h)
      | none => none
    | none => none
  | _, _ => none
noncomputable def ohStore (C : Cfg) (fr : Tr V) (h : Heap) (t : TypeId) (x : Operand) (y : Operand) : Option (V × Heap) := match evV C fr x, evV C fr y, C.ty t with
  | some (.ptr b off), some u, some i => match h.get b, Nat.beq u.size i.size with
    | some (.cells ty v), true => match putAt 50 v off u with
      | some v' => some (.undef, h.put b (.cells ty v'))
      | none => none
    | _, _ => none
  | _, _, _ => none
noncomputable def ohAlloc (C : Cfg) (fr : Tr V) (h : Heap) (t : TypeId) : Option (V × Heap) := match C.ty t with
  | some i => some (.ptr h.next 0, h.push (.cells t i.zero))
  | none => none
noncomputable def ohBox (C : Cfg) (fr : Tr V) (h : Heap) (t : TypeId) (x : Operand) : Option (V × Heap) := match evV C fr x with
  | some v => match v.leaf || v.isAgg with
    | true => some (.ptr h.next 0, h.push (.cells t v))
    | false => none
  | none => none
noncomputable def ohBuildslice (C : Cfg) (fr : Tr V) (h : Heap) (t : TypeId) (n : Nat) (parts : Array (Nat × Operand)) : Option (V × Heap) := match C.ty t with
  | some i => match i.d with
    | .slice e => match C.ty e with
      | some k => match Nat.beq k.size 0 || !Nat.ble (n * k.size) 16777216 with
        | true => none
        | false => match fillE C fr k.size (repV n k.size k.zero) parts.toList with
          | some v => some (.sl h.next 0 0 n k.size none, h.push (.cells e v))
          | none => none
      | none => none
    | _ => none
  | none => none
noncomputable def ohMakeslice (C : Cfg) (fr : Tr V) (h : Heap) (t : TypeId) (x : Operand) (y : Operand) : Option (V × Heap) := match C.ty t, evV C fr x, evV C fr y with
  | some i, some u, some v => match i.d, natI u, natI v with
    | .slice e, some l, some c => match C.ty e with
      | some k => match Nat.beq k.size 0 || !Nat.ble l c || !Nat.ble (k.bytes * c) 281474976710656 || !Nat.ble c 9223372036854775807 with
        | true => none
        | false => some (.sl h.next 0 0 l k.size none, h.push (.cells e (repV c k.size k.zero)))
      | none => none
    | _, _, _ => none
  | _, _, _ => none
noncomputable def ohAppend (C : Cfg) (fr : Tr V) (h : Heap) (args : Array Operand) (ats : Array TypeId) : Option (V × Heap) := match args.toList, ats.toList with
  | [x, y], [ts, tx] => match evV C fr x, evV C fr y with
    | some s, some u => appendV C h ts tx s u
    | _, _ => none
  | _, _ => none
noncomputable def ohCopy (C : Cfg) (fr : Tr V) (h : Heap) (args : Array Operand) (ats : Array TypeId) : Option (V × Heap) := match args.toList, ats.toList with
  | [x, y], [ts, tx] => match evV C fr x, evV C fr y with
    | some s, some u => copyV C h ts tx s u
    | _, _ => none
  | _, _ => none
noncomputable def ohSlice (C : Cfg) (fr : Tr V) (h : Heap) (t : TypeId) (x : Operand) (lo : Option Operand) (hi : Option Operand) (mx : Option Operand) : Option (V × Heap) := match C.ty t, evV C fr x with
  | some j, some v => match j.d, v with
    | .arr n e, .ptr b off => match C.ty e, bndI C fr 0 lo, bndI C fr n hi, mx, h.val b with
      | some k, some l, some r, none, some bv => match Nat.beq k.size 0 || !Nat.ble l r || !Nat.ble r n || !Nat.ble (off + n * k.size) bv.size with
        | true => none
        | false => some (.sl b off (off + l * k.size) (r - l) k.size (some (n - l)), h)
      | _, _, _, _, _ => none
    | .slice e, .sl b base off len esz lim => match C.ty e, bndI C fr 0 lo, bndI C fr len hi, mx, h.val b with
      | some k, some l, some r, none, some bv => match Nat.beq k.size esz && Nat.ble l r && Nat.ble 1 r && Nat.ble (off + r * esz) bv.size && (match lim with | none => true | some c => Nat.ble r c) with
        | false => none
        | true => some (.sl b (match Nat.beq l 0 with | true => base | false => off) (off + l * esz) (r - l) esz (limCut l lim), h)
      | _, _, _, _, _ => none
    | _, _ => none
  | _, _ => none
noncomputable def kEqV : V → V → Option Bool
  | .int j a, .int k b => match decide (j = k) with
    | true => some (eqI a b)
    | false => none
  | .str a, .str b => some (bytesEq a b)
  | _, _ => none
noncomputable def findM (k : V) : List (V × V × Nat) → Nat → Option (Option (Nat × V × Nat))
  | [], _ => some none
  | e :: l, i => match kEqV k e.1 with
    | some true => some (some (i, e.2.1, e.2.2))
    | some false => findM k l (i + 1)
    | none => none
noncomputable def keyOK (C : Cfg) (kt : TypeId) (k : V) : Bool := match C.ty kt with
  | some j => match j.d, k with
    | .int _, .int _ _ => true
    | .str, .str _ => true
    | _, _ => false
  | none => false
noncomputable def bornM (n : Nat) : List (V × V × Nat) → Nat → Option Nat
  | [], _ => none
  | e :: l, i => match Nat.beq e.2.2 n with
    | true => some i
    | false => bornM n l (i + 1)
noncomputable def ohMakemap (C : Cfg) (fr : Tr V) (h : Heap) (t : TypeId) (x : Option Operand) : Option (V × Heap) := match x with
  | none => some (.map h.next, h.push (.map [] 0))
  | some x => match C.mp t, evV C fr x with
    | some _, some (.int _ _) => some (.map h.next, h.push (.map [] 0))
    | _, _ => none
noncomputable def okT (ok : Bool) (v : V) (b : Bool) : V := match ok with
  | true => .tup [v, .bool b]
  | false => v
noncomputable def ohLookup (C : Cfg) (fr : Tr V) (h : Heap) (t : TypeId) (x y : Operand) (ok : Bool) : Option (V × Heap) := match C.mp t, evV C fr x, evV C fr y with
  | some (kt, et), some m, some k => match keyOK C kt k, C.ty et with
    | true, some j => match m with
      | .nilm => some (okT ok j.zero false, h)
      | .map r => match h.get r with
        | some (.map es _) => match findM k es 0 with
          | some (some (_, v, _)) => some (okT ok v true, h)
          | some none => some (okT ok j.zero false, h)
          | none => none
        | _ => none
      | _ => none
    | _, _ => none
  | _, _, _ => none
noncomputable def ohMapupdate (C : Cfg) (fr : Tr V) (h : Heap) (t : TypeId) (x y z : Operand) : Option (V × Heap) := match C.mp t, evV C fr x, evV C fr y, evV C fr z with
  | some (kt, _), some (.map r), some k, some v => match keyOK C kt k, h.get r with
    | true, some (.map es c) => match findM k es 0 with
      | some (some (i, _, b)) => some (.undef, h.put r (.map (es.set i (k, v, b)) c))
      | some none => some (.undef, h.put r (.map (es ++ [(k, v, c)]) (c + 1)))
      | none => none
    | _, _ => none
  | _, _, _, _ => none
noncomputable def ohMapentry (C : Cfg) (fr : Tr V) (h : Heap) (t : TypeId) (x y : Operand) : Option (V × Heap) := match C.mp t, evV C fr x, evV C fr y with
  | some (kt, et), some (.map r), some k => match keyOK C kt k, C.ty et, h.get r with
    | true, some j, some (.map es c) => match findM k es 0 with
      | some (some (i, v, b)) => some (.tup [v, .int .i64 (.ofNat b)], h.put r (.map (es.set i (k, v, b)) c))
      | some none => some (.tup [j.zero, .int .i64 (.ofNat c)], h.put r (.map (es ++ [(k, j.zero, c)]) (c + 1)))
      | none => none
    | _, _, _ => none
  | _, _, _ => none
noncomputable def ohEntrystore (C : Cfg) (fr : Tr V) (h : Heap) (x y z : Operand) : Option (V × Heap) := match evV C fr x, evV C fr y, evV C fr z with
  | some (.map r), some (.int _ (.ofNat n)), some v => match h.get r with
    | some (.map es c) => match bornM n es 0 with
      | some i => match es[i]? with
        | some (k, _, b) => some (.undef, h.put r (.map (es.set i (k, v, b)) c))
        | none => none
      | none => none
    | _ => none
  | _, _, _ => none
noncomputable def ohClear (C : Cfg) (fr : Tr V) (h : Heap) (args : Array Operand) (ats : Array TypeId) : Option (V × Heap) := match args.toList, ats.toList with
  | [x], [t] => match C.mp t, evV C fr x with
    | some _, some .nilm => some (.undef, h)
    | some _, some (.map r) => match h.get r with
      | some (.map _ c) => some (.undef, h.put r (.map [] c))
      | _ => none
    | _, _ => none
  | _, _ => none
noncomputable def ohClearS (C : Cfg) (fr : Tr V) (h : Heap) (args : Array Operand) (ats : Array TypeId) : Option (V × Heap) := match args.toList, ats.toList with
  | [x], [t] => match C.ty t, evV C fr x with
    | some j, some v => match j.d, v with
      | .slice _, .nils => some (.undef, h)
      | .slice e, .sl b _ off len esz _ => match C.ty e, h.get b, len with
        | some _, _, 0 => some (.undef, h)
        | some k, some (.cells ty bv), n + 1 => match Nat.beq esz k.size && Nat.ble (off + (n + 1) * esz) bv.size with
          | true => match putN bv off esz (List.replicate (n + 1) k.zero) with
            | some v' => some (.undef, h.put b (.cells ty v'))
            | none => none
          | false => none
        | _, _, _ => none
      | _, _ => none
    | _, _ => none
  | _, _ => none
noncomputable def ohClearA (C : Cfg) (fr : Tr V) (h : Heap) (args : Array Operand) (ats : Array TypeId) : Option (V × Heap) := match ohClear C fr h args ats with
  | some r => some r
  | none => ohClearS C fr h args ats
noncomputable def ohLenM (C : Cfg) (fr : Tr V) (h : Heap) (args : Array Operand) (ats : Array TypeId) : Option (V × Heap) := match args.toList, ats.toList with
  | [x], [t] => match C.mp t, evV C fr x with
    | some _, some .nilm => some (.int .i64 (.ofNat 0), h)
    | some _, some (.map r) => match h.get r with
      | some (.map es _) => some (.int .i64 (.ofNat es.length), h)
      | _ => none
    | _, _ => none
  | _, _ => none
noncomputable def opH (C : Cfg) (fr : Tr V) (h : Heap) : Op → Option (V × Heap)
  | .makeMap t x => ohMakemap C fr h t x
  | .lookup t x y ok => ohLookup C fr h t x y ok
  | .mapUpdate t x y z => ohMapupdate C fr h t x y z
  | .insert t x y z => ohMapupdate C fr h t x y z
  | .mapEntry t x y => ohMapentry C fr h t x y
  | .entryStore _ x y z => ohEntrystore C fr h x y z
  | .call ⟨.builtin .clear, args, ats⟩ => ohClearA C fr h args ats
  | .call ⟨.builtin .len, args, ats⟩ => ohLenM C fr h args ats
  | .convert s t x => ohConvert C fr h s t x
  | .load t x => ohLoad C fr h t x
  | .store t x y => ohStore C fr h t x y
  | .alloc t => ohAlloc C fr h t
  | .box t x => ohBox C fr h t x
  | .buildSlice t n parts => ohBuildslice C fr h t n parts
  | .makeSlice t x y => ohMakeslice C fr h t x y
  | .call ⟨.builtin .append, args, ats⟩ => ohAppend C fr h args ats
  | .call ⟨.builtin .copy, args, ats⟩ => ohCopy C fr h args ats
  | .slice t x lo hi mx => ohSlice C fr h t x lo hi mx
  | _ => none
structure Did (P : Program) (C : Cfg) (s0 : World) (U : Nat) (o : Oper) (a : Act) (D : Nat → Prop) (ρ : Env) (h : Heap) (w : World) (v : V) (h' : Heap) (x : Value) (D' : Nat → Prop) (ρ' : Env) (w' : World) : Prop where
  op : Op1 P o a w x w'
  val : x = conc ρ' v
  rel : Rel s0 U D' ρ' h' w'
  nxt : Nxt D ρ h w D' ρ' h' w'
  in_ : InD (DD D' ρ') v
section
variable {P : Program} {C : Cfg} {s0 : World} {U : Nat} {D : Nat → Prop} {ρ : Env} {fr : Tr V} {a : Act} {w : World} {h : Heap}
theorem push_new {pre cap m : Nat} (hm : m ≤ cap) : DD (fun i => D i ∨ i = h.next) (ρ.add h.next w.heap.size pre cap) h.next m := ⟨.inr rfl, by simp [Env.add]; exact hm⟩
theorem Rel.val (r : Rel s0 U D ρ h w) {b : Nat} {v : V} (hb : D b) (hv : h.val b = some v) : ∃ pre tail ty fz, w.heap[ρ.b b]? = some (.cells (pre ++ (cellsV ρ v ++ tail)).toArray ty fz) ∧ pre.length = ρ.pre b ∧ v.size ≤ ρ.cap b ∧ InD (DD D ρ) v := by
  unfold Heap.val at hv
  split at hv
  · rename_i ty v' hg
    cases hv
    obtain ⟨o, h1, pre, tail, rfl, h2, h3⟩ := r.has b _ hb hg
    exact ⟨pre, tail, ty, _, h1, h2, by omega, r.clo b _ hb hg⟩
  · rename_i v' hg
    cases hv
    obtain ⟨o, h1, pre, tail, ty, fz, rfl, h2, h3⟩ := r.has b _ hb hg
    exact ⟨pre, tail, ty, fz, h1, h2, h3, r.clo b _ hb hg⟩
  · cases hv
theorem row_get {pre c tail : List Value} {off n : Nat} (h : off + n ≤ c.length) : (pre ++ (c ++ tail)).toArray.extract (pre.length + off) (pre.length + off + n) = ((c.drop off).take n).toArray := by
  apply Array.ext'
  simp only [Array.toList_extract, List.extract]
  rw [show pre.length + off + n - (pre.length + off) = n by omega, List.drop_length_add_append, List.drop_append_of_le_length (by omega), List.take_append_of_le_length (by simp; omega)]
theorem row_at {pre c tail : List Value} {i : Nat} {x : Value} (h : c[i]? = some x) : (pre ++ (c ++ tail)).toArray[pre.length + i]? = some x := by
  have hi := (List.getElem?_eq_some_iff.1 h).1
  simp only [List.getElem?_toArray]
  rw [List.getElem?_append_right (by omega), show pre.length + i - pre.length = i by omega, List.getElem?_append_left hi, h]
theorem load_sound (hC : CfgOK P C) (r : Rel s0 U D ρ h w) {t : TypeId} {i : TyI} {b off : Nat} {v x : V} (hi : C.ty t = some i) (hb : D b) (hv : h.val b = some v) (hg : getAt 50 v off i.size i.agg = some x) :
    (loadVar t ⟨ρ.b b, ρ.pre b + off, none⟩).run P w = .ok (conc ρ x) w ∧ InD (DD D ρ) x := by
  obtain ⟨pre, tail, ty, fz, h1, h2, _, h3⟩ := r.val hb hv
  obtain ⟨g1, g2, g3, g4⟩ := getAt_spec (ρ := ρ) 50 v off i.size i.agg x hg
  have ok := hC.ty t i hi
  refine ⟨?_, getAt_in hg h3⟩
  cases ha : i.agg with
  | true =>
    rw [ha, if_pos rfl] at g4
    have hrow : rowAt w ⟨ρ.b b, ρ.pre b + off, none⟩ i.size = some (cellsV ρ x).toArray := by
      rw [kn_row h1 (by simp; omega), ← h2, row_get (by simpa using g2), g3]
    rw [run_loadVar_agg (ok.aggLen ha), hrow, conc_agg g4]
  | false =>
    rw [ha, if_neg (by simp)] at g4
    have e1 := cellsV_leaf (ρ := ρ) g4
    have e2 : x.size = 1 := by
      have := cellsV_length ρ x
      rw [e1] at this; simpa using this.symm
    have hc : (cellsV ρ v)[off]? = some (conc ρ x) := by
      have h4 : (((cellsV ρ v).drop off).take i.size)[0]? = some (conc ρ x) := by rw [g3, e1]; rfl
      rw [List.getElem?_take_of_lt (by omega), List.getElem?_drop, Nat.add_zero] at h4
      exact h4
    have hcell : w.cell? ⟨ρ.b b, ρ.pre b + off, none⟩ = some (conc ρ x) := by
      simp only [World.cell?, h1]
      rw [← h2]
      simpa using row_at (pre := pre) (tail := tail) hc
    have ha' := ok.isAgg w
    rw [ha] at ha'
    simp [loadVar, ha', hcell]
theorem put_sound (r : Rel s0 U D ρ h w) {b off : Nat} {ty : TypeId} {v v' : V} {vs : List Value} (hb : D b) (hg : h.get b = some (.cells ty v)) (hs : v'.size = v.size) (hv : cellsV ρ v' = spl (cellsV ρ v) off vs) (hle : off + vs.length ≤ v.size) (hin : InD (DD D ρ) v') :
    ∃ pre tail, w.heap[ρ.b b]? = some (.cells (pre ++ (cellsV ρ v ++ tail)).toArray ty (0, 0)) ∧ pre.length = ρ.pre b ∧
      ∀ w', Turned (ρ.b b) (.cells (splice (pre ++ (cellsV ρ v ++ tail)).toArray (ρ.pre b + off) vs.toArray) ty (0, 0)) w w' → Rel s0 U D ρ (h.put b (.cells ty v')) w' ∧ Nxt D ρ h w D ρ (h.put b (.cells ty v')) w' := by
  obtain ⟨o, h1, pre, tail, rfl, h2, h3⟩ := r.has b _ hb hg
  refine ⟨pre, tail, h1, h2, fun w' t => r.put hb hg rfl rfl t ⟨pre, tail, ?_, h2, by rw [hs]; exact h3⟩ hin⟩
  congr 1
  simp only [splice, List.size_toArray]
  congr 1
  rw [hv]
  have := spl_spl (b := cellsV ρ v) (vs := vs) (a' := pre) (c' := tail) (o := off) (by simp; exact hle)
  simp only [List.append_assoc] at this
  rw [this, h2]
  rfl
theorem store_sound (hC : CfgOK P C) (r : Rel s0 U D ρ h w) {t : TypeId} {i : TyI} {b off : Nat} {ty : TypeId} {v v' x : V} (hi : C.ty t = some i) (hsz : x.size = i.size) (hb : D b) (hg : h.get b = some (.cells ty v)) (hp : putAt 50 v off x = some v') (hx : InD (DD D ρ) x) :
    ∃ w', (storeVar t ⟨ρ.b b, ρ.pre b + off, none⟩ (conc ρ x)).run P w = .ok () w' ∧ Rel s0 U D ρ (h.put b (.cells ty v')) w' ∧ Nxt D ρ h w D ρ (h.put b (.cells ty v')) w' := by
  obtain ⟨k1, k2, k3, k4, k5, k6⟩ := putAt_spec (ρ := ρ) 50 v off x v' hp
  obtain ⟨pre, tail, h1, h2, h3⟩ := put_sound r hb hg k1 k3 (by simpa using k2) (putAt_in hp (r.clo b _ hb hg) hx)
  refine ⟨w.setRow (ρ.b b) (splice (pre ++ (cellsV ρ v ++ tail)).toArray (ρ.pre b + off) (cellsV ρ x).toArray), ?_, ?_⟩
  · have hcells : (conc ρ x).cells = (cellsV ρ x).toArray := conc_cells k6
    have hst := run_storeCells_at (P := P) (ρ.b b) (ρ.pre b + off) ty (cellsV ρ x) 0 (pre ++ (cellsV ρ v ++ tail)).toArray w h1 (by simp; omega) (cells_one ρ x)
    simp only [Nat.add_zero] at hst
    have hs := (hC.ty t i hi).sizeOf w
    simp only [storeVar, Sem.run_bind, hs, Result.andThen_ok, hcells, List.size_toArray, cellsV_length, hsz, ne_eq, not_true_eq_false, if_false]
    rw [hst]
    simp [splice]
  · refine h3 _ ⟨rfl, rfl, rfl, by simp, ?_, fun k hk => ?_⟩
    · simp [World.setRow, Array.getElem?_modify, h1]
    · simp only [World.setRow, Array.getElem?_modify]; rw [if_neg (fun e => hk e.symm)]
theorem new_sound (r : Rel s0 U D ρ h w) (hU : h.next + 1 ≤ U) {v : V} {t : TypeId} {tail : List Value} (hv : InD (DD D ρ) v) :
    Rel s0 U (fun i => D i ∨ i = h.next) (ρ.add h.next w.heap.size 0 (v.size + tail.length)) (h.push (.cells t v)) (w.alloc (.cells (cellsV ρ v ++ tail).toArray t)) ∧
    Nxt D ρ h w (fun i => D i ∨ i = h.next) (ρ.add h.next w.heap.size 0 (v.size + tail.length)) (h.push (.cells t v)) (w.alloc (.cells (cellsV ρ v ++ tail).toArray t)) := by
  refine r.push hU (below_alloc w _) (heap_alloc_new w _) rfl hv ⟨[], tail, ?_, by simp [Env.add], by simp [Env.add]⟩
  have hag : Env.Agree (DD D ρ) ρ (ρ.add h.next w.heap.size 0 (v.size + tail.length)) := Env.add_agree (r.next_new hU)
  rw [cellsV_agree hag hv]; rfl
theorem new_ptr (r : Rel s0 U D ρ h w) {cap : Nat} : conc (ρ.add h.next w.heap.size 0 cap) (.ptr h.next 0) = .pointer (some ⟨w.heap.size, 0, none⟩) ∧ InD (DD (fun i => D i ∨ i = h.next) (ρ.add h.next w.heap.size 0 cap)) (.ptr h.next 0) :=
  ⟨by simp [conc, Env.add], push_new (Nat.zero_le _)⟩
theorem new_sl (n len k : Nat) (hk : 0 < k) (hl : len ≤ n) {cap : Nat} (hc : cap = n * k) : conc (ρ.add h.next w.heap.size 0 cap) (.sl h.next 0 0 len k none) = .slice (some ⟨w.heap.size, 0, none⟩) len n ∧ InD (DD (fun i => D i ∨ i = h.next) (ρ.add h.next w.heap.size 0 cap)) (.sl h.next 0 0 len k none) := by
  subst hc
  refine ⟨by simp [conc, slConc, slCap, Env.add, Nat.mul_div_cancel _ hk], hk, Nat.le_refl _, ?_⟩
  refine push_new ?_
  simp only [Option.getD_none, Nat.zero_add]
  exact Nat.mul_le_mul_right k hl
theorem rep_cells (ρ : Env) (n e : Nat) (z : V) (hz : z.size = e) (he : 0 < e) : (cellsV ρ (repV n e z)).toArray = (Array.range (n * e)).map ((cellsV ρ z).toArray[· % (cellsV ρ z).toArray.size]!) := by
  have hl : (concE ρ e (List.replicate n z)).length = n * e := by rw [concE_length]; simp
  apply Array.ext'
  simp only [repV, cellsV, fit_self hl, Array.toList_map, Array.toList_range]
  apply List.ext_getElem?
  intro i
  rw [List.getElem?_map]
  have hsz : (cellsV ρ z).length = e := by simp [hz]
  have key : ∀ (n i : Nat), (concE ρ e (List.replicate n z))[i]? = if i < n * e then (cellsV ρ z)[i % e]? else none := by
    intro n
    induction n with
    | zero => intro i; simp [concE]
    | succ n ih =>
      intro i
      simp only [List.replicate_succ, concE, fit_self hsz]
      by_cases h1 : i < e
      · rw [List.getElem?_append_left (by omega), Nat.mod_eq_of_lt h1, if_pos (by rw [Nat.add_mul]; omega)]
      · rw [List.getElem?_append_right (by omega), ih, hsz, Nat.add_mul]
        have : (i - e) % e = i % e := (Nat.mod_eq_sub_mod (by omega)).symm
        rw [this]
        by_cases h2 : i < n * e + e
        · rw [if_pos (by omega), if_pos (by omega)]
        · rw [if_neg (by omega), if_neg (by omega)]
  rw [key]
  by_cases h1 : i < n * e
  · rw [if_pos h1, List.getElem?_range h1]
    have hm : i % e < (cellsV ρ z).length := by rw [hsz]; exact Nat.mod_lt _ he
    simp only [Option.map_some, List.size_toArray, hsz]
    rw [List.getElem?_eq_getElem hm]
    simp [hm, List.getElem?_eq_getElem hm]
  · rw [if_neg h1, List.getElem?_eq_none (by simpa using Nat.le_of_not_lt h1)]; rfl
theorem fillE_spec (hfr : FrE C D ρ fr a) {e : Nat} : ∀ (parts : List (Nat × Operand)) (v v' : V), fillE C fr e v parts = some v' → InD (DD D ρ) v →
    Instr.fill (fun i => some (i * e, e)) (cellsV ρ v).toArray (parts.map fun p => (p.1, a.eval p.2)) = some (cellsV ρ v').toArray ∧ InD (DD D ρ) v' ∧ v'.size = v.size
  | [], v, v', hh, hv => by simp only [fillE, Option.some.injEq] at hh; subst hh; exact ⟨rfl, hv, rfl⟩
  | (i, x) :: l, v, v', hh, hv => by
    simp only [fillE] at hh
    split at hh
    · rename_i y hx
      split at hh
      · rename_i hsz
        rw [Nat.beq_eq] at hsz
        split at hh
        · rename_i v1 hput
          obtain ⟨e1, e2⟩ := hfr.ev hx
          obtain ⟨k1, k2, k3, k4, k5, k6⟩ := putAt_spec (ρ := ρ) 50 v (i * e) y v1 hput
          obtain ⟨g1, g2, g3⟩ := fillE_spec hfr l v1 v' hh (putAt_in hput hv e2)
          refine ⟨?_, g2, g3.trans k1⟩
          have hcells : (conc ρ y).cells = (cellsV ρ y).toArray := conc_cells k6
          simp only [List.map_cons, Instr.fill, e1, hcells]
          have hn : ¬ ((cellsV ρ y).toArray.size ≠ e || decide (i * e + (cellsV ρ y).toArray.size > (cellsV ρ v).toArray.size)) = true := by
            simp [hsz]; omega
          rw [if_neg hn]
          have hz : (cellsV ρ y).toArray.zipIdx.foldl (fun cs (p : Value × Nat) => cs.setIfInBounds (i * e + p.2) p.1) (cellsV ρ v).toArray = (cellsV ρ v1).toArray := by
            have := fold_spl (cellsV ρ y) (i * e) 0 (cellsV ρ v).toArray (by simp; omega)
            rw [k3, ← Array.foldl_toList]
            simpa using this
          rw [hz]
          exact g1
        · cases hh
      · cases hh
    · cases hh
theorem sl_cells (r : Rel s0 U D ρ h w) {b base off n esz : Nat} {lim : Option Nat} {v : V} {l : List V} (hin : InD (DD D ρ) (.sl b base off n esz lim)) (hv : h.val b = some v) (hs : subArr 50 v off n esz = some l) :
    ∀ j u, (concE ρ esz l)[j]? = some u → w.cell? (Addr.add (if slCap ρ b off esz lim = 0 then zAddr ρ b base else ⟨ρ.b b, ρ.pre b + off, none⟩) j) = some u := by
  intro j u hj
  obtain ⟨g1, g2, g3, g4⟩ := subArr_spec (ρ := ρ) 50 v off n esz l hs
  have hc := slCap_ge hin
  have hn : n ≠ 0 := fun e => by
    have : (concE ρ esz l).length = 0 := by rw [concE_length, g1, e, Nat.zero_mul]
    have := (List.getElem?_eq_some_iff.1 hj).1
    omega
  have hc0 : ¬ slCap ρ b off esz lim = 0 := by omega
  obtain ⟨pre, tail, ty, fz, h1, h2, _, _⟩ := r.val hin.2.2.1 hv
  rw [if_neg hc0, addr_add, ← h2]
  have hcell : (cellsV ρ v)[off + j]? = some u := by
    rw [← g3, List.getElem?_take] at hj
    split at hj
    · rwa [List.getElem?_drop] at hj
    · cases hj
  simp only [World.cell?, h1]
  rw [Nat.add_assoc]
  simpa using row_at (pre := pre) (tail := tail) hcell
theorem bytes_concE (ρ : Env) : ∀ s : List UInt8, concE ρ 1 (bytesV s) = s.map fun b => Value.int .u8 b.toNat
  | [] => rfl
  | c :: s => by
    have := bytes_concE ρ s
    simp only [bytesV, List.map_cons, concE] at this ⊢
    rw [this]
    rfl
theorem srcV_spec (hC : CfgOK P C) (r : Rel s0 U D ρ h w) {tx : TypeId} {esz : Nat} {x : V} {news : List V} (hx : InD (DD D ρ) x) (hs : srcV C h tx esz x = some news) :
    Src P esz tx (conc ρ x) news.length (concE ρ esz news) w ∧ InDL (DD D ρ) news := by
  unfold srcV at hs
  split at hs
  · cases hs
  · rename_i j hj
    have hd := (hC.ty tx j hj).d
    split at hs
    · rename_i e he
      rw [he] at hd
      cases hs
      exact ⟨by simpa [conc, concE] using Src.ofNil (P := P) (size := esz) w hd 0, trivial⟩
    · rename_i e b base off n e' lim he
      rw [he] at hd
      split at hs
      · rename_i v hes hv
        rw [Nat.beq_eq] at hes
        subst hes
        obtain ⟨g1, g2, g3, g4⟩ := subArr_spec (ρ := ρ) 50 v off n e' news hs
        obtain ⟨pre, tail, ty, fz, h1, h2, h3, hvin⟩ := r.val hx.2.2.1 hv
        refine ⟨?_, g4 _ hvin⟩
        simp only [conc, slConc]
        rw [g1]
        exact Src.ofSlice w hd _ n _ _ (by rw [concE_length, g1]) (sl_cells r hx hv hs) (cells_oneE ρ e' news)
      · cases hs
    · rename_i s he
      rw [he] at hd
      split at hs
      · rename_i h1
        rw [Nat.beq_eq] at h1
        subst h1
        cases hs
        have := Src.ofString (P := P) w hd ⟨⟨s⟩⟩
        rw [show (⟨⟨s⟩⟩ : ByteArray).size = s.length from rfl] at this
        refine ⟨?_, InDL_iff.2 fun y hy => by obtain ⟨c, _, rfl⟩ := List.mem_map.1 hy; trivial⟩
        rw [bytes_concE]
        simpa [conc, bytesV, byteCells] using this
      · cases hs
    · cases hs
theorem app_grow (hC : CfgOK P C) (r : Rel s0 U D ρ h w) (hU : h.next + 1 ≤ U) {ts tx ty e : TypeId} {k : TyI} {base : Option Addr} {len cap : Nat} {olds news : List V} {x : Value} (hu : P.underlying ts = some (.slice e)) (hk : C.ty e = some k) (hk0 : 0 < k.size)
    (hold : (Builtin.firstCells k.size len (.slice base len cap)).run P w.drew = .ok (concE ρ k.size olds).toArray w.drew) (hlen : olds.length = len) (hs : Src P k.size tx x news.length (concE ρ k.size news) w)
    (hg : cap < len + news.length) (hb : (len + news.length) * k.bytes ≤ 140737488355328) (hm : len + news.length ≤ 70368744177664) (hio : InDL (DD D ρ) olds) (hin : InDL (DD D ρ) news) :
    ∃ val D' ρ' w', (Builtin.append_ #[ts, tx] ty #[.slice base len cap, x]).run P w = .ok val w' ∧ val = conc ρ' (.sl h.next 0 0 (len + news.length) k.size none) ∧
      Rel s0 U D' ρ' (h.push (.cells e (.arr ((len + news.length) * k.size) k.size (olds ++ news)))) w' ∧ Nxt D ρ h w D' ρ' (h.push (.cells e (.arr ((len + news.length) * k.size) k.size (olds ++ news)))) w' ∧ InD (DD D' ρ') (.sl h.next 0 0 (len + news.length) k.size none) := by
  have ok := hC.ty e k hk
  obtain ⟨inf, hin', hsz, hby, hz⟩ := ok.info
  have hz := hz ρ
  have hzs : (conc ρ k.zero).cells.size = k.size := by
    have : (conc ρ k.zero).cells = (cellsV ρ k.zero).toArray := conc_cells (by
      cases ha : k.agg with
      | true => exact .inr (by rw [ok.zagg]; exact ha)
      | false => exact .inl (ok.zleaf ha))
    rw [this]; simp [ok.zsize]
  have hfit : Builtin.nextslicecap (len + news.length) cap * inf.bytes ≤ 281474976710656 := growslice_fits hg (by rw [hby]; exact hb)
  rw [← hsz] at hold hs
  have key := run_append_grow_src w ts tx ty e inf _ hu hin' hz base len cap (concE ρ inf.size olds) hold x news.length (concE ρ inf.size news) hs hg (by omega) hfit
  rw [hsz] at key
  have hge := grownCap_ge w (len + news.length) cap e
  generalize grownCap w (len + news.length) cap e = gc at key hge
  have hv : InD (DD D ρ) (.arr ((len + news.length) * k.size) k.size (olds ++ news)) := InDL_iff.2 fun y hy => by
    rcases List.mem_append.1 hy with h | h
    · exact InDL_iff.1 hio y h
    · exact InDL_iff.1 hin y h
  have hcells : cellsV ρ (.arr ((len + news.length) * k.size) k.size (olds ++ news)) = concE ρ k.size olds ++ concE ρ k.size news := by
    simp only [cellsV]
    rw [fit_self (by rw [concE_length]; simp [hlen]), concE_append]
  have htl : (Builtin.zeroCells (conc ρ k.zero).cells (gc - (len + news.length))).toList.length = (gc - (len + news.length)) * k.size := by simp [Builtin.zeroCells, hzs]
  obtain ⟨r1, n1⟩ := new_sound (t := e) (tail := (Builtin.zeroCells (conc ρ k.zero).cells (gc - (len + news.length))).toList) (r.drawn (w.drawn + 1)) hU hv
  have hcap : (V.arr ((len + news.length) * k.size) k.size (olds ++ news)).size + (Builtin.zeroCells (conc ρ k.zero).cells (gc - (len + news.length))).toList.length = gc * k.size := by
    rw [htl]
    show (len + news.length) * k.size + _ = _
    rw [← Nat.add_mul]; congr 1; omega
  have heq : ((concE ρ k.size olds ++ concE ρ k.size news) ++ (Builtin.zeroCells (conc ρ k.zero).cells (gc - (len + news.length))).toList).toArray = (concE ρ k.size olds ++ concE ρ k.size news).toArray ++ Builtin.zeroCells (conc ρ k.zero).cells (gc - (len + news.length)) := by
    apply Array.ext'; simp
  obtain ⟨s1, s2⟩ := new_sl (D := D) (ρ := ρ) (w := w) (h := h) gc (len + news.length) k.size hk0 hge hcap
  refine ⟨_, _, _, _, key, s1.symm, ?_, ?_, s2⟩
  · rw [hcells, heq] at r1
    exact r1
  · rw [hcells, heq] at n1
    exact n1.undrew
end
end Go.Proofs.Ytgeelfdgnehdnaa
namespace Go.Proofs.Ytgeelfdgnehdnaa
open Go.RowKit
set_option linter.unusedSimpArgs false
set_option linter.unusedVariables false
section
variable {P : Program} {C : Cfg} {s0 : World} {U : Nat} {D : Nat → Prop} {ρ : Env} {fr : Tr V} {a : Act} {w : World} {h : Heap}
theorem app_room (r : Rel s0 U D ρ h w) {ts tx ty e bty : TypeId} {inf : TypeInfo} {b base off len esz : Nat} {lim : Option Nat} {v v' : V} {news : List V} {x : Value} (hu : P.underlying ts = some (.slice e)) (hi : P.info? e = some inf) (hsz : inf.size = esz)
    (hin : InD (DD D ρ) (.sl b base off len esz lim)) (hg : h.get b = some (.cells bty v)) (hn : news ≠ []) (hle : off + (len + news.length) * esz ≤ v.size) (hlim : ∀ c, lim = some c → len + news.length ≤ c) (hp : putN v (off + len * esz) esz news = some v')
    (hs : Src P esz tx x news.length (concE ρ esz news) w) (hni : InDL (DD D ρ) news) :
    ∃ w', (Builtin.append_ #[ts, tx] ty #[conc ρ (.sl b base off len esz lim), x]).run P w = .ok (conc ρ (.sl b base off (len + news.length) esz lim)) w' ∧ Rel s0 U D ρ (h.put b (.cells bty v')) w' ∧ Nxt D ρ h w D ρ (h.put b (.cells bty v')) w' ∧ InD (DD D ρ) (.sl b base off (len + news.length) esz lim) := by
  subst hsz
  have hn0 : 0 < news.length := by cases news with
    | nil => exact absurd rfl hn
    | cons _ _ => simp
  obtain ⟨hpos, hlen, hD, hroom⟩ := hin
  obtain ⟨k1, k2, k3, k4, k5, k6, k7⟩ := putN_spec (ρ := ρ) news v _ v' hp
  rw [if_neg hn] at k3
  have hvin : InD (DD D ρ) v := r.clo b _ hD hg
  obtain ⟨o, h1, pre, tail, rfl, h2, h3⟩ := r.has b _ hD hg
  have hcap : len + news.length ≤ slCap ρ b off inf.size lim := by
    cases lim with
    | some c => exact hlim c rfl
    | none => simp only [slCap]; rw [Nat.le_div_iff_mul_le hpos]; omega
  have hc0 : ¬ slCap ρ b off inf.size lim = 0 := by omega
  have hmul : (len + news.length) * inf.size = len * inf.size + news.length * inf.size := Nat.add_mul _ _ _
  have hnl : (concE ρ inf.size news).length = news.length * inf.size := concE_length _ _ _
  have hin2 : ρ.pre b + off + len * inf.size + (concE ρ inf.size news).length ≤ (pre ++ (cellsV ρ v ++ tail)).toArray.size := by
    simp only [List.size_toArray, List.length_append, cellsV_length]; omega
  have hcell : ∀ j, j < (concE ρ inf.size news).length → (w.cell? ⟨ρ.b b, ρ.pre b + off + len * inf.size + j, none⟩).isSome = true := fun j hj => by
    simp only [World.cell?, h1]
    have : ρ.pre b + off + len * inf.size + j < (pre ++ (cellsV ρ v ++ tail)).toArray.size := by omega
    simp only [Option.isSome_none, Bool.false_eq_true, if_false]
    rw [Array.getElem?_eq_getElem this]; rfl
  have hfrz : ∀ j, j < (concE ρ inf.size news).length → w.frozen? ⟨ρ.b b, ρ.pre b + off + len * inf.size + j, none⟩ = false := fun j _ => by simp [World.frozen?, h1]
  have key := run_append_room_src w ts tx ty e inf hu hi (ρ.b b) (ρ.pre b + off) len (slCap ρ b off inf.size lim) x news.length (concE ρ inf.size news) hs hcap hcell hfrz
  have ht := turned_setCells (concE ρ inf.size news) (ρ.pre b + off + len * inf.size) w (ρ.b b) _ bty h1 hin2
  obtain ⟨pre', tail', g1, g2, g3⟩ := put_sound r hD hg k1 k3 (by rw [hnl]; omega) (k6 _ hvin hni)
  rw [h1] at g1
  have hcs : (pre ++ (cellsV ρ v ++ tail)).toArray = (pre' ++ (cellsV ρ v ++ tail')).toArray := by
    simp only [Option.some.injEq, Obj.cells.injEq] at g1; exact g1.1
  rw [hcs, Nat.add_assoc] at ht
  obtain ⟨r', n'⟩ := g3 _ ht
  refine ⟨_, ?_, r', n', hpos, ?_, hD, ?_⟩
  · simp only [conc, slConc, hc0, if_false]
    rw [key, Nat.add_assoc]
  · cases lim with
    | some c => exact hlim c rfl
    | none => exact Nat.le_refl _
  · cases lim with
    | some c => exact hroom
    | none => simp only [Option.getD_none]; omega
theorem app_amb (hC : CfgOK P C) (r : Rel s0 U D ρ h w) (hU : h.next + 1 ≤ U) {ts tx ty e : TypeId} {k : TyI} {b base off len : Nat} {v : V} {olds news : List V} {x : Value} (hu : P.underlying ts = some (.slice e)) (hk : C.ty e = some k) (hk0 : 0 < k.size)
    (hin : InD (DD D ρ) (.sl b base off len k.size none)) (hg : h.get b = some (.cells e v)) (hn : news ≠ []) (ho : subArr 50 v off len k.size = some olds)
    (hs : Src P k.size tx x news.length (concE ρ k.size news) w) (hb : (len + news.length) * k.bytes ≤ 140737488355328) (hm : len + news.length ≤ 70368744177664) (hni : InDL (DD D ρ) news) :
    ∃ val D' ρ' w', (Builtin.append_ #[ts, tx] ty #[conc ρ (.sl b base off len k.size none), x]).run P w = .ok val w' ∧ val = conc ρ' (.sl h.next 0 0 (len + news.length) k.size none) ∧
      Rel s0 U D' ρ' ((h.push (.cells e (.arr ((len + news.length) * k.size) k.size (olds ++ news)))).kill b) w' ∧ Nxt D ρ h w D' ρ' ((h.push (.cells e (.arr ((len + news.length) * k.size) k.size (olds ++ news)))).kill b) w' ∧ InD (DD D' ρ') (.sl h.next 0 0 (len + news.length) k.size none) := by
  have hn0 : 0 < news.length := by cases news with
    | nil => exact absurd rfl hn
    | cons _ _ => simp
  obtain ⟨g1, g2, g3, g4⟩ := subArr_spec (ρ := ρ) 50 v off len k.size olds ho
  have hvin : InD (DD D ρ) v := r.clo b _ hin.2.2.1 hg
  have hoi := g4 _ hvin
  obtain ⟨hpos, hlen, hD, hroom⟩ := hin
  have hin : InD (DD D ρ) (.sl b base off len k.size none) := ⟨hpos, hlen, hD, hroom⟩
  have hval : h.val b = some v := by simp [Heap.val, hg]
  by_cases hcap : len + news.length ≤ slCap ρ b off k.size none
  · -- in place
    obtain ⟨inf, hi, hsz, _⟩ := (hC.ty e k hk).info
    rw [← hsz] at hs ho g2 g3 hroom hpos hcap ⊢
    obtain ⟨o, h1, pre, tail, rfl, h2, h3⟩ := r.has b _ hD hg
    have hc0 : ¬ slCap ρ b off inf.size none = 0 := by omega
    have hmul : (len + news.length) * inf.size = len * inf.size + news.length * inf.size := Nat.add_mul _ _ _
    have hnl : (concE ρ inf.size news).length = news.length * inf.size := concE_length _ _ _
    have hol : (concE ρ inf.size olds).length = len * inf.size := by rw [concE_length, g1]
    have hfit : off + (len + news.length) * inf.size ≤ ρ.cap b := by
      have h4 := hcap
      simp only [slCap] at h4
      rw [Nat.le_div_iff_mul_le hpos] at h4
      simp only [Option.getD_none] at hroom
      omega
    obtain ⟨L, hL⟩ : ∃ L, L = pre ++ (cellsV ρ v ++ tail) := ⟨_, rfl⟩
    rw [← hL] at h1
    have hLl : L.length = ρ.pre b + ρ.cap b := by rw [hL]; simp only [List.length_append, cellsV_length]; omega
    have hin2 : ρ.pre b + off + len * inf.size + (concE ρ inf.size news).length ≤ L.toArray.size := by
      simp only [List.size_toArray]; omega
    have hcell : ∀ j, j < (concE ρ inf.size news).length → (w.cell? ⟨ρ.b b, ρ.pre b + off + len * inf.size + j, none⟩).isSome = true := fun j hj => by
      simp only [World.cell?, h1]
      have : ρ.pre b + off + len * inf.size + j < L.toArray.size := by omega
      simp only [Option.isSome_none, Bool.false_eq_true, if_false]
      rw [Array.getElem?_eq_getElem this]; rfl
    have hfrz : ∀ j, j < (concE ρ inf.size news).length → w.frozen? ⟨ρ.b b, ρ.pre b + off + len * inf.size + j, none⟩ = false := fun j _ => by simp [World.frozen?, h1]
    have key := run_append_room_src w ts tx ty e inf hu hi (ρ.b b) (ρ.pre b + off) len (slCap ρ b off inf.size none) x news.length (concE ρ inf.size news) hs hcap hcell hfrz
    have ht := turned_setCells (concE ρ inf.size news) (ρ.pre b + off + len * inf.size) w (ρ.b b) _ e h1 hin2
    have hO : (L.drop (ρ.pre b + off)).take (len * inf.size) = concE ρ inf.size olds := by
      rw [hL, ← h2, List.drop_length_add_append, List.drop_append_of_le_length (by simp; omega), List.take_append_of_le_length (by simp; omega), g3]
    have hv : InD (DD D ρ) (.arr ((len + news.length) * inf.size) inf.size (olds ++ news)) := InDL_iff.2 fun y hy => by
      rcases List.mem_append.1 hy with h | h
      · exact InDL_iff.1 hoi y h
      · exact InDL_iff.1 hni y h
    have hne := r.next_new hU
    have hag : Env.Agree (DD D ρ) ρ (ρ.add h.next (ρ.b b) (ρ.pre b + off) (ρ.cap b - off)) := Env.add_agree hne
    have hcells : cellsV (ρ.add h.next (ρ.b b) (ρ.pre b + off) (ρ.cap b - off)) (.arr ((len + news.length) * inf.size) inf.size (olds ++ news)) = concE ρ inf.size olds ++ concE ρ inf.size news := by
      rw [cellsV_agree hag hv]
      simp only [cellsV]
      rw [fit_self (by rw [concE_length]; simp [g1]), concE_append]
    have hkn : KnB (ρ.add h.next (ρ.b b) (ρ.pre b + off) (ρ.cap b - off)) h.next (.cells e (.arr ((len + news.length) * inf.size) inf.size (olds ++ news))) (.cells (splice L.toArray (ρ.pre b + off + len * inf.size) (concE ρ inf.size news).toArray) e) := by
      refine ⟨L.take (ρ.pre b + off), L.drop (ρ.pre b + off + len * inf.size + (concE ρ inf.size news).length), ?_, ?_, ?_⟩
      · rw [hcells]
        congr 1
        simp only [splice, List.size_toArray]
        congr 1
        rw [List.take_add, hO]
        simp [List.append_assoc]
      · simp [Env.add]; omega
      · show (len + news.length) * inf.size + _ = _
        simp only [Env.add, if_true, List.length_drop]
        omega
    obtain ⟨r', n'⟩ := r.move hU (B' := .cells e (.arr ((len + news.length) * inf.size) inf.size (olds ++ news))) hD hg rfl rfl ht hv hkn
    refine ⟨.slice (some ⟨ρ.b b, ρ.pre b + off, none⟩) (len + news.length) (slCap ρ b off inf.size none), _, _, _, ?_, ?_, r', n', hpos, Nat.le_refl _, .inr rfl, ?_⟩
    · simp only [conc, slConc, hc0, if_false]
      exact key
    · have hsc : slCap (ρ.add h.next (ρ.b b) (ρ.pre b + off) (ρ.cap b - off)) h.next 0 inf.size none = slCap ρ b off inf.size none := by simp [slCap, Env.add]
      simp only [conc, slConc, hsc, hc0, if_false]
      simp [Env.add]
    · simp only [Env.add, if_true, Option.getD_none]; omega
  · -- a new row
    have hold : (Builtin.firstCells k.size len (conc ρ (.sl b base off len k.size none))).run P w.drew = .ok (concE ρ k.size olds).toArray w.drew := by
      simp only [conc, slConc]
      exact run_firstCells_some w.drew k.size len _ len _ _ (by rw [concE_length, g1]) fun j u hj => by
        have := sl_cells r hin hval ho j u hj
        simpa using this
    obtain ⟨val, D', ρ', w', q1, q2, q3, q4, q5⟩ := app_grow (ty := ty) hC r hU hu hk hk0 (base := some (if slCap ρ b off k.size none = 0 then zAddr ρ b base else ⟨ρ.b b, ρ.pre b + off, none⟩)) (cap := slCap ρ b off k.size none) hold g1 hs (by omega) hb hm hoi hni
    obtain ⟨k1, k2⟩ := q3.kill b
    exact ⟨val, D', ρ', w', q1, q2, k1, q4.trans r.lt (by exact hU) k2, q5⟩
theorem app_sound (hC : CfgOK P C) (r : Rel s0 U D ρ h w) {ts tx ty : TypeId} {s x v : V} {h' : Heap} (hs : InD (DD D ρ) s) (hx : InD (DD D ρ) x) (ha : appendV C h ts tx s x = some (v, h')) (hU : h'.next ≤ U) :
    ∃ val D' ρ' w', (Builtin.append_ #[ts, tx] ty #[conc ρ s, conc ρ x]).run P w = .ok val w' ∧ val = conc ρ' v ∧ Rel s0 U D' ρ' h' w' ∧ Nxt D ρ h w D' ρ' h' w' ∧ InD (DD D' ρ') v := by
  unfold appendV at ha
  split at ha
  · cases ha
  rename_i j hj
  split at ha
  case h_2 => cases ha
  rename_i e he
  have hd := (hC.ty ts j hj).d
  rw [he] at hd
  have hu : P.underlying ts = some (.slice e) := hd
  split at ha
  · cases ha
  rename_i k hk
  split at ha
  · cases ha
  rename_i hz
  have hk0 : 0 < k.size := by
    rcases Nat.eq_zero_or_pos k.size with h0 | h0
    · rw [beq_t h0] at hz; cases hz
    · exact h0
  split at ha
  · cases ha
  rename_i news hnews
  obtain ⟨hsrc, hni⟩ := srcV_spec hC r hx hnews
  obtain ⟨inf, hi, hsz, hby, _⟩ := (hC.ty e k hk).info
  split at ha
  · -- onto nothing
    split at ha
    · cases ha
      refine ⟨_, D, ρ, w, ?_, rfl, r, Nxt.refl _ _ _ _, trivial⟩
      rcases hsrc.kind with ⟨e', hk'⟩ | hk' <;> simp [conc, Builtin.append_, run_underlying hu, run_underlying hk', sizeOf, typeInfo, hi, hsrc.len] <;> (have := hsrc.cells; simp [concE] at this; rw [hsz]; simp [this])
    · rename_i y ys
      split at ha
      · rename_i hc
        simp only [Bool.and_eq_true] at hc
        have hc1 := Nat.le_of_ble_eq_true hc.1
        have hc2 := Nat.le_of_ble_eq_true hc.2
        cases ha
        obtain ⟨val, D', ρ', w', q1, q2, q3, q4, q5⟩ := app_grow (ty := ty) hC r hU hu hk hk0 (base := none) (cap := 0) (len := 0) (olds := []) (news := y :: ys) (run_firstCells_none _ _ _ _ _) rfl hsrc (by simp) (by simpa using hc1) (by simpa using hc2) trivial hni
        simp only [Nat.zero_add, List.nil_append] at q2 q3 q4 q5
        exact ⟨val, D', ρ', w', by simpa [conc] using q1, q2, q3, q4, q5⟩
      · cases ha
  · -- onto a slice
    rename_i b base off len esz lim
    split at ha
    · cases ha
    · -- nothing more
      rename_i hes
      rw [Nat.beq_eq] at hes
      cases ha
      refine ⟨_, D, ρ, w, ?_, rfl, r, Nxt.refl _ _ _ _, hs⟩
      have hc := slCap_ge hs
      rcases hsrc.kind with ⟨e', hk'⟩ | hk' <;> simp [conc, slConc, Builtin.append_, run_underlying hu, run_underlying hk', sizeOf, typeInfo, hi, hsrc.len, hc] <;> (have := hsrc.cells; simp [concE] at this; rw [hsz]; simp [this, storeCells])
    · rename_i y ys hes
      rw [Nat.beq_eq] at hes
      subst hes
      split at ha
      · cases ha
      rename_i hc
      simp only [Bool.and_eq_true] at hc
      have hc1 := Nat.le_of_ble_eq_true hc.1
      have hc2 := Nat.le_of_ble_eq_true hc.2
      split at ha
      · -- a limit is known
        rename_i c
        split at ha
        · rename_i hroom
          have hroom := Nat.le_of_ble_eq_true hroom
          split at ha
          · rename_i bty bv hg
            split at ha
            · rename_i hle
              have hle := Nat.le_of_ble_eq_true hle
              split at ha
              · rename_i v' hp
                cases ha
                obtain ⟨w', q1, q2, q3, q4⟩ := app_room (ty := ty) r hu hi hsz hs hg (by simp) hle (fun c' hc' => by cases hc'; exact hroom) hp hsrc hni
                exact ⟨_, D, ρ, w', q1, rfl, q2, q3, q4⟩
              · cases ha
            · cases ha
          · cases ha
        · rename_i hroom
          have hroom : ¬ len + (y :: ys).length ≤ c := fun h' => by rw [Nat.ble_eq_true_of_le h'] at hroom; cases hroom
          split at ha
          · rename_i bv hv
            split at ha
            · rename_i olds ho
              cases ha
              obtain ⟨g1, g2, g3, g4⟩ := subArr_spec (ρ := ρ) 50 bv off len k.size olds ho
              obtain ⟨_, _, _, _, _, _, _, hvin⟩ := r.val hs.2.2.1 hv
              have hold : (Builtin.firstCells k.size len (conc ρ (.sl b base off len k.size (some c)))).run P w.drew = .ok (concE ρ k.size olds).toArray w.drew := by
                simp only [conc, slConc]
                exact run_firstCells_some w.drew k.size len _ len _ _ (by rw [concE_length, g1]) fun j u hj => by
                  have := sl_cells r hs hv ho j u hj
                  simpa using this
              exact app_grow (ty := ty) hC r hU hu hk hk0 hold g1 hsrc (by simp only [slCap]; omega) hc1 hc2 (g4 _ hvin) hni
            · cases ha
          · cases ha
      · split at ha
        · rename_i bty bv hg
          split at ha
          · rename_i hle
            have hle := Nat.le_of_ble_eq_true hle
            split at ha
            · rename_i v' hp
              cases ha
              obtain ⟨w', q1, q2, q3, q4⟩ := app_room (ty := ty) r hu hi hsz hs hg (by simp) hle (fun c' hc' => by cases hc') hp hsrc hni
              exact ⟨_, D, ρ, w', q1, rfl, q2, q3, q4⟩
            · cases ha
          · split at ha
            · rename_i olds hty ho
              rw [Nat.beq_eq] at hty
              subst hty
              cases ha
              exact app_amb (ty := ty) hC r hU hu hk hk0 hs hg (by simp) ho hsrc hc1 hc2 hni
            · cases ha
        · cases ha
  · cases ha
theorem src_first (hC : CfgOK P C) (r : Rel s0 U D ρ h w) {tx : TypeId} {esz : Nat} {x : V} {all : List V} (hx : InD (DD D ρ) x) (hs : srcV C h tx esz x = some all) {m : Nat} (hm : m ≤ all.length) :
    (Builtin.firstCells esz m (conc ρ x)).run P w = .ok (concE ρ esz (all.take m)).toArray w := by
  unfold srcV at hs
  split at hs
  · cases hs
  · rename_i j hj
    split at hs
    · cases hs
      obtain rfl : m = 0 := by simpa using hm
      exact run_firstCells_none _ _ _ _ _
    · rename_i e b base off n e' lim he
      split at hs
      · rename_i v hes hv
        rw [Nat.beq_eq] at hes
        subst hes
        obtain ⟨g1, g2, g3, g4⟩ := subArr_spec (ρ := ρ) 50 v off n e' all hs
        simp only [conc, slConc]
        refine run_firstCells_some w e' m _ n _ _ (by rw [concE_length, List.length_take]; congr 1; omega) fun j u hj => ?_
        rw [concE_take, List.getElem?_take] at hj
        split at hj
        · exact sl_cells r hx hv hs j u hj
        · cases hj
      · cases hs
    · rename_i s he
      split at hs
      · rename_i h1
        rw [Nat.beq_eq] at h1
        subst h1
        cases hs
        have hb := bytes_concE ρ (s.take m)
        have ht : (bytesV s).take m = bytesV (s.take m) := by simp [bytesV, List.map_take]
        rw [ht, hb]
        simp only [conc, Builtin.firstCells, Sem.run_pure]
        rw [show (⟨⟨s⟩⟩ : ByteArray).extract 0 m = ⟨⟨s.take m⟩⟩ by rw [str_extract]; simp]
        congr 1
        apply Array.ext'
        simp
      · cases hs
    · cases hs
theorem copy_sound (hC : CfgOK P C) (r : Rel s0 U D ρ h w) {ts tx ty : TypeId} {s x v : V} {h' : Heap} (hs : InD (DD D ρ) s) (hx : InD (DD D ρ) x) (ha : copyV C h ts tx s x = some (v, h')) :
    ∃ w', (Builtin.copy_ #[ts, tx] ty #[conc ρ s, conc ρ x]).run P w = .ok (conc ρ v) w' ∧ Rel s0 U D ρ h' w' ∧ Nxt D ρ h w D ρ h' w' ∧ InD (DD D ρ) v := by
  unfold copyV at ha
  split at ha
  · cases ha
  rename_i j hj
  split at ha
  case h_2 => cases ha
  rename_i e he
  have hd := (hC.ty ts j hj).d
  rw [he] at hd
  have hu : P.underlying ts = some (.slice e) := hd
  split at ha
  · cases ha
  rename_i k hk
  split at ha
  · cases ha
  rename_i all hall
  obtain ⟨hsrc, hni⟩ := srcV_spec hC r hx hall
  obtain ⟨inf, hi, hsz, hby, _⟩ := (hC.ty e k hk).info
  have hfirst : ∀ m, m ≤ all.length → (Builtin.firstCells inf.size m (conc ρ x)).run P w = .ok (concE ρ k.size (all.take m)).toArray w := fun m hm => by rw [hsz]; exact src_first hC r hx hall hm
  have hmin : ∀ n, Nat.min all.length n ≤ all.length := fun n => Nat.min_le_left _ _
  split at ha
  · cases ha
    refine ⟨w, ?_, r, Nxt.refl _ _ _ _, trivial⟩
    have := hfirst 0 (Nat.zero_le _)
    simp [conc, Builtin.copy_, run_underlying hu, sizeOf, typeInfo, hi, hsrc.len, this, goInt]
  · rename_i b base off len esz lim
    have hc := slCap_ge hs
    split at ha
    · rename_i hes htk
      cases ha
      refine ⟨w, ?_, r, Nxt.refl _ _ _ _, trivial⟩
      have h0 : Nat.min all.length len = 0 := by
        have := congrArg List.length htk
        simp only [List.length_take, List.length_nil] at this
        show min all.length len = 0
        omega
      have := hfirst 0 (Nat.zero_le _)
      simp only [List.take_zero, concE] at this
      simp [conc, slConc, Builtin.copy_, run_underlying hu, sizeOf, typeInfo, hi, hsrc.len, h0, this, goInt, storeCells]
    · rename_i y ys hes htk
      rw [Nat.beq_eq] at hes
      subst hes
      split at ha
      · rename_i bty bv hg
        split at ha
        · rename_i hle
          have hle := Nat.le_of_ble_eq_true hle
          split at ha
          · rename_i v' hp
            cases ha
            have hnl : Nat.min all.length len = (y :: ys).length := by
              have := congrArg List.length htk
              simp only [List.length_take] at this
              show min all.length len = _
              omega
            obtain ⟨hpos, hlen, hD, hroom⟩ := hs
            obtain ⟨k1, k2, k3, k4, k5, k6, k7⟩ := putN_spec (ρ := ρ) (y :: ys) bv _ v' hp
            rw [if_neg (by simp)] at k3
            have hvin : InD (DD D ρ) bv := r.clo b _ hD hg
            obtain ⟨o, h1, pre, tail, rfl, h2, h3⟩ := r.has b _ hD hg
            have hc0 : ¬ slCap ρ b off k.size lim = 0 := by
              have : (y :: ys).length ≤ len := by rw [← hnl]; exact Nat.min_le_right _ _
              simp only [List.length_cons] at this
              omega
            have hlen' : (y :: ys).length = ys.length + 1 := rfl
            have hcl : (concE ρ k.size (y :: ys)).length = (y :: ys).length * k.size := concE_length _ _ _
            have hin2 : ρ.pre b + off + (concE ρ k.size (y :: ys)).length ≤ (pre ++ (cellsV ρ bv ++ tail)).toArray.size := by
              simp only [List.size_toArray, List.length_append, cellsV_length]; rw [hcl, hlen']; omega
            have hcell : ∀ j, j < (concE ρ k.size (y :: ys)).length → (w.cell? ⟨ρ.b b, ρ.pre b + off + 0 + j, none⟩).isSome = true := fun j hj => by
              simp only [World.cell?, h1]
              have : ρ.pre b + off + 0 + j < (pre ++ (cellsV ρ bv ++ tail)).toArray.size := by omega
              simp only [Option.isSome_none, Bool.false_eq_true, if_false]
              rw [Array.getElem?_eq_getElem this]; rfl
            have hfrz : ∀ j, j < (concE ρ k.size (y :: ys)).length → w.frozen? ⟨ρ.b b, ρ.pre b + off + 0 + j, none⟩ = false := fun j _ => by simp [World.frozen?, h1]
            have hst := run_storeCells_cells (P := P) (ρ.b b) (ρ.pre b + off) (concE ρ k.size (y :: ys)) 0 w hcell hfrz (cells_oneE ρ k.size (y :: ys))
            have ht := turned_setCells (concE ρ k.size (y :: ys)) (ρ.pre b + off) w (ρ.b b) _ bty h1 hin2
            obtain ⟨pre', tail', g1, g2, g3⟩ := put_sound r hD hg k1 k3 (by rw [hcl, hlen']; exact hle) (k6 _ hvin (by rw [← htk]; exact InDL_iff.2 fun z hz => InDL_iff.1 hni z (List.mem_of_mem_take hz)))
            rw [h1] at g1
            have hcs : (pre ++ (cellsV ρ bv ++ tail)).toArray = (pre' ++ (cellsV ρ bv ++ tail')).toArray := by
              simp only [Option.some.injEq, Obj.cells.injEq] at g1; exact g1.1
            rw [hcs] at ht
            obtain ⟨r', n'⟩ := g3 _ ht
            refine ⟨_, ?_, r', n', trivial⟩
            have hf := hfirst (y :: ys).length (by rw [← hnl]; exact Nat.min_le_left _ _)
            have htk2 : all.take (y :: ys).length = y :: ys := by
              rw [← htk]
              simp only [List.length_take]
              rw [List.take_eq_take_iff]
              omega
            rw [htk2] at hf
            simp only [Nat.add_zero] at hst
            simp only [conc, slConc, hc0, if_false]
            have hnl : Nat.min all.length len = ys.length + 1 := hnl
            have hf : (Builtin.firstCells inf.size (ys.length + 1) (conc ρ x)).run P w = .ok (concE ρ k.size (y :: ys)).toArray w := hf
            simp [Builtin.copy_, run_underlying hu, sizeOf, typeInfo, hi, hsrc.len, hnl, hf, hst, goInt]
          · cases ha
        · cases ha
      · cases ha
    · cases ha
  · cases ha
theorem clear_sound (hC : CfgOK P C) (r : Rel s0 U D ρ h w) {t ty e bty : TypeId} {k : TyI} {b base off n : Nat} {lim : Option Nat} {bv v' : V} (hu : P.underlying t = some (.slice e)) (hk : C.ty e = some k) (hs : InD (DD D ρ) (.sl b base off (n + 1) k.size lim)) (hg : h.get b = some (.cells bty bv)) (hle : off + (n + 1) * k.size ≤ bv.size)
    (hp : putN bv off k.size (List.replicate (n + 1) k.zero) = some v') :
    ∃ w', (Builtin.clear_ #[t] ty #[conc ρ (.sl b base off (n + 1) k.size lim)]).run P w = .ok (.tuple #[]) w' ∧ Rel s0 U D ρ (h.put b (.cells bty v')) w' ∧ Nxt D ρ h w D ρ (h.put b (.cells bty v')) w' := by
  have ok := hC.ty e k hk
  have hz := run_zeroValue' (P := P) (ok.zero ρ)
  have zin : InD (DD D ρ) k.zero := ok.zin.mono fun _ _ h => h.elim
  have hc := slCap_ge hs
  obtain ⟨hpos, hlen, hD, hroom⟩ := hs
  obtain ⟨k1, k2, k3, k4, k5, k6, k7⟩ := putN_spec (ρ := ρ) (List.replicate (n + 1) k.zero) bv _ v' hp
  rw [if_neg (by simp)] at k3
  have hvin : InD (DD D ρ) bv := r.clo b _ hD hg
  obtain ⟨o, h1, pre, tail, rfl, h2, h3⟩ := r.has b _ hD hg
  have hc0 : ¬ slCap ρ b off k.size lim = 0 := by omega
  have hcl : (concE ρ k.size (List.replicate (n + 1) k.zero)).length = (n + 1) * k.size := by rw [concE_length]; simp
  have hzs : (conc ρ k.zero).cells = (cellsV ρ k.zero).toArray := conc_cells (by
    cases ha : k.agg with
    | true => exact .inr (by rw [ok.zagg]; exact ha)
    | false => exact .inl (ok.zleaf ha))
  have hzc : (Builtin.zeroCells (conc ρ k.zero).cells (n + 1)).toList = concE ρ k.size (List.replicate (n + 1) k.zero) := by
    have := rep_cells ρ (n + 1) k.size k.zero ok.zsize hpos
    have h4 : cellsV ρ (repV (n + 1) k.size k.zero) = concE ρ k.size (List.replicate (n + 1) k.zero) := by
      simp only [repV, cellsV]
      rw [fit_self hcl]
    rw [h4] at this
    have h5 := congrArg Array.toList this
    simp only at h5
    rw [h5, hzs]
    unfold Builtin.zeroCells
    simp [ok.zsize]
  have hin2 : ρ.pre b + off + (concE ρ k.size (List.replicate (n + 1) k.zero)).length ≤ (pre ++ (cellsV ρ bv ++ tail)).toArray.size := by
    simp only [List.size_toArray, List.length_append, cellsV_length]; rw [hcl]; omega
  have hcell : ∀ j, j < (concE ρ k.size (List.replicate (n + 1) k.zero)).length → (w.cell? ⟨ρ.b b, ρ.pre b + off + 0 + j, none⟩).isSome = true := fun j hj => by
    simp only [World.cell?, h1]
    have : ρ.pre b + off + 0 + j < (pre ++ (cellsV ρ bv ++ tail)).toArray.size := by omega
    simp only [Option.isSome_none, Bool.false_eq_true, if_false]
    rw [Array.getElem?_eq_getElem this]; rfl
  have hfrz : ∀ j, j < (concE ρ k.size (List.replicate (n + 1) k.zero)).length → w.frozen? ⟨ρ.b b, ρ.pre b + off + 0 + j, none⟩ = false := fun j _ => by simp [World.frozen?, h1]
  have hst := run_storeCells_cells (P := P) (ρ.b b) (ρ.pre b + off) (concE ρ k.size (List.replicate (n + 1) k.zero)) 0 w hcell hfrz (cells_oneE ρ k.size _)
  have ht := turned_setCells (concE ρ k.size (List.replicate (n + 1) k.zero)) (ρ.pre b + off) w (ρ.b b) _ bty h1 hin2
  obtain ⟨pre', tail', g1, g2, g3⟩ := put_sound r hD hg k1 k3 (by rw [hcl]; exact hle) (k6 _ hvin (InDL_iff.2 fun z hz => by rw [(List.mem_replicate.1 hz).2]; exact zin))
  rw [h1] at g1
  have hcs : (pre ++ (cellsV ρ bv ++ tail)).toArray = (pre' ++ (cellsV ρ bv ++ tail')).toArray := by
    simp only [Option.some.injEq, Obj.cells.injEq] at g1; exact g1.1
  rw [hcs] at ht
  obtain ⟨r', n'⟩ := g3 _ ht
  refine ⟨_, ?_, r', n'⟩
  simp only [Nat.add_zero] at hst
  simp only [conc, slConc, hc0, if_false]
  simp [Builtin.clear_, run_underlying hu, hz, hzc, hst]
theorem run_stringish {P : Program} {w : World} {q : Nat} {cs : Array Value} {ty : TypeId} (h : w.heap[q]? = some (.cells cs ty (0, 0))) :
    ∃ w', (∀ off, (markStringish ⟨q, off, none⟩).run P w = .ok () w') ∧ Turned q (.cells cs ty (cs.size, cs.size + 1)) w w' := by
  have hlt := (Array.getElem?_eq_some_iff.1 h).1
  refine ⟨w.putObj q (.cells cs ty (cs.size, cs.size + 1)), fun off => ?_, turned_putObj _ hlt⟩
  have hsh : w.shape? q = some (ty, cs.size) := by simp [World.shape?, h]
  have hfr : w.freeze ⟨q, cs.size, none⟩ 1 = w.putObj q (.cells cs ty (cs.size, cs.size + 1)) := by
    unfold World.freeze World.putObj
    rw [if_neg (by decide)]
    congr 1
    apply Array.ext_getElem?
    intro j
    rw [Array.getElem?_modify, Array.getElem?_setIfInBounds]
    by_cases e : q = j
    · subst e
      have hq : w.heap[q] = .cells cs ty (0, 0) := by
        have := h; rw [Array.getElem?_eq_getElem hlt] at this; exact Option.some.inj this
      simp [hlt, hq]
    · simp [e]
  simp [markStringish, hsh, hfr]
theorem descOf_spec {e : TypeId} {d : TyD} (h : descOf C e = some d) : ∃ k, C.ty e = some k ∧ k.d = d := by
  unfold descOf at h
  split at h
  · rename_i k hk; cases h; exact ⟨k, hk, rfl⟩
  · cases h
theorem bytesOf_spec (ρ : Env) : ∀ (l : List V) (r : List UInt8), bytesOf l = some r → r.length = l.length ∧ concE ρ 1 l = r.map fun b => Value.int .u8 b.toNat
  | [], r, h => by simp [bytesOf] at h; subst h; exact ⟨rfl, rfl⟩
  | v :: l, r, h => by
    unfold bytesOf at h
    split at h
    · rename_i e; cases e
    · rename_i c l' e
      simp only [List.cons.injEq] at e
      obtain ⟨rfl, rfl⟩ := e
      split at h
      · rename_i r' h1 h2
        cases h
        obtain ⟨g1, g2⟩ := bytesOf_spec ρ _ _ h2
        rw [Nat.blt_eq] at h1
        refine ⟨by simp [g1], ?_⟩
        simp only [concE, List.map_cons, g2]
        have : (UInt8.ofNat c).toNat = c := by simp; omega
        rw [this]; rfl
      · cases h
    · cases h
theorem concE_flat (ρ : Env) : ∀ (l : List V), (∀ x ∈ l, x.isAgg = false) → concE ρ 1 l = l.map (cell1 ρ)
  | [], _ => rfl
  | x :: l, h => by
    rw [concE, concE_flat ρ l fun y hy => h y (List.mem_cons_of_mem _ hy), cells_cell1 (h x (List.mem_cons_self ..)), fit_self (n := 1) (l := [cell1 ρ x]) rfl]; rfl
theorem flatE_length (e : Nat) : ∀ l : List V, (flatE e l).length = l.length * e
  | [] => by simp [flatE]
  | v :: l => by simp [flatE, flatE_length e l, Nat.add_mul]; omega
theorem bytesOf_flat (ρ : Env) {l : List V} {r : List UInt8} (h : bytesOf (flatE 1 l) = some r) : r.length = l.length ∧ concE ρ 1 l = r.map fun b => Value.int .u8 b.toNat := by
  obtain ⟨h1, h2⟩ := bytesOf_spec ρ _ _ h
  refine ⟨by rw [h1, flatE_length]; omega, ?_⟩
  rw [← h2, concE_flat ρ _ (fun x hx => flat_oneE 1 l x hx), flatE_cells]
theorem bytesBEq (s s' : List UInt8) : ((⟨⟨s⟩⟩ : ByteArray) == ⟨⟨s'⟩⟩) = decide (s = s') := by
  show ((⟨s⟩ : Array UInt8) == ⟨s'⟩) = _
  rw [Bool.eq_iff_iff]; simp
theorem kEqV_spec (ρ : Env) {d : TypeDesc} {k k' : V} {b : Bool} (hd : (∃ kk j n, d = .int kk ∧ k = .int j n) ∨ (d = .string ∧ ∃ s, k = .str s)) (h : kEqV k k' = some b) :
    Instr.sameNow d (conc ρ k) (conc ρ k') = some b ∧ (b = true → conc ρ k' = conc ρ k) := by
  rcases hd with ⟨kk, j, n, rfl, rfl⟩ | ⟨rfl, s, rfl⟩
  · cases k' <;> simp only [kEqV] at h <;> try (cases h; done)
    rename_i j' n'
    split at h
    · rename_i hj
      have hj := of_decide_eq_true hj
      subst hj
      cases h
      simp only [conc, Instr.sameNow, if_true, eqI_eq]
      refine ⟨congrArg some ?_, fun hb => ?_⟩
      · rw [Bool.eq_iff_iff]; simp
      · have := of_decide_eq_true hb; rw [this]
    · cases h
  · cases k' <;> simp only [kEqV] at h <;> try (cases h; done)
    rename_i s'
    cases h
    simp only [conc, Instr.sameNow, bytesEq_eq, bytesBEq]
    refine ⟨trivial, fun hb => ?_⟩
    · have := of_decide_eq_true hb; rw [this]
theorem findM_spec (ρ : Env) {d : TypeDesc} {k : V} (hd : (∃ kk j n, d = .int kk ∧ k = .int j n) ∨ (d = .string ∧ ∃ s, k = .str s)) : ∀ (es : List (V × V × Nat)) (i : Nat) (r : Option (Nat × V × Nat)), findM k es i = some r →
    Instr.findNow d (conc ρ k) (concM ρ es) i = some (r.map fun p => (p.1, conc ρ p.2.1)) ∧ ∀ p, r = some p → ∃ k' m, p.1 = i + m ∧ es[m]? = some (k', p.2.1, p.2.2) ∧ conc ρ k' = conc ρ k
  | [], i, r, h => by cases h; exact ⟨rfl, fun p hp => by cases hp⟩
  | e :: l, i, r, h => by
    unfold findM at h
    split at h
    · rename_i hk
      cases h
      obtain ⟨h1, h2⟩ := kEqV_spec ρ hd hk
      refine ⟨?_, fun p hp => ?_⟩
      · simp only [concM, List.map_cons, Instr.findNow, h1]; rfl
      · cases hp
        exact ⟨e.1, 0, rfl, rfl, h2 rfl⟩
    · rename_i hk
      obtain ⟨h1, _⟩ := kEqV_spec ρ hd hk
      obtain ⟨g1, g2⟩ := findM_spec ρ hd l (i + 1) r h
      refine ⟨?_, fun p hp => ?_⟩
      · simp only [concM, List.map_cons, Instr.findNow, h1]
        exact g1
      · obtain ⟨k', m, q1, q2, q3⟩ := g2 p hp
        exact ⟨k', m + 1, by omega, q2, q3⟩
    · cases h
theorem keyOK_spec (hC : CfgOK P C) {kt : TypeId} {k : V} (h : keyOK C kt k = true) : ∃ d, P.underlying kt = some d ∧ ((∃ kk j n, d = .int kk ∧ k = .int j n) ∨ (d = .string ∧ ∃ s, k = .str s)) := by
  unfold keyOK at h
  split at h
  · rename_i j hj
    have hd := (hC.ty kt j hj).d
    split at h
    · rename_i kk j' n he
      rw [he] at hd
      exact ⟨_, hd, .inl ⟨_, _, _, rfl, rfl⟩⟩
    · rename_i s he
      rw [he] at hd
      exact ⟨_, hd, .inr ⟨rfl, _, rfl⟩⟩
    · cases h
  · cases h
theorem checkKey_ok {kt : TypeId} {k : V} {d : TypeDesc} (hu : P.underlying kt = some d) (hd : (∃ kk j n, d = .int kk ∧ k = .int j n) ∨ (d = .string ∧ ∃ s, k = .str s)) (ρ : Env) (e : Bool) (w : World) : (Instr.checkKey e 10000 kt (conc ρ k)).run P w = .ok () w := by
  have key : ∀ m, (Instr.checkKey e (m + 1) kt (conc ρ k)).run P w = .ok () w := fun m => by
    rcases hd with ⟨kk, j, n, rfl, rfl⟩ | ⟨rfl, s, rfl⟩ <;> (unfold Instr.checkKey; simp [run_underlying hu, conc])
  exact key 9999
theorem sameBits_self {k : V} {d : TypeDesc} (hd : (∃ kk j n, d = .int kk ∧ k = .int j n) ∨ (d = .string ∧ ∃ s, k = .str s)) (ρ : Env) : Instr.sameBits 10000 (conc ρ k) (conc ρ k) = true := by
  rcases hd with ⟨kk, j, n, rfl, rfl⟩ | ⟨rfl, s, rfl⟩ <;> simp [conc, Instr.sameBits, bytesBEq]
theorem findKey_ok {kt : TypeId} {k : V} {d : TypeDesc} (hu : P.underlying kt = some d) (hd : (∃ kk j n, d = .int kk ∧ k = .int j n) ∨ (d = .string ∧ ∃ s, k = .str s)) (ρ : Env) {es : List (V × V × Nat)} {r : Option (Nat × V × Nat)} (h : findM k es 0 = some r) (w : World) :
    (Instr.findKey kt (conc ρ k) (concM ρ es)).run P w = .ok (r.map fun p => (p.1, conc ρ p.2.1)) w := by
  simp [Instr.findKey, run_underlying hu, (findM_spec ρ hd es 0 r h).1]
theorem gObj_of {b : Nat} {es : Array MapEntry} {c : Nat} (h : w.heap[b]? = some (.map es c)) : (getObj b).run P w = .ok (.map es c) w := by simp [getObj, Sem.run, h]
theorem sObj_of {b : Nat} {es : Array MapEntry} {c : Nat} (o' : Obj) (h : w.heap[b]? = some (.map es c)) : (setObj b o').run P w = .ok () (w.putObj b o') := by simp [setObj, Sem.run, h, World.putObj]
theorem concM_set (ρ : Env) (es : List (V × V × Nat)) (i : Nat) (k v : V) (b : Nat) {k' v' : V} (he : es[i]? = some (k', v', b)) (f : MapEntry → MapEntry) (hf : f ⟨conc ρ k', conc ρ v', b⟩ = ⟨conc ρ k, conc ρ v, b⟩) :
    (concM ρ es).modify i f = concM ρ (es.set i (k, v, b)) := by
  apply List.ext_getElem?
  intro j
  rw [List.getElem?_modify]
  simp only [concM, List.getElem?_map, List.getElem?_set]
  have hl : i < es.length := (List.getElem?_eq_some_iff.1 he).1
  by_cases h : i = j
  · subst h
    rw [he]
    simp [hl, hf]
  · simp [h]
theorem bornM_spec (ρ : Env) (n : Nat) : ∀ (es : List (V × V × Nat)) (i m : Nat), bornM n es i = some m → ∃ q, m = i + q ∧ (concM ρ es).findIdx? (fun e => (e.born : Int) == (n : Int)) = some q
  | [], i, m, h => by cases h
  | e :: l, i, m, h => by
    unfold bornM at h
    simp only [concM, List.map_cons, List.findIdx?_cons]
    split at h
    · rename_i hb
      cases h
      have hb := Nat.eq_of_beq_eq_true hb
      refine ⟨0, rfl, ?_⟩
      simp [hb]
    · rename_i hb
      obtain ⟨q, h1, h2⟩ := bornM_spec ρ n l (i + 1) m h
      have hb : ¬ e.2.2 = n := fun e' => by rw [beq_t e'] at hb; cases hb
      refine ⟨q + 1, by omega, ?_⟩
      simp only [concM] at h2
      rw [h2]
      have : ((e.2.2 : Int) == (n : Int)) = false := by simp; omega
      simp [this]
theorem Rel.mapAt (r : Rel s0 U D ρ h w) {b : Nat} {es : List (V × V × Nat)} {c : Nat} (hb : D b) (hg : h.get b = some (.map es c)) : w.heap[ρ.b b]? = some (.map (concM ρ es).toArray c) ∧ ∀ e ∈ es, InD (DD D ρ) e.1 ∧ InD (DD D ρ) e.2.1 := by
  obtain ⟨o, h1, h2⟩ := r.has b _ hb hg
  have h2 : o = .map (concM ρ es).toArray c := h2
  subst h2
  exact ⟨h1, r.clo b _ hb hg⟩
theorem Rel.mapPut (r : Rel s0 U D ρ h w) {b : Nat} {es es' : List (V × V × Nat)} {c c' : Nat} (hb : D b) (hg : h.get b = some (.map es c)) (hi : ∀ e ∈ es', InD (DD D ρ) e.1 ∧ InD (DD D ρ) e.2.1) :
    Rel s0 U D ρ (h.put b (.map es' c')) (w.putObj (ρ.b b) (.map (concM ρ es').toArray c')) ∧ Nxt D ρ h w D ρ (h.put b (.map es' c')) (w.putObj (ρ.b b) (.map (concM ρ es').toArray c')) :=
  r.put hb hg rfl rfl (turned_putObj _ (Array.getElem?_eq_some_iff.1 (r.mapAt hb hg).1).1) rfl hi
theorem in_set {es : List (V × V × Nat)} {i : Nat} {k v : V} {b : Nat} {D : Nat → Nat → Prop} (hi : ∀ e ∈ es, InD D e.1 ∧ InD D e.2.1) (hk : InD D k) (hv : InD D v) : ∀ e ∈ es.set i (k, v, b), InD D e.1 ∧ InD D e.2.1 := fun e he => by
  rcases List.mem_or_eq_of_mem_set he with h | rfl
  · exact hi e h
  · exact ⟨hk, hv⟩
theorem in_app {es : List (V × V × Nat)} {k v : V} {b : Nat} {D : Nat → Nat → Prop} (hi : ∀ e ∈ es, InD D e.1 ∧ InD D e.2.1) (hk : InD D k) (hv : InD D v) : ∀ e ∈ es ++ [(k, v, b)], InD D e.1 ∧ InD D e.2.1 := fun e he => by
  rcases List.mem_append.1 he with h | h
  · exact hi e h
  · obtain rfl := List.mem_singleton.1 h; exact ⟨hk, hv⟩
theorem okT_conc (ok : Bool) (v : V) (b : Bool) (ρ : Env) : conc ρ (okT ok v b) = if ok then .tuple #[conc ρ v, .bool b] else conc ρ v := by cases ok <;> simp [okT, conc, concL]
theorem okT_in {D : Nat → Nat → Prop} {ok : Bool} {v : V} {b : Bool} (h : InD D v) : InD D (okT ok v b) := by
  cases ok
  · exact h
  · exact ⟨h, trivial, trivial⟩
theorem lookup_sound (hC : CfgOK P C) (hfr : FrE C D ρ fr a) (r : Rel s0 U D ρ h w) {t : TypeId} {x y : Operand} {ok : Bool} {v : V} {h' : Heap} (hh : ohLookup C fr h t x y ok = some (v, h')) :
    h' = h ∧ (Instr.lookup t (a.eval x) (a.eval y) ok).run P w = .ok (conc ρ v) w ∧ InD (DD D ρ) v := by
  unfold ohLookup at hh
  split at hh
  · rename_i kt et m k hm hx hy
    have hu := hC.mp _ _ _ hm
    obtain ⟨e1, i1⟩ := hfr.ev hx
    obtain ⟨e2, i2⟩ := hfr.ev hy
    split at hh
    · rename_i j hk hj
      obtain ⟨d, hud, hd⟩ := keyOK_spec hC hk
      have hz := run_zeroValue' (P := P) ((hC.ty et j hj).zero ρ)
      have zin : InD (DD D ρ) j.zero := (hC.ty et j hj).zin.mono fun _ _ h => h.elim
      have hck := fun e => checkKey_ok hud hd ρ e w
      split at hh
      · cases hh
        have hf := findKey_ok hud hd ρ (es := []) (r := none) rfl w
        refine ⟨rfl, ?_, okT_in zin⟩
        simp only [concM, List.map_nil] at hf
        rw [e1, e2, okT_conc]
        simp [conc, Instr.lookup, run_underlying hu, hck, hf, hz]
      · rename_i b
        split at hh
        · rename_i es c hg
          obtain ⟨hb, hes⟩ := r.mapAt i1.1 hg
          split at hh
          · rename_i i u bo hfm
            cases hh
            have hf := findKey_ok hud hd ρ hfm w
            obtain ⟨k', m', q1, q2, q3⟩ := (findM_spec ρ hd es 0 _ hfm).2 _ rfl
            refine ⟨rfl, ?_, okT_in (hes _ (List.mem_of_getElem? q2)).2⟩
            rw [e1, e2, okT_conc]
            simp [conc, Instr.lookup, run_underlying hu, gObj_of hb, hck, hf]
          · rename_i hfm
            cases hh
            have hf := findKey_ok hud hd ρ hfm w
            refine ⟨rfl, ?_, okT_in zin⟩
            rw [e1, e2, okT_conc]
            simp [conc, Instr.lookup, run_underlying hu, gObj_of hb, hck, hf, hz]
          · cases hh
        · cases hh
      · cases hh
    · cases hh
  · cases hh
theorem update_sound (hC : CfgOK P C) (hfr : FrE C D ρ fr a) (r : Rel s0 U D ρ h w) {t : TypeId} {x y z : Operand} {v : V} {h' : Heap} (hh : ohMapupdate C fr h t x y z = some (v, h')) :
    ∃ w', v = .undef ∧ (Instr.mapUpdate t (a.eval x) (a.eval y) (a.eval z)).run P w = .ok () w' ∧ Rel s0 U D ρ h' w' ∧ Nxt D ρ h w D ρ h' w' := by
  unfold ohMapupdate at hh
  split at hh
  · rename_i kt et b k u hm hx hy hz
    have hu := hC.mp _ _ _ hm
    obtain ⟨e1, i1⟩ := hfr.ev hx
    obtain ⟨e2, i2⟩ := hfr.ev hy
    obtain ⟨e3, i3⟩ := hfr.ev hz
    split at hh
    · rename_i es c hk hg
      obtain ⟨d, hud, hd⟩ := keyOK_spec hC hk
      have hck := fun e => checkKey_ok hud hd ρ e w
      obtain ⟨hb, hes⟩ := r.mapAt i1.1 hg
      split at hh
      · rename_i i v0 bo hfm
        cases hh
        have hf := findKey_ok hud hd ρ hfm w
        obtain ⟨k', m', q1, q2, q3⟩ := (findM_spec ρ hd es 0 _ hfm).2 _ rfl
        obtain rfl : i = m' := by simpa using q1
        obtain ⟨r', n'⟩ := r.mapPut (c' := c) i1.1 hg (in_set (i := i) (b := bo) hes i2 i3)
        refine ⟨_, rfl, ?_, r', n'⟩
        have hkey : ((concM ρ es)[i]?.map (·.key)).getD (conc ρ k) = conc ρ k := by simp [concM, q2, q3]
        have hst : (Instr.keyThatStays (conc ρ k) (conc ρ k)).run P w = .ok (conc ρ k) w := by simp [Instr.keyThatStays, sameBits_self hd ρ]
        rw [e1, e2, e3]
        have hset := concM_set ρ es i k u bo q2 (fun e => { e with key := conc ρ k, val := conc ρ u }) rfl
        simp [conc, Instr.mapUpdate, run_underlying hu, gObj_of hb, hck, hf, hkey, hst, hset, sObj_of _ hb]
      · rename_i hfm
        cases hh
        have hf := findKey_ok hud hd ρ hfm w
        obtain ⟨r', n'⟩ := r.mapPut (c' := c + 1) i1.1 hg (in_app (b := c) hes i2 i3)
        refine ⟨_, rfl, ?_, r', n'⟩
        rw [e1, e2, e3]
        have hpush : (concM ρ es).toArray.push ⟨conc ρ k, conc ρ u, c⟩ = (concM ρ (es ++ [(k, u, c)])).toArray := by simp [concM]
        simp only [List.push_toArray] at hpush
        simp [conc, Instr.mapUpdate, run_underlying hu, gObj_of hb, hck, hf, hpush, sObj_of _ hb]
      · cases hh
    · cases hh
  · cases hh
theorem entry_sound (hC : CfgOK P C) (hfr : FrE C D ρ fr a) (r : Rel s0 U D ρ h w) {t : TypeId} {x y : Operand} {v : V} {h' : Heap} (hh : ohMapentry C fr h t x y = some (v, h')) :
    ∃ w', (Instr.mapEntry t (a.eval x) (a.eval y)).run P w = .ok (conc ρ v) w' ∧ Rel s0 U D ρ h' w' ∧ Nxt D ρ h w D ρ h' w' ∧ InD (DD D ρ) v := by
  unfold ohMapentry at hh
  split at hh
  · rename_i kt et b k hm hx hy
    have hu := hC.mp _ _ _ hm
    obtain ⟨e1, i1⟩ := hfr.ev hx
    obtain ⟨e2, i2⟩ := hfr.ev hy
    split at hh
    · rename_i j es c hk hj hg
      obtain ⟨d, hud, hd⟩ := keyOK_spec hC hk
      have hck := fun e => checkKey_ok hud hd ρ e w
      have hz := run_zeroValue' (P := P) ((hC.ty et j hj).zero ρ)
      have zin : InD (DD D ρ) j.zero := (hC.ty et j hj).zin.mono fun _ _ h => h.elim
      obtain ⟨hb, hes⟩ := r.mapAt i1.1 hg
      split at hh
      · rename_i i v0 bo hfm
        cases hh
        have hf := findKey_ok hud hd ρ hfm w
        obtain ⟨k', m', q1, q2, q3⟩ := (findM_spec ρ hd es 0 _ hfm).2 _ rfl
        obtain rfl : i = m' := by simpa using q1
        have hv0 := (hes _ (List.mem_of_getElem? q2)).2
        obtain ⟨r', n'⟩ := r.mapPut (c' := c) i1.1 hg (in_set (i := i) (b := bo) hes i2 hv0)
        refine ⟨_, ?_, r', n', hv0, trivial, trivial⟩
        have hkey : ((concM ρ es)[i]?.map (·.key)).getD (conc ρ k) = conc ρ k := by simp [concM, q2, q3]
        have hborn : ((concM ρ es)[i]?.map (fun x => (x.born : Int))).getD 0 = (bo : Int) := by simp [concM, q2]
        have hst : (Instr.keyThatStays (conc ρ k) (conc ρ k)).run P w = .ok (conc ρ k) w := by simp [Instr.keyThatStays, sameBits_self hd ρ]
        rw [e1, e2]
        have hset := concM_set ρ es i k v0 bo q2 (fun e => { e with key := conc ρ k }) rfl
        simp [conc, concL, Instr.mapEntry, run_underlying hu, gObj_of hb, hck, hf, hkey, hborn, hst, hset, sObj_of _ hb, goInt]
      · rename_i hfm
        cases hh
        have hf := findKey_ok hud hd ρ hfm w
        obtain ⟨r', n'⟩ := r.mapPut (c' := c + 1) i1.1 hg (in_app (b := c) hes i2 zin)
        refine ⟨_, ?_, r', n', zin, trivial, trivial⟩
        rw [e1, e2]
        have hpush : (concM ρ es).toArray.push ⟨conc ρ k, conc ρ j.zero, c⟩ = (concM ρ (es ++ [(k, j.zero, c)])).toArray := by simp [concM]
        simp only [List.push_toArray] at hpush
        simp [conc, concL, Instr.mapEntry, run_underlying hu, gObj_of hb, hck, hf, hz, hpush, sObj_of _ hb, goInt]
      · cases hh
    · cases hh
  · cases hh
theorem estore_sound (hfr : FrE C D ρ fr a) (r : Rel s0 U D ρ h w) {t : TypeId} {x y z : Operand} {v : V} {h' : Heap} (hh : ohEntrystore C fr h x y z = some (v, h')) :
    ∃ w', v = .undef ∧ (Instr.entryStore t (a.eval x) (a.eval y) (a.eval z)).run P w = .ok () w' ∧ Rel s0 U D ρ h' w' ∧ Nxt D ρ h w D ρ h' w' := by
  unfold ohEntrystore at hh
  split at hh
  · rename_i b ki n u hx hy hz
    obtain ⟨e1, i1⟩ := hfr.ev hx
    obtain ⟨e2, i2⟩ := hfr.ev hy
    obtain ⟨e3, i3⟩ := hfr.ev hz
    split at hh
    · rename_i es c hg
      obtain ⟨hb, hes⟩ := r.mapAt i1.1 hg
      split at hh
      · rename_i i hbo
        split at hh
        · rename_i k v0 bo he
          cases hh
          obtain ⟨q, q1, q2⟩ := bornM_spec ρ n es 0 i hbo
          obtain rfl : i = q := by simpa using q1
          have hk := (hes _ (List.mem_of_getElem? he)).1
          obtain ⟨r', n'⟩ := r.mapPut (c' := c) i1.1 hg (in_set (i := i) (b := bo) hes hk i3)
          refine ⟨_, rfl, ?_, r', n'⟩
          have hset := concM_set ρ es i k u bo he (fun e => { e with val := conc ρ u }) rfl
          rw [e1, e2, e3]
          simp only [Int.ofNat_eq_natCast] at *
          simp [conc, Instr.entryStore, gObj_of hb, asInt, asIntOf, q2, hset, sObj_of _ hb]
        · cases hh
      · cases hh
    · cases hh
  · cases hh
theorem opH_sound (hC : CfgOK P C) (hfr : FrE C D ρ fr a) (r : Rel s0 U D ρ h w) {o : Oper} {v : V} {h' : Heap} (hh : opH C fr h o.op = some (v, h')) (hU : h'.next ≤ U) : ∃ x D' ρ' w', Did P C s0 U o a D ρ h w v h' x D' ρ' w' := by
  obtain ⟨dst, op, ty, pos, aft, g⟩ := o
  simp only at hh
  cases op <;> try (simp [opH, ohConvert, ohLoad, ohStore, ohAlloc, ohBox, ohBuildslice, ohMakeslice, ohAppend, ohCopy, ohSlice, ohMakemap, ohLookup, ohMapupdate, ohMapentry, ohEntrystore, ohClearA, ohClear, ohClearS, ohLenM] at hh; done)
  case convert s t x =>
    simp only [opH, ohConvert, ohLoad, ohStore, ohAlloc, ohBox, ohBuildslice, ohMakeslice, ohAppend, ohCopy, ohSlice, ohMakemap, ohLookup, ohMapupdate, ohMapentry, ohEntrystore, ohClearA, ohClear, ohClearS, ohLenM] at hh
    split at hh
    · rename_i js jt u hs ht hx
      obtain ⟨e1, i1⟩ := hfr.ev hx
      split at hh
      · rename_i e he ht2
        have hd := (hC.ty s js hs).d
        rw [he] at hd
        have hd : P.underlying s = some (.slice e) := hd
        have hd2 := (hC.ty t jt ht).d
        rw [ht2] at hd2
        have hd2 : P.underlying t = some .string := hd2
        split at hh
        · rename_i hed
          cases hh
          obtain ⟨k, hk, hkd⟩ := descOf_spec hed
          have hde := (hC.ty e k hk).d
          rw [hkd] at hde
          have hde : P.underlying e = some (.int .u8) := hde
          refine ⟨_, D, ρ, w, ⟨.inl ?_, rfl, r, Nxt.refl _ _ _ _, trivial⟩⟩
          have key := run_convert_bytes_nil (P := P) w s e hd hde 0 0 t hd2
          simp [execOp, e1, conc, key]
          rfl
        · rename_i b base off n esz lim hed
          split at hh
          · rename_i bv hes hv
            rw [Nat.beq_eq] at hes
            subst hes
            split at hh
            · rename_i l hl
              split at hh
              · rename_i rr hr
                cases hh
                obtain ⟨k, hk, hkd⟩ := descOf_spec hed
                have hde := (hC.ty e k hk).d
                rw [hkd] at hde
                have hde : P.underlying e = some (.int .u8) := hde
                obtain ⟨g1, g2⟩ := bytesOf_flat ρ hr
                obtain ⟨q1, _, _, _⟩ := subArr_spec (ρ := ρ) 50 bv off n 1 l hl
                refine ⟨_, D, ρ, w, ⟨.inl ?_, rfl, r, Nxt.refl _ _ _ _, trivial⟩⟩
                have hcells := sl_cells r i1 hv hl
                rw [g2] at hcells
                have hn : n = rr.length := by omega
                subst hn
                have key := run_convert_bytes_back (P := P) w s t e (if slCap ρ b off 1 lim = 0 then zAddr ρ b base else ⟨ρ.b b, ρ.pre b + off, none⟩) (slCap ρ b off 1 lim) rr hd hde hd2 (fun j hj => hcells j _ (by simp [hj]))
                simp only [execOp, e1, conc, slConc, Sem.run_bind, key, Result.andThen_ok, Sem.run_pure]
              · cases hh
            · cases hh
          · cases hh
        · cases hh
      · rename_i e0 e b base off n esz lim hs2 ht2
        have hd := (hC.ty s js hs).d
        rw [hs2] at hd
        have hd : P.underlying s = some (.slice e0) := hd
        have hd2 := (hC.ty t jt ht).d
        rw [ht2] at hd2
        have hd2 : P.underlying t = some (.slice e) := hd2
        split at hh
        · rename_i bty bv hst hed hgb
          split at hh
          case h_2 => cases hh
          rename_i hbase
          have hbase := Nat.le_of_ble_eq_true hbase
          cases hh
          have hst := Nat.eq_of_beq_eq_true hst
          subst hst
          obtain rfl : e0 = e := by
            have := hd.symm.trans hd2
            simpa using this
          obtain ⟨k, hk, hkd⟩ := descOf_spec hed
          have hde := (hC.ty e0 k hk).d
          rw [hkd] at hde
          have hde : P.underlying e0 = some (.int .u8) := hde
          have hD : D b := i1.2.2.1
          obtain ⟨o, h1, pre, tail, rfl, h2, h3⟩ := r.has b _ hD hgb
          obtain ⟨w', q1, q2⟩ := run_stringish (P := P) h1
          obtain ⟨r', n'⟩ := r.putR (b' := .ro bv) hD hgb rfl rfl q2 ⟨pre, tail, bty, _, rfl, h2, by omega⟩ (show InD (DD D ρ) bv from r.clo b _ hD hgb)
          refine ⟨_, D, ρ, w', ⟨.inl ?_, rfl, r', n', i1⟩⟩
          have q3 := q1 (ρ.pre b + (if slCap ρ b off esz lim = 0 then base else off))
          have hz : (if slCap ρ b off esz lim = 0 then zAddr ρ b base else (⟨ρ.b b, ρ.pre b + off, none⟩ : Addr)) = ⟨ρ.b b, ρ.pre b + (if slCap ρ b off esz lim = 0 then base else off), none⟩ := by
            split
            · exact zAddr_le (by omega)
            · rfl
          simp only [execOp, e1, conc, slConc, hz]
          simp [convert, run_underlying hd, run_underlying hde, q3]
        · cases hh
      · rename_i e str hs2 ht2
        have hd := (hC.ty s js hs).d
        rw [hs2] at hd
        have hd : P.underlying s = some .string := hd
        have hd2 := (hC.ty t jt ht).d
        rw [ht2] at hd2
        have hd2 : P.underlying t = some (.slice e) := hd2
        split at hh
        · rename_i hed
          cases hh
          obtain ⟨k, hk, hkd⟩ := descOf_spec hed
          have hde := (hC.ty e k hk).d
          rw [hkd] at hde
          have hde : P.underlying e = some (.int .u8) := hde
          have key := run_bytes_of_string (P := P) w s t e ⟨⟨str⟩⟩ hd hd2 hde
          have hge := grownCap_ge w (⟨⟨str⟩⟩ : ByteArray).size 0 e
          rw [show (⟨⟨str⟩⟩ : ByteArray).size = str.length from rfl] at key hge
          generalize grownCap w str.length 0 e = gc at key hge
          have hcells : (bytesRow ⟨⟨str⟩⟩ gc).toList = cellsV ρ (.arr str.length 1 (bytesV str)) ++ List.replicate (gc - str.length) (Value.int .u8 0) := by
            simp only [cellsV]
            rw [fit_self (by rw [concE_length]; simp [bytesV]), bytes_concE]
            simp [bytesRow]
            rfl
          have hag : Env.Agree (DD D ρ) ρ (ρ.add h.next w.heap.size 0 gc) := Env.add_agree (r.next_new hU)
          have hin : InD (DD D ρ) (.arr str.length 1 (bytesV str)) := InDL_iff.2 fun y hy => by obtain ⟨c, _, rfl⟩ := List.mem_map.1 hy; trivial
          obtain ⟨r', n'⟩ := (r.drawn (w.drawn + 1)).pushAny (w' := w.drew.alloc (.cells (bytesRow ⟨⟨str⟩⟩ gc) e ((bytesRow ⟨⟨str⟩⟩ gc).size, (bytesRow ⟨⟨str⟩⟩ gc).size + 1))) (pre := 0) (cap := gc) hU (below_alloc w.drew _) (heap_alloc_new w.drew _) (b := .ro (.arr str.length 1 (bytesV str))) hin ⟨[], List.replicate (gc - str.length) (Value.int .u8 0), e, _, by
            rw [cellsV_agree hag hin, List.nil_append, ← hcells], by simp [Env.add], by simp [Env.add]; exact hge⟩
          obtain ⟨s1, s2⟩ := new_sl (D := D) (ρ := ρ) (w := w) (h := h) gc str.length 1 (by omega) hge (cap := gc) (by omega)
          refine ⟨_, _, _, _, ⟨.inl ?_, s1.symm, r', n'.undrew, s2⟩⟩
          simp [execOp, e1, conc, key]
        · cases hh
      · cases hh
    · cases hh
  case load t x =>
    simp only [opH, ohConvert, ohLoad, ohStore, ohAlloc, ohBox, ohBuildslice, ohMakeslice, ohAppend, ohCopy, ohSlice, ohMakemap, ohLookup, ohMapupdate, ohMapentry, ohEntrystore, ohClearA, ohClear, ohClearS, ohLenM] at hh
    split at hh
    · rename_i b off i hx hi
      split at hh
      · rename_i bv hv
        split at hh
        · rename_i y hg
          cases hh
          obtain ⟨e, hin⟩ := hfr.ev hx
          obtain ⟨k1, k2⟩ := load_sound hC r hi hin.1 hv hg
          refine ⟨_, D, ρ, w, ⟨.inl ?_, rfl, r, Nxt.refl _ _ _ _, k2⟩⟩
          simp [execOp, e, conc, Instr.loadAt, Instr.sureAddr, k1]
        · cases hh
      · cases hh
    · cases hh
  case store t x y =>
    simp only [opH, ohConvert, ohLoad, ohStore, ohAlloc, ohBox, ohBuildslice, ohMakeslice, ohAppend, ohCopy, ohSlice, ohMakemap, ohLookup, ohMapupdate, ohMapentry, ohEntrystore, ohClearA, ohClear, ohClearS, ohLenM] at hh
    split at hh
    · rename_i b off u i hx hy hi
      split at hh
      · rename_i bty bv hg hsz
        rw [Nat.beq_eq] at hsz
        split at hh
        · rename_i v' hp
          cases hh
          obtain ⟨e, hin⟩ := hfr.ev hx
          obtain ⟨e2, hin2⟩ := hfr.ev hy
          obtain ⟨w', k1, k2, k3⟩ := store_sound hC r hi hsz hin.1 hg hp hin2
          refine ⟨_, D, ρ, w', ⟨.inr ⟨?_, rfl⟩, rfl, k2, k3, trivial⟩⟩
          simp [execOp, e, e2, conc, Instr.storeAt, Instr.sureAddr, k1]
        · cases hh
      · cases hh
    · cases hh
  case alloc t =>
    simp only [opH, ohConvert, ohLoad, ohStore, ohAlloc, ohBox, ohBuildslice, ohMakeslice, ohAppend, ohCopy, ohSlice, ohMakemap, ohLookup, ohMapupdate, ohMapentry, ohEntrystore, ohClearA, ohClear, ohClearS, ohLenM] at hh
    split at hh
    · rename_i i hi
      cases hh
      have ok := hC.ty t i hi
      have hz := run_zeroValue' (P := P) (ok.zero ρ)
      have hzc : (conc ρ i.zero).cells = (cellsV ρ i.zero).toArray := conc_cells (by
        cases ha : i.agg with
        | true => exact .inr (by rw [ok.zagg]; exact ha)
        | false => exact .inl (ok.zleaf ha))
      obtain ⟨r', n'⟩ := new_sound (t := t) (tail := []) r hU (ok.zin.mono fun _ _ h => h.elim)
      simp only [List.append_nil] at r' n'
      obtain ⟨p1, p2⟩ := new_ptr (cap := i.zero.size + [].length (α := Value)) r
      refine ⟨_, _, _, _, ⟨.inl ?_, p1.symm, r', n', p2⟩⟩
      simp [execOp, Instr.alloc, hz, newVar, newRow, hzc]
    · cases hh
  case box t x =>
    simp only [opH, ohConvert, ohLoad, ohStore, ohAlloc, ohBox, ohBuildslice, ohMakeslice, ohAppend, ohCopy, ohSlice, ohMakemap, ohLookup, ohMapupdate, ohMapentry, ohEntrystore, ohClearA, ohClear, ohClearS, ohLenM] at hh
    split at hh
    · rename_i u hx
      split at hh
      · rename_i hl
        simp only [Bool.or_eq_true] at hl
        cases hh
        obtain ⟨e, hin⟩ := hfr.ev hx
        obtain ⟨r', n'⟩ := new_sound (t := t) (tail := []) r hU hin
        simp only [List.append_nil] at r' n'
        obtain ⟨p1, p2⟩ := new_ptr (cap := u.size + [].length (α := Value)) r
        refine ⟨_, _, _, _, ⟨.inl ?_, p1.symm, r', n', p2⟩⟩
        simp [execOp, e, Instr.box, newVar, newRow, conc_cells hl]
      · cases hh
    · cases hh
  case buildSlice t n parts =>
    simp only [opH, ohConvert, ohLoad, ohStore, ohAlloc, ohBox, ohBuildslice, ohMakeslice, ohAppend, ohCopy, ohSlice, ohMakemap, ohLookup, ohMapupdate, ohMapentry, ohEntrystore, ohClearA, ohClear, ohClearS, ohLenM] at hh
    split at hh
    · rename_i i hi
      split at hh
      · rename_i e he
        have hd := (hC.ty t i hi).d
        rw [he] at hd
        have hd : P.underlying t = some (.slice e) := hd
        split at hh
        · rename_i k hk
          split at hh
          · cases hh
          · rename_i hc
            simp only [Bool.or_eq_false_iff, Bool.not_eq_false'] at hc
            have hle := Nat.le_of_ble_eq_true hc.2
            have hk0 : 0 < k.size := by
              rcases Nat.eq_zero_or_pos k.size with h0 | h0
              · rw [beq_t h0] at hc; cases hc.1
              · exact h0
            split at hh
            · rename_i u hu
              cases hh
              have ok := hC.ty e k hk
              have hzin : InD (DD D ρ) (repV n k.size k.zero) := InDL_iff.2 fun y hy => by rw [(List.mem_replicate.1 hy).2]; exact ok.zin.mono fun _ _ h => h.elim
              obtain ⟨f1, f2, f3⟩ := fillE_spec hfr parts.toList _ u hu hzin
              have hzc : (conc ρ k.zero).cells = (cellsV ρ k.zero).toArray := conc_cells (by
                cases ha : k.agg with
                | true => exact .inr (by rw [ok.zagg]; exact ha)
                | false => exact .inl (ok.zleaf ha))
              have hz := run_zeroValue' (P := P) (ok.zero ρ)
              have hus : u.size = n * k.size := f3
              obtain ⟨r', n'⟩ := new_sound (t := e) (tail := []) r hU f2
              simp only [List.append_nil] at r' n'
              obtain ⟨p1, p2⟩ := new_sl (D := D) (ρ := ρ) (w := w) (h := h) n n k.size hk0 (Nat.le_refl _) (cap := u.size + [].length (α := Value)) (by simp [hus])
              refine ⟨_, _, _, _, ⟨.inl ?_, p1.symm, r', n', p2⟩⟩
              have hlist : (parts.map fun (p : Nat × Operand) => (p.1, a.eval p.2)).toList = parts.toList.map fun p => (p.1, a.eval p.2) := by simp
              have hsz := ok.sizeOf w
              have hgt : ¬ n * k.size > 2 ^ 24 := by omega
              have hrep := rep_cells ρ n k.size k.zero ok.zsize hk0
              rw [hrep] at f1
              simp only [execOp, Instr.buildSlice, Sem.run_bind, run_underlying hd, Result.andThen_ok, hsz, hgt, if_false, hlist]
              by_cases h0 : n * k.size = 0
              · have hn : n = 0 := by
                  rcases Nat.mul_eq_zero.1 h0 with h | h
                  · exact h
                  · omega
                subst hn
                have hr0 : Array.range 0 = #[] := rfl
                simp only [Nat.zero_mul, hr0, List.map_toArray, List.map_nil] at f1 ⊢
                simp [f1, newRow]
              · simp only [h0, if_false, Sem.run_bind, hz w, Result.andThen_ok, Sem.run_pure, hzc]
                rw [f1]
                simp [newRow]
            · cases hh
        · cases hh
      · cases hh
    · cases hh
  case makeSlice t x y =>
    simp only [opH, ohConvert, ohLoad, ohStore, ohAlloc, ohBox, ohBuildslice, ohMakeslice, ohAppend, ohCopy, ohSlice, ohMakemap, ohLookup, ohMapupdate, ohMapentry, ohEntrystore, ohClearA, ohClear, ohClearS, ohLenM] at hh
    split at hh
    · rename_i i u z hi hx hy
      split at hh
      · rename_i e l c he hl hc
        obtain ⟨kl, rfl⟩ := natI_spec hl
        obtain ⟨kc, rfl⟩ := natI_spec hc
        have hd := (hC.ty t i hi).d
        rw [he] at hd
        have hd : P.underlying t = some (.slice e) := hd
        split at hh
        · rename_i k hk
          split at hh
          · cases hh
          · rename_i hcc
            simp only [Bool.or_eq_false_iff, Bool.not_eq_false'] at hcc
            have h1 := Nat.le_of_ble_eq_true hcc.1.1.2
            have h2 := Nat.le_of_ble_eq_true hcc.1.2
            have h3 := Nat.le_of_ble_eq_true hcc.2
            have hk0 : 0 < k.size := by
              rcases Nat.eq_zero_or_pos k.size with h0 | h0
              · rw [beq_t h0] at hcc; cases hcc.1.1.1
              · exact h0
            cases hh
            have ok := hC.ty e k hk
            obtain ⟨inf, hin, hsz, hby, hz⟩ := ok.info
            have hzc : (conc ρ k.zero).cells = (cellsV ρ k.zero).toArray := conc_cells (by
              cases ha : k.agg with
              | true => exact .inr (by rw [ok.zagg]; exact ha)
              | false => exact .inl (ok.zleaf ha))
            have hmul : ((inf.bytes : Int) * (c : Int)) ≤ 281474976710656 := by
              have : ((inf.bytes * c : Nat) : Int) ≤ 281474976710656 := by rw [hby]; omega
              rwa [Int.natCast_mul] at this
            have key := run_make (P := P) w t e inf _ hd hin (hz ρ) kl kc (l : Int) (c : Int) (by omega) (by omega) hmul (by omega)
            have hzin : InD (DD D ρ) (repV c k.size k.zero) := InDL_iff.2 fun y hy => by rw [(List.mem_replicate.1 hy).2]; exact ok.zin.mono fun _ _ h => h.elim
            obtain ⟨r', n'⟩ := new_sound (t := e) (tail := []) r hU hzin
            simp only [List.append_nil] at r' n'
            have hrep := rep_cells ρ c k.size k.zero ok.zsize hk0
            rw [hrep] at r' n'
            obtain ⟨p1, p2⟩ := new_sl (D := D) (ρ := ρ) (w := w) (h := h) c l k.size hk0 h1 (cap := (repV c k.size k.zero).size + [].length (α := Value)) (by simp [repV, V.size])
            refine ⟨_, _, _, _, ⟨.inl ?_, p1.symm, r', n', p2⟩⟩
            simp only [Int.toNat_natCast, hzc, hsz, madeCells] at key
            simp [execOp, (hfr.ev hx).1, (hfr.ev hy).1, conc, key]
        · cases hh
      · cases hh
    · cases hh
  case slice t x lo hi mx =>
    simp only [opH, ohConvert, ohLoad, ohStore, ohAlloc, ohBox, ohBuildslice, ohMakeslice, ohAppend, ohCopy, ohSlice, ohMakemap, ohLookup, ohMapupdate, ohMapentry, ohEntrystore, ohClearA, ohClear, ohClearS, ohLenM] at hh
    split at hh
    · rename_i j u hj hx
      have hd := (hC.ty t j hj).d
      obtain ⟨e1, i1⟩ := hfr.ev hx
      split at hh
      · rename_i n e b off he
        rw [he] at hd
        split at hh
        · rename_i k l rr bv hk hl hr hv
          split at hh
          · cases hh
          · rename_i hc
            simp only [Bool.or_eq_false_iff, Bool.not_eq_false'] at hc
            have h1 := Nat.le_of_ble_eq_true hc.1.1.2
            have h2 := Nat.le_of_ble_eq_true hc.1.2
            have h3 := Nat.le_of_ble_eq_true hc.2
            have hk0 : 0 < k.size := by
              rcases Nat.eq_zero_or_pos k.size with h0 | h0
              · rw [beq_t h0] at hc; cases hc.1.1.1
              · exact h0
            cases hh
            obtain ⟨_, _, _, _, _, _, hcap, _⟩ := r.val i1.1 hv
            have hb := bounds_ok (P := P) hfr (isSl := false) hl hr h1 h2 w
            refine ⟨_, D, ρ, w, ⟨.inl ?_, rfl, r, Nxt.refl _ _ _ _, hk0, by simp only [Option.getD_some]; omega, i1.1, ?_⟩⟩
            · simp only [execOp, e1, conc, slConc, Instr.sliceAt, Sem.run_bind, run_underlying hd.1, Result.andThen_ok, Instr.sureAddr, Option.map_none, hb, (hC.ty e k hk).sizeOf w, Sem.run_pure, addr_add]
              have hsc : slCap ρ b (off + l * k.size) k.size (some (n - l)) = n - l := rfl
              simp only [hsc]
              congr 4
              by_cases hnl : n = l
              · simp [hnl, zAddr_le (ρ := ρ) (b := b) (base := off) (by omega)]
              · have : ¬ n - l = 0 := by omega
                simp [hnl, this, Nat.add_assoc]
            · simp only [Option.getD_some]
              have : l * k.size + (n - l) * k.size = n * k.size := by rw [← Nat.add_mul]; congr 1; omega
              omega
        · cases hh
      · rename_i e b base off len esz lim he
        rw [he] at hd
        have hd : P.underlying t = some (.slice e) := hd
        split at hh
        · rename_i k l rr bv hk hl hr hv
          split at hh
          · cases hh
          · rename_i hc
            simp only [Bool.and_eq_true, Nat.beq_eq] at hc
            obtain ⟨⟨⟨⟨hes, h1⟩, h0⟩, h3⟩, h4⟩ := hc
            have h1 := Nat.le_of_ble_eq_true h1
            have h0 := Nat.le_of_ble_eq_true h0
            have h3 := Nat.le_of_ble_eq_true h3
            cases hh
            obtain ⟨_, _, _, _, _, _, hcap, _⟩ := r.val i1.2.2.1 hv
            obtain ⟨hpos, hlen, hD, hroom⟩ := i1
            have hrc : rr ≤ slCap ρ b off esz lim := by
              cases lim with
              | some c => exact Nat.le_of_ble_eq_true h4
              | none => simp only [slCap]; rw [Nat.le_div_iff_mul_le hpos]; omega
            have hb := bounds_ok (P := P) hfr (isSl := true) hl hr h1 hrc w
            refine ⟨_, D, ρ, w, ⟨.inl ?_, rfl, r, Nxt.refl _ _ _ _, hpos, ?_, hD, ?_⟩⟩
            · simp only [execOp, e1, conc, slConc, Instr.sliceAt, Sem.run_bind, run_underlying hd, Result.andThen_ok, Option.map_none, Instr.slice, hb, (hC.ty e k hk).sizeOf w, Sem.run_pure, hes]
              have hcap : slCap ρ b (off + l * esz) esz (limCut l lim) = slCap ρ b off esz lim - l := by
                cases lim with
                | some c => rfl
                | none =>
                  simp only [slCap, limCut]
                  rw [Nat.sub_add_eq, Nat.mul_comm l esz, Nat.sub_mul_div]
              rw [hcap]
              congr 4
              have hc0 : ¬ slCap ρ b off esz lim = 0 := by omega
              by_cases hl0 : l = 0
              · subst hl0
                simp [Addr.add]
              · have hb0 : Nat.beq l 0 = false := beq_f hl0
                simp only [hb0, hc0, if_false, Option.map_some, addr_add]
                by_cases hm : slCap ρ b off esz lim = l
                · simp [hm, zAddr_le (ρ := ρ) (b := b) (base := off) (Nat.le_trans (Nat.le_add_right _ _) hroom)]
                · have : ¬ slCap ρ b off esz lim - l = 0 := by omega
                  simp [hm, this, Nat.add_assoc]
            · cases lim with
              | some c => have h4 := Nat.le_of_ble_eq_true h4; simp only [limCut, Option.getD_some]; omega
              | none => simp [limCut]
            · cases lim with
              | some c =>
                have h4 := Nat.le_of_ble_eq_true h4
                simp only [limCut, Option.getD_some] at hroom ⊢
                have : l * esz + (c - l) * esz = c * esz := by rw [← Nat.add_mul]; congr 1; omega
                omega
              | none =>
                simp only [limCut, Option.getD_none]
                have : l * esz + (rr - l) * esz = rr * esz := by rw [← Nat.add_mul]; congr 1; omega
                omega
        · cases hh
      · cases hh
    · cases hh
  case makeMap t x =>
    have key : ∀ hint : Option Operand, (∀ y, hint = some y → (∃ k e, P.underlying t = some (.map k e)) ∧ ∃ j n, a.eval y = .int j n) → h' = h.push (.map [] 0) → v = .map h.next → ∃ x D' ρ' w', Did P C s0 U ⟨dst, .makeMap t hint, ty, pos, aft, g⟩ a D ρ h w v h' x D' ρ' w' := fun hint hx he hv => by
      subst he hv
      obtain ⟨r', n'⟩ := r.push (w' := w.alloc (.map #[] 0)) (pre := 0) (cap := 0) hU (below_alloc w _) (heap_alloc_new w _) rfl (b := .map [] 0) (fun e he => by cases he) rfl
      refine ⟨_, _, _, _, ⟨.inl ?_, rfl, r', n', push_new (Nat.le_refl _)⟩⟩
      cases hint with
      | none => simp [execOp, Instr.makeMap, newObj, Sem.run, conc, Env.add]
      | some y =>
        obtain ⟨⟨k, e, hu⟩, j, n, hy⟩ := hx y rfl
        simp [execOp, Instr.makeMap, newObj, conc, Env.add, run_underlying hu, hy, asInt]
        rfl
    simp only [opH, ohMakemap] at hh
    split at hh
    · cases hh; exact key none (fun y hy => by cases hy) rfl rfl
    · rename_i y
      split at hh
      · rename_i p j n hm hy
        cases hh
        exact key (some y) (fun y' hy' => by cases hy'; exact ⟨⟨_, _, hC.mp _ _ _ hm⟩, _, _, (hfr.ev hy).1⟩) rfl rfl
      · cases hh
  case lookup t x y ok =>
    obtain ⟨rfl, q1, q2⟩ := lookup_sound hC hfr r (show ohLookup C fr h t x y ok = some (v, h') from hh)
    exact ⟨_, D, ρ, w, ⟨.inl (by simp [execOp, q1]), rfl, r, Nxt.refl _ _ _ _, q2⟩⟩
  case mapUpdate t x y z =>
    obtain ⟨w', rfl, q1, q2, q3⟩ := update_sound hC hfr r (show ohMapupdate C fr h t x y z = some (v, h') from hh)
    exact ⟨_, D, ρ, w', ⟨.inr ⟨by simp only [execOp, Sem.run_bind, q1, Result.andThen_ok, Sem.run_pure], rfl⟩, rfl, q2, q3, trivial⟩⟩
  case insert t x y z =>
    obtain ⟨w', rfl, q1, q2, q3⟩ := update_sound hC hfr r (show ohMapupdate C fr h t x y z = some (v, h') from hh)
    exact ⟨_, D, ρ, w', ⟨.inr ⟨by simp only [execOp, Sem.run_bind, q1, Result.andThen_ok, Sem.run_pure], rfl⟩, rfl, q2, q3, trivial⟩⟩
  case mapEntry t x y =>
    obtain ⟨w', q1, q2, q3, q4⟩ := entry_sound hC hfr r (show ohMapentry C fr h t x y = some (v, h') from hh)
    exact ⟨_, D, ρ, w', ⟨.inl (by simp [execOp, q1]), rfl, q2, q3, q4⟩⟩
  case entryStore t x y z =>
    obtain ⟨w', rfl, q1, q2, q3⟩ := estore_sound (P := P) (t := t) hfr r (show ohEntrystore C fr h x y z = some (v, h') from hh)
    exact ⟨_, D, ρ, w', ⟨.inr ⟨by simp only [execOp, Sem.run_bind, q1, Result.andThen_ok, Sem.run_pure], rfl⟩, rfl, q2, q3, trivial⟩⟩
  case call c =>
    obtain ⟨callee, args, ats⟩ := c
    cases callee <;> try (simp [opH, ohConvert, ohLoad, ohStore, ohAlloc, ohBox, ohBuildslice, ohMakeslice, ohAppend, ohCopy, ohSlice, ohMakemap, ohLookup, ohMapupdate, ohMapentry, ohEntrystore, ohClearA, ohClear, ohClearS, ohLenM] at hh; done)
    rename_i b
    cases b <;> try (simp [opH, ohConvert, ohLoad, ohStore, ohAlloc, ohBox, ohBuildslice, ohMakeslice, ohAppend, ohCopy, ohSlice, ohMakemap, ohLookup, ohMapupdate, ohMapentry, ohEntrystore, ohClearA, ohClear, ohClearS, ohLenM] at hh; done)
    case append =>
      have e2 : execOp a.eval ⟨dst, .call ⟨.builtin .append, args, ats⟩, ty, pos, aft, g⟩ = (do pure (.value (← Builtin.append_ ats ty (args.map a.eval)))) := rfl
      simp only [opH, ohConvert, ohLoad, ohStore, ohAlloc, ohBox, ohBuildslice, ohMakeslice, ohAppend, ohCopy, ohSlice, ohMakemap, ohLookup, ohMapupdate, ohMapentry, ohEntrystore, ohClearA, ohClear, ohClearS, ohLenM] at hh
      split at hh
      · rename_i x y ts tx h1 h2
        have h1 : args = #[x, y] := by apply Array.toList_inj.1; simpa using h1
        have h2 : ats = #[ts, tx] := by apply Array.toList_inj.1; simpa using h2
        subst h1; subst h2
        split at hh
        · rename_i s u hx hy
          obtain ⟨e1, i1⟩ := hfr.ev hx
          obtain ⟨e3, i3⟩ := hfr.ev hy
          obtain ⟨val, D', ρ', w', q1, q2, q3, q4, q5⟩ := app_sound (ty := ty) hC r i1 i3 hh hU
          refine ⟨val, D', ρ', w', ⟨.inl ?_, q2, q3, q4, q5⟩⟩
          rw [e2]
          simp [e1, e3, q1]
        · cases hh
      · cases hh
    case clear =>
      have e2 : execOp a.eval ⟨dst, .call ⟨.builtin .clear, args, ats⟩, ty, pos, aft, g⟩ = (do pure (.value (← Builtin.clear_ ats ty (args.map a.eval)))) := rfl
      replace hh : ohClearA C fr h args ats = some (v, h') := hh
      unfold ohClearA at hh
      split at hh
      · rename_i r0 hh0
        cases hh
        have hh := hh0
        clear hh0
        unfold ohClear at hh
        split at hh
        · rename_i x t h1 h2
          have h1 : args = #[x] := by apply Array.toList_inj.1; simpa using h1
          have h2 : ats = #[t] := by apply Array.toList_inj.1; simpa using h2
          subst h1; subst h2
          split at hh
          · rename_i p hm hx
            cases hh
            obtain ⟨e1, i1⟩ := hfr.ev hx
            have hu := hC.mp _ _ _ hm
            refine ⟨_, D, ρ, w, ⟨.inl ?_, rfl, r, Nxt.refl _ _ _ _, trivial⟩⟩
            rw [e2]
            simp [e1, conc, Builtin.clear_, run_underlying hu]
          · rename_i p b hm hx
            obtain ⟨e1, i1⟩ := hfr.ev hx
            have hu := hC.mp _ _ _ hm
            split at hh
            · rename_i es c hg
              cases hh
              obtain ⟨hb, hes⟩ := r.mapAt i1.1 hg
              obtain ⟨r', n'⟩ := r.mapPut (es' := []) (c' := c) i1.1 hg (fun e he => by cases he)
              refine ⟨_, D, ρ, _, ⟨.inl ?_, rfl, r', n', trivial⟩⟩
              rw [e2]
              simp [e1, conc, Builtin.clear_, run_underlying hu, gObj_of hb, sObj_of _ hb, concM]
            · cases hh
          · cases hh
        · cases hh
      · unfold ohClearS at hh
        split at hh
        · rename_i x t h1 h2
          have h1 : args = #[x] := by apply Array.toList_inj.1; simpa using h1
          have h2 : ats = #[t] := by apply Array.toList_inj.1; simpa using h2
          subst h1; subst h2
          split at hh
          · rename_i j u hj hx
            obtain ⟨e1, i1⟩ := hfr.ev hx
            have hd := (hC.ty t j hj).d
            split at hh
            · rename_i e he
              cases hh
              rw [he] at hd
              have hu : P.underlying t = some (.slice e) := hd
              refine ⟨_, D, ρ, w, ⟨.inl ?_, rfl, r, Nxt.refl _ _ _ _, trivial⟩⟩
              rw [e2]
              simp [e1, conc, Builtin.clear_, run_underlying hu]
            · rename_i e b base off len esz lim he
              rw [he] at hd
              have hu : P.underlying t = some (.slice e) := hd
              split at hh
              · cases hh
                refine ⟨_, D, ρ, w, ⟨.inl ?_, rfl, r, Nxt.refl _ _ _ _, trivial⟩⟩
                rw [e2]
                simp [e1, conc, slConc, Builtin.clear_, run_underlying hu]
              · rename_i k bty bv n hk hg
                split at hh
                · rename_i hc
                  simp only [Bool.and_eq_true] at hc
                  have hes := Nat.eq_of_beq_eq_true hc.1
                  have hle := Nat.le_of_ble_eq_true hc.2
                  subst hes
                  split at hh
                  · rename_i v' hp
                    cases hh
                    obtain ⟨w', q1, q2, q3⟩ := clear_sound (ty := ty) hC r hu hk i1 hg hle hp
                    refine ⟨_, D, ρ, w', ⟨.inl ?_, rfl, q2, q3, trivial⟩⟩
                    rw [e2]
                    simp [e1, q1]
                    rfl
                  · cases hh
                · cases hh
              · cases hh
            · cases hh
          · cases hh
        · cases hh
    case len =>
      have e2 : execOp a.eval ⟨dst, .call ⟨.builtin .len, args, ats⟩, ty, pos, aft, g⟩ = (do pure (.value (← Builtin.len_ ats ty (args.map a.eval)))) := rfl
      simp only [opH, ohLenM] at hh
      split at hh
      · rename_i x t h1 h2
        have h1 : args = #[x] := by apply Array.toList_inj.1; simpa using h1
        have h2 : ats = #[t] := by apply Array.toList_inj.1; simpa using h2
        subst h1; subst h2
        split at hh
        · rename_i p hm hx
          cases hh
          obtain ⟨e1, i1⟩ := hfr.ev hx
          have hu := hC.mp _ _ _ hm
          refine ⟨_, D, ρ, w, ⟨.inl ?_, rfl, r, Nxt.refl _ _ _ _, trivial⟩⟩
          rw [e2]
          simp [e1, conc, Builtin.len_, run_underlying hu, goInt]
        · rename_i p b hm hx
          obtain ⟨e1, i1⟩ := hfr.ev hx
          have hu := hC.mp _ _ _ hm
          split at hh
          · rename_i es c hg
            cases hh
            obtain ⟨hb, hes⟩ := r.mapAt i1.1 hg
            refine ⟨_, D, ρ, w, ⟨.inl ?_, rfl, r, Nxt.refl _ _ _ _, trivial⟩⟩
            rw [e2]
            simp [e1, conc, Builtin.len_, run_underlying hu, gObj_of hb, goInt, concM]
          · cases hh
        · cases hh
      · cases hh
    case copy =>
      have e2 : execOp a.eval ⟨dst, .call ⟨.builtin .copy, args, ats⟩, ty, pos, aft, g⟩ = (do pure (.value (← Builtin.copy_ ats ty (args.map a.eval)))) := rfl
      simp only [opH, ohConvert, ohLoad, ohStore, ohAlloc, ohBox, ohBuildslice, ohMakeslice, ohAppend, ohCopy, ohSlice, ohMakemap, ohLookup, ohMapupdate, ohMapentry, ohEntrystore, ohClearA, ohClear, ohClearS, ohLenM] at hh
      split at hh
      · rename_i x y ts tx h1 h2
        have h1 : args = #[x, y] := by apply Array.toList_inj.1; simpa using h1
        have h2 : ats = #[ts, tx] := by apply Array.toList_inj.1; simpa using h2
        subst h1; subst h2
        split at hh
        · rename_i s u hx hy
          obtain ⟨e1, i1⟩ := hfr.ev hx
          obtain ⟨e3, i3⟩ := hfr.ev hy
          obtain ⟨w', q1, q3, q4, q5⟩ := copy_sound (ty := ty) hC r i1 i3 hh
          refine ⟨_, D, ρ, w', ⟨.inl ?_, rfl, q3, q4, q5⟩⟩
          rw [e2]
          simp [e1, e3, q1]
        · cases hh
      · cases hh
end
end Go.Proofs.Ytgeelfdgnehdnaa
namespace Go.Proofs.Ytgeelfdgnehdnaa
open Go.RowKit
set_option linter.unusedSimpArgs false
set_option linter.unusedVariables false
structure Self where
  fn : FuncId → List V → Heap → Option (V × Heap)
  yield : Nat → List V → Heap → Option (V × Heap)
structure St where
  fr : Tr V
  h : Heap
  ds : List Nat
  rd : Bool
structure Flow where
  loop : Code → St → Option (Exit × St)
  scope : Code → Nat → St → Option (Exit × St)
noncomputable def wantV (ops : Array Oper) (fr : Tr V) (o : Oper) : Option Bool := match o.guard with
  | none => some true
  | some (j, b) => match (ops[j]?).bind (·.dst) with
    | none => some false
    | some t => match fr.get t with
      | some (.bool c) => some (c == b)
      | some _ => some false
      | none => none
noncomputable def putT (fr : Tr V) (d : Option Tmp) (v : V) : Tr V := match d with
  | some t => fr.set t (some v)
  | none => fr
noncomputable def callV (S : Self) (C : Cfg) (fr : Tr V) (h : Heap) : Op → Option (V × Heap)
  | .call ⟨.value x, xs, _⟩ => match evV C fr x, evL C fr xs.toList with
    | some (.fn f a c), some vs => match C.ext f with
      | some e => match e (a ++ vs ++ c) with
        | some v => some (v, h)
        | none => none
      | none => S.fn f (a ++ vs ++ c) h
    | some (.yield l), some vs => S.yield l vs h
    | _, _ => none
  | .call ⟨.invoke x m, xs, _⟩ => match evV C fr x, evL C fr xs.toList with
    | some (.iface t v), some vs => match C.mt t m with
      | some f => match C.ext f with
        | some _ => none
        | none => S.fn f (v :: vs) h
      | none => none
    | _, _ => none
  | _ => none
noncomputable def opV (S : Self) (C : Cfg) (fr : Tr V) (h : Heap) (o : Oper) : Option (V × Heap) :=
  match pureV C fr o.type o.op with
  | some v => some (v, h)
  | none => match opH C fr h o.op with
    | some r => some r
    | none => callV S C fr h o.op
noncomputable def evalOps (S : Self) (C : Cfg) (ops : Array Oper) : List Oper → Tr V → Heap → Option (Tr V × Heap)
  | [], fr, h => some (fr, h)
  | o :: l, fr, h => match wantV ops fr o with
    | some true => match opV S C fr h o with
      | some (v, h') => evalOps S C ops l (putT fr o.dst v) h'
      | none => none
    | some false => evalOps S C ops l (putT fr o.dst .undef) h
    | none => none
noncomputable def add64V : List V → Option V
  | [.int .u64 (.ofNat x), .int .u64 (.ofNat y), .int .u64 (.ofNat c)] => match Nat.ble c 1 with
    | true => some (.tup [.int .u64 (.ofNat ((x + y + c) % 18446744073709551616)), .int .u64 (.ofNat ((x + y + c) / 18446744073709551616))])
    | false => none
  | _ => none
noncomputable def reachB (ops : Array Oper) : Nat → Nat → Nat → Bool
  | 0, _, _ => false
  | f + 1, j, k => match ops[j]? with
    | none => false
    | some o => o.after.any fun e => Region.binds .any e && (Nat.beq e.on k || reachB ops f e.on k)
inductive Ev where
  | load (b : Nat)
  | store (b : Nat)
  | gen
  | dirty
  | upd (b : Nat)
noncomputable def Ev.clash : Ev → Ev → Bool
  | .load _, .load _ => false
  | .load a, .store b => Nat.beq a b
  | .store a, .load b => Nat.beq a b
  | .store a, .store b => Nat.beq a b
  | .load a, .upd b => Nat.beq a b
  | .upd a, .load b => Nat.beq a b
  | .gen, .load _ => false
  | .load _, .gen => false
  | .gen, .gen => false
  | _, _ => true
noncomputable def evOf (C : Cfg) (fr : Tr V) (h h1 : Heap) : Op → Ev
  | .load _ x => match evV C fr x with
    | some (.ptr b _) => .load b
    | _ => .dirty
  | .store _ x _ => match evV C fr x with
    | some (.ptr b _) => .store b
    | _ => .dirty
  | .call ⟨.builtin .append, xs, _⟩ => match Nat.ble h.next h1.wmin with
    | true => .gen
    | false => match xs.toList with
      | [x, _] => match evV C fr x with
        | some (.sl b _ _ _ _ _) => .upd b
        | _ => .dirty
      | _ => .dirty
  | _ => match Nat.ble h.next h1.wmin with
    | true => .gen
    | false => .dirty
noncomputable def evsOK (ops : Array Oper) (j : Nat) (x : Ev) : List (Nat × Ev) → Bool
  | [] => true
  | (k, y) :: l => (match y.clash x with | true => reachB ops ops.size j k | false => true) && evsOK ops j x l
noncomputable def minN (a b : Nat) : Nat := match Nat.ble a b with
  | true => a
  | false => b
noncomputable def stepF (S : Self) (C : Cfg) (fr : Tr V) (h : Heap) (o : Oper) : Option (V × Heap × Option Ev) :=
  match pureV C fr o.type o.op with
  | some v => some (v, h, none)
  | none => match opV S C fr { h with wmin := h.next } o with
    | some (v, h1) => some (v, { h1 with wmin := minN h.wmin h1.wmin }, some (evOf C fr h h1 o.op))
    | none => none
noncomputable def evalFlow (S : Self) (C : Cfg) (ops : Array Oper) : List Oper → Nat → List (Nat × Ev) → Tr V → Heap → Option (Tr V × Heap)
  | [], _, _, fr, h => some (fr, h)
  | o :: l, i, es, fr, h => match wantV ops fr o with
    | some true => match stepF S C fr h o with
      | some (v, h1, some x) => match evsOK ops i x es with
        | true => evalFlow S C ops l (i + 1) ((i, x) :: es) (putT fr o.dst v) h1
        | false => none
      | some (v, h1, none) => evalFlow S C ops l (i + 1) es (putT fr o.dst v) h1
      | none => none
    | some false => evalFlow S C ops l (i + 1) es (putT fr o.dst .undef) h
    | none => none
noncomputable def setPs : Tr V → List Tmp → List V → Tr V
  | fr, p :: ps, v :: vs => setPs (fr.set p (some v)) ps vs
  | fr, _, _ => fr
noncomputable def endRange (st : St) (D l : Nat) (h : Heap) : Option (Exit × St) := match h.get l with
  | some (.loop .ready none _ _ _ _ _) => some (.normal, ⟨st.fr, h.kill l, D :: st.ds, st.rd⟩)
  | some (.loop .done (some .ret) _ _ _ _ _) => some (.ret, ⟨st.fr, h.kill l, D :: st.ds, st.rd⟩)
  | some (.loop .done (some (.exit id)) _ _ _ _ _) => some (.exit id, ⟨st.fr, h.kill l, D :: st.ds, st.rd⟩)
  | some (.loop .done (some (.goto id)) _ _ _ _ _) => some (.goto id, ⟨st.fr, h.kill l, D :: st.ds, st.rd⟩)
  | _ => none
noncomputable def evalCode (S : Self) (F : Flow) (C : Cfg) : Code → St → Option (Exit × St)
  | .skip, st => some (.normal, st)
  | .region _ ops dr, st => match (match dr with
      | true => evalFlow S C ops ops.toList 0 [] st.fr st.h
      | false => evalOps S C ops ops.toList st.fr st.h) with
    | some (fr, h) => some (.normal, ⟨fr, h, st.ds, st.rd⟩)
    | none => none
  | .seq x y, st => match evalCode S F C x st with
    | some (.normal, st') => evalCode S F C y st'
    | r => r
  | .cond c x y, st => match evV C st.fr c with
    | some (.bool true) => evalCode S F C x st
    | some (.bool false) => evalCode S F C y st
    | _ => none
  | .block id x, st => match evalCode S F C x st with
    | some (.exit id', st') => match Nat.beq id' id with
      | true => some (.normal, st')
      | false => some (.exit id', st')
    | r => r
  | .loop x, st => F.loop x st
  | .rangeFunc g ps asg bd, st => match st.rd, evV C st.fr g with
    | false, some (.fn gf [] c) => match S.fn gf ([.yield (st.h.next + 1)] ++ c) ((st.h.push (.dfr false)).push (.loop .ready none st.fr ps asg bd st.h.next)) with
      | some (_, h) => endRange st st.h.next (st.h.next + 1) h
      | none => none
    | _, _ => none
  | .exit id, st => some (.exit id, st)
  | .scope x, st => match evalCode S F C x st with
    | some (.goto l, st') => F.scope x l st'
    | r => r
  | .label _, st => some (.normal, st)
  | .goto l, st => some (.goto l, st)
  | .ret, st => some (.ret, st)
  | .refuse _, _ => none
noncomputable def argsT : Nat → List V → Tr V → Tr V
  | _, [], t => t
  | i, v :: vs, t => argsT (i + 1) vs (t.set i (some v))
noncomputable def takeAll : List Nat → Heap → Option Heap
  | [], h => some h
  | d :: ds, h => match h.get d with
    | some (.dfr false) => takeAll ds (h.put d (.dfr true))
    | _ => none
noncomputable def resV (C : Cfg) (fr : Tr V) (h : Heap) : ResultVar → Option V
  | .tmp t => fr.get t
  | .cell p T => match fr.get p, C.ty T with
    | some (.ptr b off), some i => match h.val b with
      | some v => getAt 50 v off i.size i.agg
      | none => none
    | _, _ => none
noncomputable def resL (C : Cfg) (fr : Tr V) (h : Heap) : List ResultVar → Option (List V)
  | [] => some []
  | r :: l => match resV C fr h r, resL C fr h l with
    | some v, some vs => some (v :: vs)
    | _, _ => none
noncomputable def finV (C : Cfg) (fn : Func) (st : St) : Option (V × Heap) := match takeAll st.ds st.h with
  | none => none
  | some h => match resL C st.fr h fn.results.toList with
    | some [v] => some (v, h)
    | some vs => some (.tup vs, h)
    | none => none
mutual
noncomputable def runFn (C : Cfg) : Nat → FuncId → List V → Heap → Option (V × Heap)
  | 0, _, _, _ => none
  | n + 1, f, vs, h => match C.known f with
    | some k => k vs h
    | none => match C.fn f with
      | none => none
      | some fn => match fn.body, Nat.ble vs.length fn.ntmps with
        | some c, true => match evalCode ⟨runFn C n, runYield C n⟩ ⟨runLoop C n, runScope C n⟩ C c ⟨argsT 0 vs .nil, h, [], false⟩ with
          | some (.normal, st) => finV C fn st
          | some (.ret, st) => finV C fn st
          | _ => none
        | _, _ => none
noncomputable def runYield (C : Cfg) : Nat → Nat → List V → Heap → Option (V × Heap)
  | 0, _, _, _ => none
  | n + 1, l, vs, h => match h.get l with
    | some (.loop .ready none fr ps asg bd d) => match Nat.beq vs.length ps.size with
      | false => none
      | true => match evalCode ⟨runFn C n, runYield C n⟩ ⟨runLoop C n, runScope C n⟩ C asg ⟨setPs fr ps.toList vs, h, [], true⟩ with
        | some (.normal, st1) => match st1.h.get l with
          | some (.loop .ready none fr1 ps1 asg1 bd1 d1) => match evalCode ⟨runFn C n, runYield C n⟩ ⟨runLoop C n, runScope C n⟩ C bd ⟨st1.fr, st1.h.put l (.loop .busy none fr1 ps1 asg1 bd1 d1), st1.ds, st1.rd⟩ with
            | some (x, st2) => match st2.h.get l with
              | some (.loop .busy none fr2 ps2 asg2 bd2 d2) => match x with
                | .normal => some (.bool true, st2.h.put l (.loop .ready none fr2 ps2 asg2 bd2 d2))
                | .ret => some (.bool false, st2.h.put l (.loop .done (some .ret) fr2 ps2 asg2 bd2 d2))
                | .exit id => some (.bool false, st2.h.put l (.loop .done (some (.exit id)) fr2 ps2 asg2 bd2 d2))
                | .goto id => some (.bool false, st2.h.put l (.loop .done (some (.goto id)) fr2 ps2 asg2 bd2 d2))
                | _ => none
              | _ => none
            | none => none
          | _ => none
        | _ => none
    | _ => none
noncomputable def runLoop (C : Cfg) : Nat → Code → St → Option (Exit × St)
  | 0, _, _ => none
  | n + 1, c, st => match evalCode ⟨runFn C n, runYield C n⟩ ⟨runLoop C n, runScope C n⟩ C c st with
    | some (.normal, st') => runLoop C n c st'
    | r => r
noncomputable def runScope (C : Cfg) : Nat → Code → Nat → St → Option (Exit × St)
  | 0, _, _, _ => none
  | n + 1, c, l, st => match findLabel c l with
    | some rest => match evalCode ⟨runFn C n, runYield C n⟩ ⟨runLoop C n, runScope C n⟩ C rest st with
      | some (.goto l', st') => runScope C n c l' st'
      | r => r
    | none => none
end
end Go.Proofs.Ytgeelfdgnehdnaa
namespace Go.Proofs.Ytgeelfdgnehdnaa
open Go.RowKit
set_option linter.unusedSimpArgs false
set_option linter.unusedVariables false
inductive Tr.All {α : Type} (p : Nat → α → Prop) : (Nat → Nat) → Tr α → Prop
  | nil {f : Nat → Nat} : Tr.All p f .nil
  | skip {f : Nat → Nat} {l r : Tr α} (hl : Tr.All p (fun k => f (2 * k + 1)) l) (hr : Tr.All p (fun k => f (2 * k + 2)) r) : Tr.All p f (.node none l r)
  | here {f : Nat → Nat} {x : α} {l r : Tr α} (hx : p (f 0) x) (hl : Tr.All p (fun k => f (2 * k + 1)) l) (hr : Tr.All p (fun k => f (2 * k + 2)) r) : Tr.All p f (.node (some x) l r)
theorem Tr.All.at_ {α : Type} {p : Nat → α → Prop} : ∀ {t : Tr α} {f : Nat → Nat} {k : Nat} {x : α}, Tr.All p f t → t.get k = some x → p (f k) x
  | .nil, f, k, x, _, hk => by simp [Tr.get_nil] at hk
  | .node v l r, f, k, x, h, hk => by
    rw [Tr.get_node] at hk
    by_cases h0 : k = 0
    · rw [if_pos h0] at hk
      subst hk; subst h0
      cases h with
      | here hx _ _ => exact hx
    · rw [if_neg h0] at hk
      have hlr : Tr.All p (fun k => f (2 * k + 1)) l ∧ Tr.All p (fun k => f (2 * k + 2)) r := by
        cases h with
        | skip hl hr => exact ⟨hl, hr⟩
        | here _ hl hr => exact ⟨hl, hr⟩
      by_cases h1 : k % 2 = 1
      · rw [if_pos h1] at hk
        have := hlr.1.at_ hk
        rwa [show 2 * (k / 2) + 1 = k by omega] at this
      · rw [if_neg h1] at hk
        have := hlr.2.at_ hk
        rwa [show 2 * (k / 2 - 1) + 2 = k by omega] at this
structure Mono (h h' : Heap) : Prop where
  nxt : h.next ≤ h'.next
  wf : (∀ i, h.next ≤ i → h.get i = none) → ∀ i, h'.next ≤ i → h'.get i = none
  wmin : h'.wmin ≤ h.wmin
  keep : ∀ i, i < h.next → i < h'.wmin → h'.get i = h.get i
theorem Mono.refl (h : Heap) : Mono h h := ⟨Nat.le_refl _, fun h => h, Nat.le_refl _, fun _ _ _ => rfl⟩
theorem Mono.trans {a b c : Heap} (x : Mono a b) (y : Mono b c) : Mono a c :=
  ⟨Nat.le_trans x.nxt y.nxt, fun h => y.wf (x.wf h), Nat.le_trans y.wmin x.wmin, fun i h1 h2 => (y.keep i (Nat.lt_of_lt_of_le h1 x.nxt) h2).trans (x.keep i h1 (Nat.lt_of_lt_of_le h2 y.wmin))⟩
theorem mono_push (h : Heap) (b : Blk) : Mono h (h.push b) := ⟨Nat.le_succ _, fun hw i hi => by
    have hi : h.next + 1 ≤ i := hi
    rw [Heap.get_push, if_neg (by omega)]; exact hw i (by omega), Nat.le_refl _, fun i h1 _ => by rw [Heap.get_push, if_neg (by omega)]⟩
theorem mono_put {h : Heap} {i : Nat} {b c : Blk} (hb : h.get i = some c) : Mono h (h.put i b) := by
  have hw := wmin_le h.wmin i
  refine ⟨Nat.le_refl _, fun hwf j hj => ?_, hw.1, fun j _ h2 => ?_⟩
  · have hj : h.next ≤ j := hj
    have : j ≠ i := fun e => by have := hwf j hj; rw [e, hb] at this; cases this
    rw [Heap.get_put, if_neg this]; exact hwf j hj
  · have h2 : j < wmn h.wmin i := h2
    rw [Heap.get_put, if_neg (by omega)]
theorem mono_kill (h : Heap) (i : Nat) : Mono h (h.kill i) := by
  have hw := wmin_le h.wmin i
  refine ⟨Nat.le_refl _, fun hwf j hj => ?_, hw.1, fun j _ h2 => ?_⟩
  · have hj : h.next ≤ j := hj
    rw [Heap.get_kill]; split
    · rfl
    · exact hwf j hj
  · have h2 : j < wmn h.wmin i := h2
    rw [Heap.get_kill, if_neg (by omega)]
theorem mono_app {C : Cfg} {h h' : Heap} {ts tx : TypeId} {s x v : V} (ha : appendV C h ts tx s x = some (v, h')) : Mono h h' := by
  unfold appendV at ha
  repeat' (split at ha)
  all_goals first | (cases ha; done) | skip
  all_goals first
    | (cases ha; exact Mono.refl _)
    | (cases ha; exact mono_push _ _)
    | (cases ha; rename_i hg _ _ _; exact mono_put hg)
    | (cases ha; rename_i hg _ _ _ _; exact mono_put hg)
    | (cases ha; rename_i hg _ _ _ _ _; exact mono_put hg)
    | (cases ha; exact (mono_push _ _).trans (mono_kill _ _))
theorem mono_copy {C : Cfg} {h h' : Heap} {ts tx : TypeId} {s x v : V} (ha : copyV C h ts tx s x = some (v, h')) : Mono h h' := by
  unfold copyV at ha
  repeat' (split at ha)
  all_goals first | (cases ha; done) | skip
  all_goals first
    | (cases ha; exact Mono.refl _)
    | (cases ha; rename_i hg _ _ _; exact mono_put hg)
    | (cases ha; rename_i hg _ _ _ _; exact mono_put hg)
    | (cases ha; rename_i hg _ _ _ _ _; exact mono_put hg)
theorem mono_clear {C : Cfg} {fr : Tr V} {h h' : Heap} {args : Array Operand} {ats : Array TypeId} {v : V} (hh : ohClearA C fr h args ats = some (v, h')) : Mono h h' := by
  unfold ohClearA at hh
  split at hh
  · rename_i r hr
    cases hh
    unfold ohClear at hr
    repeat' (split at hr)
    all_goals first | (cases hr; done) | (cases hr; exact Mono.refl _) | (cases hr; exact mono_put (by assumption))
  · unfold ohClearS at hh
    repeat' (split at hh)
    all_goals first | (cases hh; done) | (cases hh; exact Mono.refl _) | (cases hh; exact mono_put (by assumption))
theorem mono_opH {C : Cfg} {fr : Tr V} {h h' : Heap} {o : Op} {v : V} (hh : opH C fr h o = some (v, h')) : Mono h h' := by
  cases o <;> try (simp [opH, ohConvert, ohLoad, ohStore, ohAlloc, ohBox, ohBuildslice, ohMakeslice, ohAppend, ohCopy, ohSlice, ohMakemap, ohLookup, ohMapupdate, ohMapentry, ohEntrystore, ohClearA, ohClear, ohClearS, ohLenM] at hh; done)
  case convert s t x =>
    simp only [opH, ohConvert, ohLoad, ohStore, ohAlloc, ohBox, ohBuildslice, ohMakeslice, ohAppend, ohCopy, ohSlice, ohMakemap, ohLookup, ohMapupdate, ohMapentry, ohEntrystore, ohClearA, ohClear, ohClearS, ohLenM] at hh
    repeat' (split at hh)
    all_goals first | (cases hh; done) | (cases hh; exact Mono.refl _) | (cases hh; exact mono_push _ _) | (cases hh; exact mono_put (by assumption))
  case load t x =>
    simp only [opH, ohConvert, ohLoad, ohStore, ohAlloc, ohBox, ohBuildslice, ohMakeslice, ohAppend, ohCopy, ohSlice, ohMakemap, ohLookup, ohMapupdate, ohMapentry, ohEntrystore, ohClearA, ohClear, ohClearS, ohLenM] at hh
    repeat' (split at hh)
    all_goals first | (cases hh; done) | (cases hh; exact Mono.refl _)
  case store t x y =>
    simp only [opH, ohConvert, ohLoad, ohStore, ohAlloc, ohBox, ohBuildslice, ohMakeslice, ohAppend, ohCopy, ohSlice, ohMakemap, ohLookup, ohMapupdate, ohMapentry, ohEntrystore, ohClearA, ohClear, ohClearS, ohLenM] at hh
    repeat' (split at hh)
    all_goals first | (cases hh; done) | (cases hh; rename_i hg _ _ _; exact mono_put hg) | (cases hh; rename_i hg _ _ _ _; exact mono_put hg)
  case alloc t =>
    simp only [opH, ohConvert, ohLoad, ohStore, ohAlloc, ohBox, ohBuildslice, ohMakeslice, ohAppend, ohCopy, ohSlice, ohMakemap, ohLookup, ohMapupdate, ohMapentry, ohEntrystore, ohClearA, ohClear, ohClearS, ohLenM] at hh
    repeat' (split at hh)
    all_goals first | (cases hh; done) | (cases hh; exact mono_push _ _)
  case box t x =>
    simp only [opH, ohConvert, ohLoad, ohStore, ohAlloc, ohBox, ohBuildslice, ohMakeslice, ohAppend, ohCopy, ohSlice, ohMakemap, ohLookup, ohMapupdate, ohMapentry, ohEntrystore, ohClearA, ohClear, ohClearS, ohLenM] at hh
    repeat' (split at hh)
    all_goals first | (cases hh; done) | (cases hh; exact mono_push _ _)
  case buildSlice t n ps =>
    simp only [opH, ohConvert, ohLoad, ohStore, ohAlloc, ohBox, ohBuildslice, ohMakeslice, ohAppend, ohCopy, ohSlice, ohMakemap, ohLookup, ohMapupdate, ohMapentry, ohEntrystore, ohClearA, ohClear, ohClearS, ohLenM] at hh
    repeat' (split at hh)
    all_goals first | (cases hh; done) | (cases hh; exact mono_push _ _)
  case makeSlice t x y =>
    simp only [opH, ohConvert, ohLoad, ohStore, ohAlloc, ohBox, ohBuildslice, ohMakeslice, ohAppend, ohCopy, ohSlice, ohMakemap, ohLookup, ohMapupdate, ohMapentry, ohEntrystore, ohClearA, ohClear, ohClearS, ohLenM] at hh
    repeat' (split at hh)
    all_goals first | (cases hh; done) | (cases hh; exact mono_push _ _)
  case slice t x lo hi mx =>
    simp only [opH, ohConvert, ohLoad, ohStore, ohAlloc, ohBox, ohBuildslice, ohMakeslice, ohAppend, ohCopy, ohSlice, ohMakemap, ohLookup, ohMapupdate, ohMapentry, ohEntrystore, ohClearA, ohClear, ohClearS, ohLenM] at hh
    repeat' (split at hh)
    all_goals first | (cases hh; done) | (cases hh; exact Mono.refl _)
  case makeMap t x =>
    simp only [opH, ohConvert, ohLoad, ohStore, ohAlloc, ohBox, ohBuildslice, ohMakeslice, ohAppend, ohCopy, ohSlice, ohMakemap, ohLookup, ohMapupdate, ohMapentry, ohEntrystore, ohClearA, ohClear, ohClearS, ohLenM] at hh
    repeat' (split at hh)
    all_goals first | (cases hh; done) | (cases hh; exact Mono.refl _) | (cases hh; exact mono_push _ _) | (cases hh; exact mono_put (by assumption))
  case lookup t x y ok =>
    simp only [opH, ohConvert, ohLoad, ohStore, ohAlloc, ohBox, ohBuildslice, ohMakeslice, ohAppend, ohCopy, ohSlice, ohMakemap, ohLookup, ohMapupdate, ohMapentry, ohEntrystore, ohClearA, ohClear, ohClearS, ohLenM] at hh
    repeat' (split at hh)
    all_goals first | (cases hh; done) | (cases hh; exact Mono.refl _) | (cases hh; exact mono_push _ _) | (cases hh; exact mono_put (by assumption))
  case mapUpdate t x y z =>
    simp only [opH, ohConvert, ohLoad, ohStore, ohAlloc, ohBox, ohBuildslice, ohMakeslice, ohAppend, ohCopy, ohSlice, ohMakemap, ohLookup, ohMapupdate, ohMapentry, ohEntrystore, ohClearA, ohClear, ohClearS, ohLenM] at hh
    repeat' (split at hh)
    all_goals first | (cases hh; done) | (cases hh; exact Mono.refl _) | (cases hh; exact mono_push _ _) | (cases hh; exact mono_put (by assumption))
  case insert t x y z =>
    simp only [opH, ohConvert, ohLoad, ohStore, ohAlloc, ohBox, ohBuildslice, ohMakeslice, ohAppend, ohCopy, ohSlice, ohMakemap, ohLookup, ohMapupdate, ohMapentry, ohEntrystore, ohClearA, ohClear, ohClearS, ohLenM] at hh
    repeat' (split at hh)
    all_goals first | (cases hh; done) | (cases hh; exact Mono.refl _) | (cases hh; exact mono_push _ _) | (cases hh; exact mono_put (by assumption))
  case mapEntry t x y =>
    simp only [opH, ohConvert, ohLoad, ohStore, ohAlloc, ohBox, ohBuildslice, ohMakeslice, ohAppend, ohCopy, ohSlice, ohMakemap, ohLookup, ohMapupdate, ohMapentry, ohEntrystore, ohClearA, ohClear, ohClearS, ohLenM] at hh
    repeat' (split at hh)
    all_goals first | (cases hh; done) | (cases hh; exact Mono.refl _) | (cases hh; exact mono_push _ _) | (cases hh; exact mono_put (by assumption))
  case entryStore t x y z =>
    simp only [opH, ohConvert, ohLoad, ohStore, ohAlloc, ohBox, ohBuildslice, ohMakeslice, ohAppend, ohCopy, ohSlice, ohMakemap, ohLookup, ohMapupdate, ohMapentry, ohEntrystore, ohClearA, ohClear, ohClearS, ohLenM] at hh
    repeat' (split at hh)
    all_goals first | (cases hh; done) | (cases hh; exact Mono.refl _) | (cases hh; exact mono_push _ _) | (cases hh; exact mono_put (by assumption))
  case call c =>
    obtain ⟨callee, args, ats⟩ := c
    cases callee <;> try (simp [opH, ohConvert, ohLoad, ohStore, ohAlloc, ohBox, ohBuildslice, ohMakeslice, ohAppend, ohCopy, ohSlice, ohMakemap, ohLookup, ohMapupdate, ohMapentry, ohEntrystore, ohClearA, ohClear, ohClearS, ohLenM] at hh; done)
    rename_i b
    cases b <;> try (simp [opH, ohConvert, ohLoad, ohStore, ohAlloc, ohBox, ohBuildslice, ohMakeslice, ohAppend, ohCopy, ohSlice, ohMakemap, ohLookup, ohMapupdate, ohMapentry, ohEntrystore, ohClearA, ohClear, ohClearS, ohLenM] at hh; done)
    case append =>
      simp only [opH, ohConvert, ohLoad, ohStore, ohAlloc, ohBox, ohBuildslice, ohMakeslice, ohAppend, ohCopy, ohSlice, ohMakemap, ohLookup, ohMapupdate, ohMapentry, ohEntrystore, ohClearA, ohClear, ohClearS, ohLenM] at hh
      split at hh
      · split at hh
        · exact mono_app hh
        · cases hh
      · cases hh
    case clear => exact mono_clear (show ohClearA C fr h args ats = some (v, h') from hh)
    case len =>
      simp only [opH, ohConvert, ohLoad, ohStore, ohAlloc, ohBox, ohBuildslice, ohMakeslice, ohAppend, ohCopy, ohSlice, ohMakemap, ohLookup, ohMapupdate, ohMapentry, ohEntrystore, ohClearA, ohClear, ohClearS, ohLenM] at hh
      repeat' (split at hh)
      all_goals first | (cases hh; done) | (cases hh; exact Mono.refl _)
    case copy =>
      simp only [opH, ohConvert, ohLoad, ohStore, ohAlloc, ohBox, ohBuildslice, ohMakeslice, ohAppend, ohCopy, ohSlice, ohMakemap, ohLookup, ohMapupdate, ohMapentry, ohEntrystore, ohClearA, ohClear, ohClearS, ohLenM] at hh
      split at hh
      · split at hh
        · exact mono_copy hh
        · cases hh
      · cases hh
noncomputable def FnPost (s0 : World) (U : Nat) (D : Nat → Prop) (ρ : Env) (h : Heap) (w : World) (v : V) (h' : Heap) : Ending → World → Prop := fun e w' =>
  ∃ D' ρ', e = .returned (conc ρ' v) ∧ Rel s0 U D' ρ' h' w' ∧ Nxt D ρ h w D' ρ' h' w' ∧ InD (DD D' ρ') v
structure SelfOK (P : Program) (C : Cfg) (S : Self) : Prop where
  fnMono : ∀ f vs h v h', S.fn f vs h = some (v, h') → Mono h h'
  fnEnter : ∀ f vs h v h', S.fn f vs h = some (v, h') → ∀ args w, (callFunc f args).run P w = .ok (.enter f args) w
  fn : ∀ f vs h v h', S.fn f vs h = some (v, h') → ∀ s0 U D ρ w, h'.next ≤ U → GlobOK C (DD D ρ) ρ → InDL (DD D ρ) vs → Rel s0 U D ρ h w → Calls P f (concL ρ vs).toArray w (FnPost s0 U D ρ h w v h')
  yMono : ∀ l vs h v h', S.yield l vs h = some (v, h') → Mono h h'
  yield : ∀ l vs h v h', S.yield l vs h = some (v, h') → ∀ s0 U D ρ w, h'.next ≤ U → GlobOK C (DD D ρ) ρ → D l → InDL (DD D ρ) vs → Rel s0 U D ρ h w → YieldAt Fence.wide 0 P (ρ.l l).1 (concL ρ vs).toArray w (FnPost s0 U D ρ h w v h')
section
variable {P : Program} {C : Cfg} {S : Self} {s0 : World} {U : Nat} {D : Nat → Prop} {ρ : Env} {fr : Tr V} {a : Act} {w : World} {h : Heap}
theorem callV_mono (hS : SelfOK P C S) {o : Op} {v : V} {h' : Heap} (hc : callV S C fr h o = some (v, h')) : Mono h h' := by
  unfold callV at hc
  split at hc
  · split at hc
    · split at hc
      · split at hc
        · cases hc; exact Mono.refl _
        · cases hc
      · exact hS.fnMono _ _ _ _ _ hc
    · exact hS.yMono _ _ _ _ _ hc
    · cases hc
  · split at hc
    · split at hc
      · split at hc
        · cases hc
        · exact hS.fnMono _ _ _ _ _ hc
      · cases hc
    · cases hc
  · cases hc
theorem opV_mono (hS : SelfOK P C S) {o : Oper} {v : V} {h' : Heap} (ho : opV S C fr h o = some (v, h')) : Mono h h' := by
  unfold opV at ho
  split at ho
  · cases ho; exact Mono.refl _
  · split at ho
    · rename_i r hr
      cases ho
      exact mono_opH hr
    · exact callV_mono hS ho
theorem GlobOK.next {D' : Nat → Prop} {ρ' : Env} {h' : Heap} {w' : World} (g : GlobOK C (DD D ρ) ρ) (hl : ∀ i, D i → i < h.next ∨ U ≤ i) (hU : h'.next ≤ U) (n : Nxt D ρ h w D' ρ' h' w') : GlobOK C (DD D' ρ') ρ' := fun i hi => by
  obtain ⟨h1, h2, h3⟩ := g i hi
  obtain ⟨e1, e2, _⟩ := n.agree hl hU i 0 h1
  exact ⟨n.dd hl hU i 0 h1, e1.trans h2, e2.trans h3⟩
theorem FrE.next {D' : Nat → Prop} {ρ' : Env} {h' : Heap} {w' : World} (g : FrE C D ρ fr a) (hl : ∀ i, D i → i < h.next ∨ U ≤ i) (hU : h'.next ≤ U) (n : Nxt D ρ h w D' ρ' h' w') : FrE C D' ρ' fr a :=
  ⟨fun t v hv => by rw [conc_agree (n.agree hl hU) (g.in_ t v hv)]; exact g.at_ t v hv, fun t v hv => (g.in_ t v hv).mono (n.dd hl hU), GlobOK.next g.gl hl hU n⟩
theorem FrE.put {d : Option Tmp} {v : V} (g : FrE C D ρ fr a) (hd : dstOk a.tmps.size d = true) (hv : InD (DD D ρ) v) : FrE C D ρ (putT fr d v) (a.put d (conc ρ v)) := by
  cases d with
  | none => exact g
  | some t =>
    have ht : t < a.tmps.size := by simpa [dstOk] using hd
    refine ⟨fun u x hx => ?_, fun u x hx => ?_, g.gl⟩
    · simp only [putT, Tr.get_set] at hx
      simp only [Act.put, Array.getElem?_setIfInBounds]
      by_cases e : u = t
      · subst e
        rw [if_pos rfl] at hx; cases hx
        simp [ht]
      · rw [if_neg e] at hx
        rw [if_neg (fun e' => e e'.symm)]
        exact g.at_ u x hx
    · simp only [putT, Tr.get_set] at hx
      by_cases e : u = t
      · rw [if_pos e] at hx; cases hx; exact hv
      · rw [if_neg e] at hx; exact g.in_ u x hx
theorem wantV_spec {ops : Array Oper} {o : Oper} {b : Bool} (g : FrE C D ρ fr a) (hw : wantV ops fr o = some b) : Region.wanted o (yielded ops a.tmps) = b := by
  unfold wantV at hw
  unfold Region.wanted
  cases hg : o.guard with
  | none => simp [hg] at hw; simp [hw]
  | some p =>
    obtain ⟨j, c⟩ := p
    simp only [hg] at hw
    simp only [yielded]
    cases hj : (ops[j]?).bind (·.dst) with
    | none => simp [hj] at hw; simp [hw]
    | some t =>
      simp only [hj] at hw
      simp only [Option.bind_some]
      split at hw
      · rename_i d hd
        cases hw
        have := g.at_ t _ hd
        rw [this]; simp [conc]
      · rename_i x hx hd
        cases hw
        have := g.at_ t _ hd
        rw [this]
        cases x <;> simp [conc, slConc] <;> first | rfl | (exfalso; exact hx _ rfl)
      · cases hw
theorem opV_sound (hC : CfgOK P C) (hS : SelfOK P C S) {o : Oper} {r : Option Nat} {v : V} {h' : Heap} {K : Act → World → Prop} {Q : Exit → Act → World → Prop} (hn : noDefer o = true) (ho : opV S C fr h o = some (v, h')) (hU : h'.next ≤ U) (g : FrE C D ρ fr a) (rel : Rel s0 U D ρ h w)
    (k : ∀ D' ρ' w', Rel s0 U D' ρ' h' w' → Nxt D ρ h w D' ρ' h' w' → InD (DD D' ρ') v → K (a.put o.dst (conc ρ' v)) w') : o.wpIn (FF r) 0 P a w K Q := by
  unfold opV at ho
  split at ho
  · rename_i u hu
    cases ho
    obtain ⟨h1, h2⟩ := pure_sound hC g hu w
    exact op1_wpIn hn (.inl h1) (k D ρ w rel (Nxt.refl _ _ _ _) h2)
  · split at ho
    · rename_i r' hr
      cases ho
      obtain ⟨x, D', ρ', w', d⟩ := opH_sound hC g rel hr hU
      have hx := d.val
      subst hx
      exact op1_wpIn hn d.op (k D' ρ' w' d.rel d.nxt d.in_)
    · -- a call
      obtain ⟨dst, op, ty, pos, aft, gd⟩ := o
      simp only at ho
      unfold callV at ho
      split at ho
      · rename_i x xs ats hp0 hh0
        have hargs : ∀ vs, evL C fr xs.toList = some vs → xs.map a.eval = (concL ρ vs).toArray ∧ InDL (DD D ρ) vs := fun vs hvs => by
          obtain ⟨e1, e2⟩ := g.evs hvs
          exact ⟨by apply Array.toList_inj.1; simpa using e1, e2⟩
        split at ho
        · rename_i f fi ca vs hx hvs
          obtain ⟨e1, i1⟩ := g.ev hx
          obtain ⟨e2, i2⟩ := hargs vs hvs
          have hin : InDL (DD D ρ) (fi ++ vs ++ ca) := InDL_iff.2 fun y hy => by
            simp only [List.mem_append] at hy
            rcases hy with (h | h) | h
            · exact InDL_iff.1 i1.1 y h
            · exact InDL_iff.1 i2 y h
            · exact InDL_iff.1 i1.2 y h
          have hcl : (concL ρ fi).toArray ++ (concL ρ vs).toArray ++ (concL ρ ca).toArray = (concL ρ (fi ++ vs ++ ca)).toArray := by
            simp [concL_eq]
          have hres : ∀ R : Array Value → Sem Next, (execOp a.eval ⟨dst, .call ⟨.value x, xs, ats⟩, ty, pos, aft, gd⟩) = (do let d ← resolve a.eval ⟨.value x, xs, ats⟩ ty; invoke d.target d.args) := fun _ => rfl
          have hrun : (execOp a.eval ⟨dst, .call ⟨.value x, xs, ats⟩, ty, pos, aft, gd⟩).run P w = (callFunc f (concL ρ (fi ++ vs ++ ca)).toArray).run P w := by
            rw [hres (fun _ => pure .skip), ← hcl]
            simp only [resolve, e1, e2, conc, Deferred.ofValue, Sem.run_bind, Sem.run_pure, Result.andThen_ok, invoke]
          split at ho
          · rename_i e he
            split at ho
            · rename_i u hu
              cases ho
              obtain ⟨q1, q2⟩ := hC.ext f e he ρ _ _ hu
              exact op1_wpIn hn (.inl (by rw [hrun]; exact q1 w)) (k D ρ w rel (Nxt.refl _ _ _ _) (q2 _ hin))
            · cases ho
          · refine ⟨fun f _ => FF_fn r f, ?_⟩
            rw [Oper.semAt_plain _ _ _ (by intro c e; cases e), hrun, hS.fnEnter _ _ _ _ _ ho, Oper.uponIn_enter]
            refine ⟨by simp [FF_depth], ?_⟩
            refine (callsFF (r := r) (hS.fn _ _ _ _ _ ho s0 U D ρ w hU g.gl hin rel)).mono ?_
            rintro e w' ⟨D', ρ', rfl, q1, q2, q3⟩
            exact k D' ρ' w' q1 q2 q3
        · rename_i l vs hx hvs
          obtain ⟨e1, i1⟩ := g.ev hx
          obtain ⟨e2, i2⟩ := hargs vs hvs
          obtain ⟨fn, tmps, assign, body, hy, hR⟩ := hS.yield _ _ _ _ _ ho s0 U D ρ w hU g.gl i1.1 i2 rel
          refine ⟨fun f _ => FF_fn r f, ?_⟩
          have hrun : (execOp a.eval ⟨dst, .call ⟨.value x, xs, ats⟩, ty, pos, aft, gd⟩).run P w = .ok (.round (ρ.l l).1 fn tmps assign body) w := by
            simp only [execOp, resolve, e1, e2, conc, Deferred.ofValue, Sem.run_bind, Sem.run_pure, Result.andThen_ok, invoke]
            simpa using hy
          rw [Oper.semAt_plain _ _ _ (by intro c e; cases e), hrun, Oper.uponIn_round]
          refine ⟨by simp [FF_depth], ?_⟩
          have hR' : RoundIn (FF r) 0 P (ρ.l l).1 fn tmps assign body w (FnPost s0 U D ρ h w v h') :=
            ⟨FF_fn r fn, fun c cs _ => by have := hR.2 c cs (room_wide _); rwa [← fenced_FF r] at this⟩
          refine hR'.mono ?_
          rintro e w' ⟨D', ρ', rfl, q1, q2, q3⟩
          exact k D' ρ' w' q1 q2 q3
        · cases ho
      · rename_i x m xs ats hp0 hh0
        have hargs : ∀ vs, evL C fr xs.toList = some vs → xs.map a.eval = (concL ρ vs).toArray ∧ InDL (DD D ρ) vs := fun vs hvs => by
          obtain ⟨e1, e2⟩ := g.evs hvs
          exact ⟨by apply Array.toList_inj.1; simpa using e1, e2⟩
        split at ho
        · rename_i t u vs hx hvs
          obtain ⟨e1, i1⟩ := g.ev hx
          obtain ⟨e2, i2⟩ := hargs vs hvs
          split at ho
          · rename_i f hf
            split at ho
            · cases ho
            · have hin : InDL (DD D ρ) (u :: vs) := ⟨i1, i2⟩
              have hcl : #[conc ρ u] ++ (concL ρ vs).toArray = (concL ρ (u :: vs)).toArray := by simp [concL]
              have hrun : (execOp a.eval ⟨dst, .call ⟨.invoke x m, xs, ats⟩, ty, pos, aft, gd⟩).run P w = (callFunc f (concL ρ (u :: vs)).toArray).run P w := by
                have hex : (#[conc ρ (.iface t u)] ++ (concL ρ vs).toArray).extract 1 (#[conc ρ (.iface t u)] ++ (concL ρ vs).toArray).size = (concL ρ vs).toArray := by
                  apply Array.toList_inj.1; simp
                have h0 : (#[conc ρ (.iface t u)] ++ (concL ρ vs).toArray)[0]? = some (conc ρ (.iface t u)) := by simp
                show ((do let d ← resolve a.eval ⟨.invoke x m, xs, ats⟩ ty; invoke d.target d.args) : Sem Next).run P w = _
                simp only [resolve, e1, e2, Sem.run_bind, Sem.run_pure, Result.andThen_ok, invoke]
                rw [← hcl, ← hC.mt t m f hf (conc ρ u) (concL ρ vs).toArray w]
                simp only [h0, hex]
                rfl
              refine ⟨fun f _ => FF_fn r f, ?_⟩
              rw [Oper.semAt_plain _ _ _ (by intro c e; cases e), hrun, hS.fnEnter _ _ _ _ _ ho, Oper.uponIn_enter]
              refine ⟨by simp [FF_depth], ?_⟩
              refine (callsFF (r := r) (hS.fn _ _ _ _ _ ho s0 U D ρ w hU g.gl hin rel)).mono ?_
              rintro e w' ⟨D', ρ', rfl, q1, q2, q3⟩
              exact k D' ρ' w' q1 q2 q3
          · cases ho
        · cases ho
      · cases ho
end
end Go.Proofs.Ytgeelfdgnehdnaa
namespace Go.Proofs.Ytgeelfdgnehdnaa
open Go.RowKit
set_option linter.unusedSimpArgs false
set_option linter.unusedVariables false
noncomputable def mkD (ρ : Env) (d : Nat) : Deferred := { target := .collected (ρ.b d), args := #[] }
structure StR (C : Cfg) (s0 : World) (U N : Nat) (r : Option Nat) (tl : List Deferred) (D : Nat → Prop) (ρ : Env) (st : St) (a : Act) (w : World) : Prop where
  fr : FrE C D ρ st.fr a
  rel : Rel s0 U D ρ st.h w
  size : a.tmps.size = N
  defs : a.defers = st.ds.map (mkD ρ) ++ tl
  din : ∀ d ∈ st.ds, D d
  rd : st.rd = r.isSome
noncomputable def jumpTo (J : Nat → Act → World → Prop) (Q : Exit → Act → World → Prop) : Exit → Act → World → Prop
  | .goto l, a, w => J l a w
  | e, a, w => Q e a w
noncomputable def scopeIn (F : Fence) (n : Nat) (P : Program) (c : Code) (Q : Exit → Act → World → Prop) : Nat → Nat → Act → World → Prop
  | 0, _, _, _ => False
  | m + 1, l, a, w => ∃ rest, findLabel c l = some rest ∧ rest.wpIn F n P (jumpTo (scopeIn F n P c Q m) Q) a w
theorem wpIn_scope_in {F : Fence} {n : Nat} {P : Program} {Q : Exit → Act → World → Prop} {a : Act} {w : World} {c : Code} (m : Nat) (h : c.wpIn F n P (jumpTo (scopeIn F n P c Q m) Q) a w) : (Code.scope c).wpIn F n P Q a w := by
  intro b k cs hro hb hr
  have h0 : (lone (b.atR a (.code (.scope c) :: k)) cs w).fenced P F := fenced_calm hb hr rfl
  have s0 : step P (lone (b.atR a (.code (.scope c) :: k)) cs w) = .next (lone (b.atR a (.code c :: .inScope c :: k)) cs w) := step_lone_go (by simp [stepG, stepG.exec, Frame.atR])
  have s1 : ∀ a w, step P (lone (b.atR a (.inScope c :: k)) cs w) = .next (lone (b.atR a k) cs w) := fun a w => step_lone_go (by simp [stepG, stepG.exec, Frame.atR])
  have hx : ∀ id, exitTo id (.inScope c :: k) = exitTo id k := fun id => by simp [exitTo]
  have key : ∀ m (d : Code) a w, d.wpIn F n P (jumpTo (scopeIn F n P c Q m) Q) a w → ∃ e a' w', Q e a' w' ∧ ArrivesIn (Machine.fenced P F) P (lone (b.atR a (.code d :: .inScope c :: k)) cs w) b k cs e a' w' := by
    intro m
    induction m with
    | zero =>
      intro d a w h
      obtain ⟨e, a₁, w₁, hq, harr⟩ := h b (.inScope c :: k) cs hro hb hr
      cases e with
      | normal => exact ⟨.normal, a₁, w₁, hq, StepsIn.trans harr (.one (fenced_calm hb hr rfl) (s1 _ _))⟩
      | exit id => exact ⟨.exit id, a₁, w₁, hq, fun k' hk => harr.1 k' (by rw [hx]; exact hk), fun hr' hk => harr.2 hr' (by rw [hx]; exact hk)⟩
      | goto l => exact hq.elim
      | ret => exact ⟨_, a₁, w₁, hq, harr⟩
      | panic ch => exact ⟨_, a₁, w₁, hq, harr⟩
      | outgrown => exact ⟨_, a₁, w₁, hq, harr⟩
    | succ m ih =>
      intro d a w h
      obtain ⟨e, a₁, w₁, hq, harr⟩ := h b (.inScope c :: k) cs hro hb hr
      cases e with
      | normal => exact ⟨.normal, a₁, w₁, hq, StepsIn.trans harr (.one (fenced_calm hb hr rfl) (s1 _ _))⟩
      | exit id => exact ⟨.exit id, a₁, w₁, hq, fun k' hk => harr.1 k' (by rw [hx]; exact hk), fun hr' hk => harr.2 hr' (by rw [hx]; exact hk)⟩
      | goto l =>
        obtain ⟨rest, hf, hw⟩ := hq
        obtain ⟨e₂, a₂, w₂, hq₂, harr₂⟩ := ih rest a₁ w₁ hw
        have hg : gotoIn l (.inScope c :: k) = some (.code rest :: .inScope c :: k) := by simp [gotoIn, hf]
        exact ⟨e₂, a₂, w₂, hq₂, .of_steps (harr.1 _ hg) harr₂⟩
      | ret => exact ⟨_, a₁, w₁, hq, harr⟩
      | panic ch => exact ⟨_, a₁, w₁, hq, harr⟩
      | outgrown => exact ⟨_, a₁, w₁, hq, harr⟩
  obtain ⟨e, a', w', hq, harr⟩ := key m c a w h
  exact ⟨e, a', w', hq, .of_steps (.one h0 s0) harr⟩
section
variable {P : Program} {C : Cfg} {S : Self} {s0 : World} {U : Nat} {D : Nat → Prop} {ρ : Env} {fr : Tr V} {a : Act} {w : World} {h : Heap}
theorem evalOps_sound (hC : CfgOK P C) (hS : SelfOK P C S) {N : Nat} {ops : Array Oper} {X : List Deferred} {r : Option Nat} {Q : Exit → Act → World → Prop} : ∀ (l : List Oper) (fr : Tr V) (h : Heap) (fr' : Tr V) (h' : Heap), evalOps S C ops l fr h = some (fr', h') → (∀ o ∈ l, noDefer o = true ∧ dstOk N o.dst = true) →
    Mono h h' ∧ ∀ D ρ a w, h'.next ≤ U → FrE C D ρ fr a → Rel s0 U D ρ h w → a.tmps.size = N → a.defers = X →
      (∀ D' ρ' a' w', FrE C D' ρ' fr' a' → Rel s0 U D' ρ' h' w' → Nxt D ρ h w D' ρ' h' w' → a'.tmps.size = N → a'.defers = X → Q .normal a' w') → wpListIn (FF r) 0 P ops Q l a w
  | [], fr, h, fr', h', he, _ => by
    simp only [evalOps, Option.some.injEq, Prod.mk.injEq] at he
    obtain ⟨rfl, rfl⟩ := he
    exact ⟨Mono.refl _, fun D ρ a w _ g rel hs hd k => by unfold wpListIn; exact k D ρ a w g rel (Nxt.refl _ _ _ _) hs hd⟩
  | o :: l, fr, h, fr', h', he, hl => by
    obtain ⟨hn, hd⟩ := hl o (by simp)
    simp only [evalOps] at he
    split at he
    · rename_i hw
      split at he
      · rename_i v h1 ho
        obtain ⟨m2, ih⟩ := evalOps_sound hC hS (X := X) (r := r) (Q := Q) l _ _ _ _ he (fun o ho => hl o (by simp [ho]))
        have m1 := opV_mono hS ho
        refine ⟨m1.trans m2, fun D ρ a w hU g rel hs hdf k => ?_⟩
        unfold wpListIn
        rw [wantV_spec g hw, if_pos rfl]
        have hU1 := Nat.le_trans m2.nxt hU
        refine opV_sound hC hS hn ho hU1 g rel fun D1 ρ1 w1 rel1 n1 in1 => ?_
        refine ih D1 ρ1 _ w1 hU ((g.next rel.lt hU1 n1).put (by rw [hs]; exact hd) in1) rel1 (by cases o.dst <;> simp [Act.put, hs]) (by cases o.dst <;> simp [Act.put, hdf]) ?_
        exact fun D' ρ' a' w' q1 q2 q3 q4 q5 => k D' ρ' a' w' q1 q2 (n1.trans rel.lt hU q3) q4 q5
      · cases he
    · rename_i hw
      obtain ⟨m2, ih⟩ := evalOps_sound hC hS (X := X) (r := r) (Q := Q) l _ _ _ _ he (fun o ho => hl o (by simp [ho]))
      refine ⟨m2, fun D ρ a w hU g rel hs hdf k => ?_⟩
      unfold wpListIn
      rw [wantV_spec g hw, if_neg (by simp)]
      refine ⟨fun f _ => FF_fn r f, ih D ρ _ w hU (g.put (v := .undef) (by rw [hs]; exact hd) trivial) rel (by cases o.dst <;> simp [Act.put, hs]) (by cases o.dst <;> simp [Act.put, hdf]) k⟩
    · cases he
noncomputable def CodeSound (P : Program) (C : Cfg) (N : Nat) (ev : St → Option (Exit × St)) (W : Option Nat → (Exit → Act → World → Prop) → Act → World → Prop) : Prop :=
  ∀ st x st', ev st = some (x, st') → Mono st.h st'.h ∧ ∀ s0 U r tl D ρ a w Q, st'.h.next ≤ U → StR C s0 U N r tl D ρ st a w →
    (∀ D' ρ' a' w', StR C s0 U N r tl D' ρ' st' a' w' → Nxt D ρ st.h w D' ρ' st'.h w' → Q x a' w') → W r Q a w
structure FlowOK (P : Program) (C : Cfg) (F : Flow) where
  m : Nat
  loop : ∀ N c, codeOK N c = true → CodeSound P C N (F.loop c) (fun r Q a w => Code.roundsIn (FF r) 0 P c Q m a w)
  scope : ∀ N c l, codeOK N c = true → CodeSound P C N (F.scope c l) (fun r Q a w => scopeIn (FF r) 0 P c Q m l a w)
noncomputable def RegionSound (P : Program) (C : Cfg) (S : Self) : Prop := ∀ (N : Nat) (ops : Array Oper) (id : Nat) (fr : Tr V) (h : Heap) (fr' : Tr V) (h' : Heap), flowB N ops.toList ops.size = true → evalFlow S C ops ops.toList 0 [] fr h = some (fr', h') →
  Mono h h' ∧ ∀ s0 U r D ρ a w X Q, h'.next ≤ U → FrE C D ρ fr a → Rel s0 U D ρ h w → a.tmps.size = N → a.defers = X →
    (∀ D' ρ' a' w', FrE C D' ρ' fr' a' → Rel s0 U D' ρ' h' w' → Nxt D ρ h w D' ρ' h' w' → a'.tmps.size = N → a'.defers = X → Q .normal a' w') → (Code.region id ops true).wpIn (FF r) 0 P Q a w
theorem Rel.gone (r : Rel s0 U D ρ h w) {i : Nat} {b : Blk} {o' : Obj} {w' : World} (hi : D i) (hb : h.get i = some b) (ho : b.own = true) (t : Turned (ρ.b i) o' w w') : Rel s0 U D ρ (h.kill i) w' ∧ Nxt D ρ h w D ρ (h.kill i) w' := by
  have get : ∀ j c, (h.kill i).get j = some c → j ≠ i ∧ h.get j = some c := fun j c hc => by
    rw [Heap.get_kill] at hc
    split at hc
    · cases hc
    · rename_i e; exact ⟨e, hc⟩
  have hil := r.blt hb
  have hw := wmin_le h.wmin i
  have hs := r.own i b hi hb ho
  have ne : ∀ j c, D j → j ≠ i → h.get j = some c → ρ.b j ≠ ρ.b i := fun j c hj hji hc e => by
    by_cases hoc : c.own = true
    · exact r.inj j i c b hj hi hc hb hoc ho hji e
    · exact r.old j i c b hj hi hc hb (by simpa using hoc) ho e
  refine ⟨⟨r.lt, fun j hj => ?_, fun j c hj hc => ?_, fun j c hj hc => r.clo j c hj (get j c hc).2, fun j k c d hj hk hc hd => r.inj j k c d hj hk (get _ _ hc).2 (get _ _ hd).2, fun j c hj hc => r.own j c hj (get _ _ hc).2, fun j k c d hj hk hc hd => r.old j k c d hj hk (get _ _ hc).2 (get _ _ hd).2, ?_⟩, ?_⟩
  · have hj : h.next ≤ j := hj
    rw [Heap.get_kill]
    split
    · rfl
    · exact r.wf j hj
  · obtain ⟨h1, h2⟩ := get j c hc
    obtain ⟨o, q1, q2⟩ := r.has j c hj h2
    exact ⟨o, by rw [t.other _ (ne j c hj h1 h2)]; exact q1, q2⟩
  · exact ⟨t.os.trans r.base.os, t.tape.trans r.base.tape, t.output.trans r.base.output, by rw [t.size]; exact r.base.size, fun k hk => (t.other k (by omega)).trans (r.base.block k hk)⟩
  · refine ⟨fun _ h => h, fun _ h => .inl h, fun _ _ => ⟨rfl, rfl, rfl, rfl⟩, fun c _ hno => t.other c fun e => hno i hi hw.2 hil e.symm, fun j _ hn hl => ?_, Nat.le_of_eq t.size.symm, hw.1, Nat.le_refl _, t.os, t.tape, t.output⟩
    have hl : j < h.next := hl
    omega
theorem StR.next {N : Nat} {r : Option Nat} {tl : List Deferred} {st : St} {D' : Nat → Prop} {ρ' : Env} {h' : Heap} {w' : World} (g : StR C s0 U N r tl D ρ st a w) (hU : h'.next ≤ U) (n : Nxt D ρ st.h w D' ρ' h' w') (rel : Rel s0 U D' ρ' h' w') : StR C s0 U N r tl D' ρ' ⟨st.fr, h', st.ds, st.rd⟩ a w' := by
  refine ⟨g.fr.next g.rel.lt hU n, rel, g.size, ?_, fun d hd => n.sub d (g.din d hd), g.rd⟩
  rw [g.defs]
  refine congrArg (· ++ tl) (List.map_congr_left fun d hd => ?_)
  have := n.agree g.rel.lt hU d 0 ⟨g.din d hd, Nat.zero_le _⟩
  simp [mkD, this.1]
theorem endRange_mono {st : St} {Dd l : Nat} {x : Exit} {st' : St} (he : endRange st Dd l h = some (x, st')) : Mono h st'.h := by
  unfold endRange at he
  split at he <;> first | (cases he; done) | (cases he; exact mono_kill _ _)
theorem code_sound (hC : CfgOK P C) (hS : SelfOK P C S) {F : Flow} (hF : FlowOK P C F) (hR : RegionSound P C S) {N : Nat} : ∀ c : Code, codeOK N c = true → CodeSound P C N (evalCode S F C c) (fun r Q a w => c.wpIn (FF r) 0 P Q a w)
  | .skip, _ => fun st x st' he => by
    simp only [evalCode, Option.some.injEq, Prod.mk.injEq] at he
    obtain ⟨rfl, rfl⟩ := he
    exact ⟨Mono.refl _, fun s0 U r tl D ρ a w Q hU g k => wpIn_skip (k D ρ a w g (Nxt.refl _ _ _ _))⟩
  | .label _, _ => fun st x st' he => by
    simp only [evalCode, Option.some.injEq, Prod.mk.injEq] at he
    obtain ⟨rfl, rfl⟩ := he
    exact ⟨Mono.refl _, fun s0 U r tl D ρ a w Q hU g k => wpIn_label (k D ρ a w g (Nxt.refl _ _ _ _))⟩
  | .exit id, _ => fun st x st' he => by
    simp only [evalCode, Option.some.injEq, Prod.mk.injEq] at he
    obtain ⟨rfl, rfl⟩ := he
    exact ⟨Mono.refl _, fun s0 U r tl D ρ a w Q hU g k => wpIn_exit (k D ρ a w g (Nxt.refl _ _ _ _))⟩
  | .goto id, _ => fun st x st' he => by
    simp only [evalCode, Option.some.injEq, Prod.mk.injEq] at he
    obtain ⟨rfl, rfl⟩ := he
    exact ⟨Mono.refl _, fun s0 U r tl D ρ a w Q hU g k => wpIn_goto (k D ρ a w g (Nxt.refl _ _ _ _))⟩
  | .ret, _ => fun st x st' he => by
    simp only [evalCode, Option.some.injEq, Prod.mk.injEq] at he
    obtain ⟨rfl, rfl⟩ := he
    exact ⟨Mono.refl _, fun s0 U r tl D ρ a w Q hU g k => wpIn_ret (k D ρ a w g (Nxt.refl _ _ _ _))⟩
  | .refuse _, _ => fun st x st' he => by simp [evalCode] at he
  | .seq c d, hok => fun st x st' he => by
    simp only [codeOK, Bool.and_eq_true] at hok
    have s1 := code_sound hC hS hF hR c hok.1
    have s2 := code_sound hC hS hF hR d hok.2
    simp only [evalCode] at he
    split at he
    · rename_i st1 h1
      obtain ⟨m1, k1⟩ := s1 _ _ _ h1
      obtain ⟨m2, k2⟩ := s2 _ _ _ he
      refine ⟨m1.trans m2, fun s0 U r tl D ρ a w Q hU g k => wpIn_seq (k1 s0 U r tl D ρ a w _ (Nat.le_trans m2.nxt hU) g fun D1 ρ1 a1 w1 g1 n1 => ?_)⟩
      exact k2 s0 U r tl D1 ρ1 a1 w1 Q hU g1 fun D2 ρ2 a2 w2 g2 n2 => k D2 ρ2 a2 w2 g2 (n1.trans g.rel.lt hU n2)
    · rename_i hne
      obtain ⟨m1, k1⟩ := s1 _ _ _ he
      refine ⟨m1, fun s0 U r tl D ρ a w Q hU g k => wpIn_seq (k1 s0 U r tl D ρ a w _ hU g fun D1 ρ1 a1 w1 g1 n1 => ?_)⟩
      have hq := k D1 ρ1 a1 w1 g1 n1
      cases x with
      | normal => exact absurd he (hne st')
      | _ => exact hq
  | .cond c x y, hok => fun st e st' he => by
    simp only [codeOK, Bool.and_eq_true] at hok
    simp only [evalCode] at he
    split at he
    · rename_i hc
      obtain ⟨m1, k1⟩ := code_sound hC hS hF hR x hok.1 _ _ _ he
      refine ⟨m1, fun s0 U r tl D ρ a w Q hU g k => wpIn_cond_true ?_ (k1 s0 U r tl D ρ a w Q hU g k)⟩
      have := (g.fr.ev hc).1
      simpa [conc] using this
    · rename_i hc
      obtain ⟨m1, k1⟩ := code_sound hC hS hF hR y hok.2 _ _ _ he
      refine ⟨m1, fun s0 U r tl D ρ a w Q hU g k => wpIn_cond_false ?_ (k1 s0 U r tl D ρ a w Q hU g k)⟩
      have := (g.fr.ev hc).1
      simpa [conc] using this
    · cases he
  | .block id c, hok => fun st x st' he => by
    simp only [codeOK] at hok
    have s1 := code_sound hC hS hF hR c hok
    simp only [evalCode] at he
    split at he
    · rename_i id' st1 h1
      obtain ⟨m1, k1⟩ := s1 _ _ _ h1
      split at he
      · rename_i hid
        rw [Nat.beq_eq] at hid
        cases he
        refine ⟨m1, fun s0 U r tl D ρ a w Q hU g k => wpIn_block (k1 s0 U r tl D ρ a w _ hU g fun D1 ρ1 a1 w1 g1 n1 => ?_)⟩
        simp only [Exit.inBlock, hid, if_true]
        exact k D1 ρ1 a1 w1 g1 n1
      · rename_i hid
        have hid : ¬ id' = id := fun e => by rw [beq_t e] at hid; cases hid
        cases he
        refine ⟨m1, fun s0 U r tl D ρ a w Q hU g k => wpIn_block (k1 s0 U r tl D ρ a w _ hU g fun D1 ρ1 a1 w1 g1 n1 => ?_)⟩
        simp only [Exit.inBlock, hid, if_false]
        exact k D1 ρ1 a1 w1 g1 n1
    · rename_i hne
      obtain ⟨m1, k1⟩ := s1 _ _ _ he
      refine ⟨m1, fun s0 U r tl D ρ a w Q hU g k => wpIn_block (k1 s0 U r tl D ρ a w _ hU g fun D1 ρ1 a1 w1 g1 n1 => ?_)⟩
      have hq := k D1 ρ1 a1 w1 g1 n1
      cases x with
      | exit id' => exact absurd he (hne id' st')
      | _ => exact hq
  | .loop c, hok => fun st x st' he => by
    simp only [codeOK] at hok
    simp only [evalCode] at he
    obtain ⟨m1, k1⟩ := hF.loop N c hok _ _ _ he
    exact ⟨m1, fun s0 U r tl D ρ a w Q hU g k => wpIn_loop_rounds _ (k1 s0 U r tl D ρ a w Q hU g k)⟩
  | .scope c, hok => fun st x st' he => by
    simp only [codeOK] at hok
    have s1 := code_sound hC hS hF hR c hok
    simp only [evalCode] at he
    split at he
    · rename_i l st1 h1
      obtain ⟨m1, k1⟩ := s1 _ _ _ h1
      obtain ⟨m2, k2⟩ := hF.scope N c l hok _ _ _ he
      refine ⟨m1.trans m2, fun s0 U r tl D ρ a w Q hU g k => wpIn_scope_in hF.m (k1 s0 U r tl D ρ a w _ (Nat.le_trans m2.nxt hU) g fun D1 ρ1 a1 w1 g1 n1 => ?_)⟩
      exact k2 s0 U r tl D1 ρ1 a1 w1 Q hU g1 fun D2 ρ2 a2 w2 g2 n2 => k D2 ρ2 a2 w2 g2 (n1.trans g.rel.lt hU n2)
    · rename_i hne
      obtain ⟨m1, k1⟩ := s1 _ _ _ he
      refine ⟨m1, fun s0 U r tl D ρ a w Q hU g k => wpIn_scope_in hF.m (k1 s0 U r tl D ρ a w _ hU g fun D1 ρ1 a1 w1 g1 n1 => ?_)⟩
      have hq := k D1 ρ1 a1 w1 g1 n1
      cases x with
      | goto l => exact absurd he (hne l st')
      | _ => exact hq
  | .region id ops dr, hok => fun st x st' he => by
    simp only [codeOK, Bool.and_eq_true] at hok
    cases dr with
    | false =>
      simp only [evalCode] at he
      split at he
      · rename_i fr h he1
        cases he
        have hall : ∀ o ∈ ops.toList, noDefer o = true ∧ dstOk N o.dst = true := fun o ho => by
          have := List.all_eq_true.1 hok.1 o ho
          simpa using this
        have m1 := (evalOps_sound (s0 := default) (U := 0) (X := []) (r := none) (Q := fun _ _ _ => True) hC hS ops.toList _ _ _ _ he1 hall).1
        refine ⟨m1, fun s0 U r tl D ρ a w Q hU g k => ?_⟩
        have k1 := (evalOps_sound (s0 := s0) (U := U) (X := a.defers) (r := r) (Q := Q) hC hS ops.toList _ _ _ _ he1 hall).2 D ρ a w hU g.fr g.rel g.size rfl fun D' ρ' a' w' q1 q2 q3 q4 q5 => by
          refine k D' ρ' a' w' ?_ q3
          have := g.next hU q3 q2
          exact ⟨q1, q2, q4, by rw [q5]; exact this.defs, this.din, g.rd⟩
        have e : ops = ops.toList.toArray := by simp
        rw [e]
        exact wpIn_region_lit (by rw [← e]; exact k1)
      · cases he
    | true =>
      simp only [evalCode] at he
      split at he
      · rename_i fr h he1
        cases he
        have hb : flowB N ops.toList ops.size = true := by simpa using hok.2
        obtain ⟨m1, k1⟩ := hR N ops id _ _ _ _ hb he1
        refine ⟨m1, fun s0 U r tl D ρ a w Q hU g k => ?_⟩
        refine k1 s0 U r D ρ a w a.defers Q hU g.fr g.rel g.size rfl fun D' ρ' a' w' q1 q2 q3 q4 q5 => ?_
        refine k D' ρ' a' w' ?_ q3
        have := g.next hU q3 q2
        exact ⟨q1, q2, q4, by rw [q5]; exact this.defs, this.din, g.rd⟩
      · cases he
  | .rangeFunc gop ps asg bd, hok => fun st x st' he => by
    simp only [codeOK, Bool.and_eq_true] at hok
    simp only [evalCode] at he
    split at he
    · rename_i gf cs hrd hg
      split at he
      · rename_i u h3 hcall
        have m1 := hS.fnMono _ _ _ _ _ hcall
        have m2 := endRange_mono he
        refine ⟨((mono_push _ _).trans (mono_push _ _)).trans (m1.trans m2), fun s0 U r tl D ρ a w Q hU gg k => ?_⟩
        have hrn : r = none := by
          have := gg.rd
          rw [hrd] at this
          cases r with
          | none => rfl
          | some l => cases this
        subst hrn
        obtain ⟨hev, hcin⟩ := gg.fr.ev hg
        have hU3 : h3.next ≤ U := Nat.le_trans m2.nxt hU
        have hU2 : st.h.next + 1 + 1 ≤ U := Nat.le_trans m1.nxt hU3
        refine wpIn_rangeFunc (F := FF none) (n := 0) ?_
        intro fn _
        -- the two blocks
        obtain ⟨r1, n1⟩ := gg.rel.push (b := .dfr false) (o := .deferred (some [])) (pre := 0) (cap := 0) (by omega) (below_alloc w _) (heap_alloc_new w _) rfl trivial rfl
        have hag1 := n1.agree gg.rel.lt (U := U) (by show st.h.next + 1 ≤ U; omega)
        have hdd1 := n1.dd gg.rel.lt (U := U) (by show st.h.next + 1 ≤ U; omega)
        have hb1 : (ρ.add st.h.next w.heap.size 0 0).b st.h.next = w.heap.size := by simp [Env.add]
        obtain ⟨W1, hW1⟩ : ∃ W1, (w.alloc (.deferred (some []))).alloc (.loop { state := .ready, pending := none, fn, tmps := a.tmps, params := ps, assign := asg, body := bd, defers := w.heap.size }) = W1 := ⟨_, rfl⟩
        have hsz1 : (w.alloc (.deferred (some []))).heap.size = w.heap.size + 1 := by simp
        have hne : st.h.next + 1 ≠ st.h.next := by omega
        obtain ⟨r2, n2⟩ := r1.push (b := .loop .ready none st.fr ps asg bd st.h.next) (o := .loop { state := .ready, pending := none, fn, tmps := a.tmps, params := ps, assign := asg, body := bd, defers := w.heap.size }) (pre := 0) (cap := 0) (by exact hU2) (below_alloc _ _) (heap_alloc_new _ _) rfl
          ⟨fun t v hv => (gg.fr.in_ t v hv).mono hdd1, .inr rfl, Nat.zero_le _⟩
          ⟨fn, a.tmps, by simp [Env.add, Heap.push], fun t v hv => by
            have hx := gg.fr.at_ t v hv
            have hi := gg.fr.in_ t v hv
            rw [hx]
            congr 1
            rw [conc_agree (Env.add_agree (r1.next_new (by exact hU2))) (hi.mono hdd1), conc_agree hag1 hi], by simp [Env.add], fun p hp => by
            have := List.all_eq_true.1 hok.1.1 p hp
            rw [gg.size]; simpa using this, by rw [gg.size]; exact hok.1.2, by rw [gg.size]; exact hok.2⟩
        rw [hsz1] at r2 n2
        rw [hW1] at r2 n2
        have n12 := n1.trans gg.rel.lt (by exact hU2) n2
        have hag2 := n12.agree gg.rel.lt (U := U) (by exact hU2)
        have hdd2 := n12.dd gg.rel.lt (U := U) (by exact hU2)
        refine ⟨w.heap.size + 1, [{ target := .collected w.heap.size, args := #[] }], W1, { target := .fn (.func gf) (concL ρ cs).toArray, args := #[.func (.yield (w.heap.size + 1)) #[] #[]] }, W1, gf,
          #[.func (.yield (w.heap.size + 1)) #[] #[]] ++ (concL ρ cs).toArray, W1, ?_, ?_, ?_, ?_, (by simp [FF_depth]), ?_⟩
        · rw [← hW1]; exact run_enterLoop_outer _ _ _ _ _
        · simp only [resolve, hev, conc]
          simp [go_sem, concL]
        · intro f' _; exact FF_fn none f'
        · simp [invoke, go_sem, hS.fnEnter _ _ _ _ _ hcall]
        · refine callsIn_FF (callsIn_wide.2 ?_)
          have hargs : (concL ((ρ.add st.h.next w.heap.size 0 0).add (st.h.next + 1) (w.heap.size + 1) 0 0) ([.yield (st.h.next + 1)] ++ cs)).toArray = #[.func (.yield (w.heap.size + 1)) #[] #[]] ++ (concL ρ cs).toArray := by
            have := concL_agree hag2 (l := cs) hcin.2
            simp only [List.singleton_append, concL]
            have e : concL ((ρ.add st.h.next w.heap.size 0 0).add (st.h.next + 1) (w.heap.size + 1) 0 0) cs = concL ρ cs := this
            rw [e]
            apply Array.ext'
            simp [conc, Env.add]
          have hgl := GlobOK.next gg.fr.gl gg.rel.lt (by exact hU2) n12
          have key := hS.fn _ _ _ _ _ hcall s0 U _ _ W1 hU3 hgl ⟨⟨.inr rfl, Nat.zero_le _⟩, InDL.mono hdd2 hcin.2⟩ r2
          have hargs' : (concL ((ρ.add st.h.next w.heap.size 0 0).add (st.h.push (.dfr false)).next (w.heap.size + 1) 0 0) ([.yield (st.h.next + 1)] ++ cs)).toArray = #[.func (.yield (w.heap.size + 1)) #[] #[]] ++ (concL ρ cs).toArray := hargs
          rw [hargs'] at key
          refine key.mono ?_
          rintro e w3 ⟨D3, ρ3, rfl, r3, n3, _⟩
          have n13 := n12.trans gg.rel.lt hU3 n3
          have hlD : D3 (st.h.next + 1) := n3.sub _ (.inr rfl)
          have hbl : ρ3.b (st.h.next + 1) = w.heap.size + 1 := by
            have := (n3.env (st.h.next + 1) (.inl (by show st.h.next + 1 < st.h.next + 1 + 1; omega))).1
            rw [this]; simp [Env.add, Heap.push]
          have hbd : ρ3.b st.h.next = w.heap.size := by
            have := (n3.env st.h.next (.inl (by show st.h.next < st.h.next + 1 + 1; omega))).1
            rw [this]; simp [Env.add, Heap.push]
          have hdD : D3 st.h.next := n3.sub _ (.inl (.inr rfl))
          -- its end
          have fin : ∀ (stt : LoopState) (pe : Option Code) fr' ps' as' bd' d', stt ≠ .busy → h3.get (st.h.next + 1) = some (.loop stt pe fr' ps' as' bd' d') →
              ∃ w4, (Instr.endLoop (w.heap.size + 1)).run P w3 = .ok pe w4 ∧ (∀ stx : Exit, st' = ⟨st.fr, h3.kill (st.h.next + 1), st.h.next :: st.ds, st.rd⟩ → x = stx → Q stx { a with defers := [{ target := .collected w.heap.size, args := #[] }] ++ a.defers } w4) := fun stt pe fr' ps' as' bd' d' hb hget => by
            obtain ⟨o, q1, q2⟩ := r3.has _ _ hlD hget
            obtain ⟨fn', tmps', rfl, _, _, _, _, _⟩ := q2
            rw [hbl] at q1
            refine ⟨_, run_endLoop q1 hb, fun stx hst hx => ?_⟩
            subst hst
            subst hx
            have ht := turned_putObj (w := w3) (b := w.heap.size + 1) (.loop { state := .exhausted, pending := pe, fn := fn', tmps := tmps', params := ps', assign := as', body := bd', defers := ρ3.b d' }) (Array.getElem?_eq_some_iff.1 q1).1
            rw [← hbl] at ht
            obtain ⟨r4, n4⟩ := r3.gone hlD hget rfl ht
            rw [hbl] at r4 n4
            have n14 := n13.trans gg.rel.lt (by exact hU3) n4
            have g4 := gg.next (by exact hU3) n14 r4
            refine k D3 ρ3 _ _ ⟨⟨g4.fr.at_, g4.fr.in_, g4.fr.gl⟩, r4, gg.size, ?_, fun d hd => ?_, gg.rd⟩ n14
            · simp only [List.map_cons, List.singleton_append]
              rw [g4.defs]
              simp [mkD, hbd]
            · rcases List.mem_cons.1 hd with rfl | hd
              · exact hdD
              · exact n13.sub d (gg.din d hd)
          unfold endRange at he
          split at he
          · rename_i hget
            cases he
            obtain ⟨w4, q1, q2⟩ := fin _ _ _ _ _ _ _ (by simp) hget
            exact ⟨none, w4, q1, q2 _ rfl rfl⟩
          · rename_i hget
            cases he
            obtain ⟨w4, q1, q2⟩ := fin _ _ _ _ _ _ _ (by simp) hget
            exact ⟨some .ret, w4, q1, wpIn_ret (q2 _ rfl rfl)⟩
          · rename_i hget
            cases he
            obtain ⟨w4, q1, q2⟩ := fin _ _ _ _ _ _ _ (by simp) hget
            exact ⟨_, w4, q1, wpIn_exit (q2 _ rfl rfl)⟩
          · rename_i hget
            cases he
            obtain ⟨w4, q1, q2⟩ := fin _ _ _ _ _ _ _ (by simp) hget
            exact ⟨_, w4, q1, wpIn_goto (q2 _ rfl rfl)⟩
          · cases he
      · cases he
    · cases he
end
end Go.Proofs.Ytgeelfdgnehdnaa
namespace Go.Proofs.Ytgeelfdgnehdnaa
open Go.RowKit
set_option linter.unusedSimpArgs false
set_option linter.unusedVariables false
section
variable {C : Cfg} {fr fr' : Tr V}
theorem evL_congr : ∀ {l : List Operand}, (∀ x ∈ l, evV C fr x = evV C fr' x) → evL C fr l = evL C fr' l
  | [], _ => rfl
  | x :: l, h => by simp only [evL, h x (by simp), evL_congr (l := l) fun y hy => h y (by simp [hy])]
theorem bndI_congr {d : Nat} {x : Option Operand} (h : ∀ y, x = some y → evV C fr y = evV C fr' y) : bndI C fr d x = bndI C fr' d x := by
  cases x with
  | none => rfl
  | some y => simp only [bndI, h y rfl]
theorem fillV_congr {t : TypeId} : ∀ {l : List (Nat × Operand)} {v : V}, (∀ p ∈ l, evV C fr p.2 = evV C fr' p.2) → fillV C fr t v l = fillV C fr' t v l
  | [], _, _ => rfl
  | (i, x) :: l, v, h => by
    simp only [fillV, h (i, x) (by simp)]
    have ih := fun v => fillV_congr (t := t) (l := l) (v := v) fun p hp => h p (by simp [hp])
    repeat' split
    all_goals first | rfl | exact ih _
theorem fillE_congr {e : Nat} : ∀ {l : List (Nat × Operand)} {v : V}, (∀ p ∈ l, evV C fr p.2 = evV C fr' p.2) → fillE C fr e v l = fillE C fr' e v l
  | [], _, _ => rfl
  | (i, x) :: l, v, h => by
    simp only [fillE, h (i, x) (by simp)]
    have ih := fun v => fillE_congr (e := e) (l := l) (v := v) fun p hp => h p (by simp [hp])
    repeat' split
    all_goals first | rfl | exact ih _
theorem pureV_congr {rt : TypeId} (o : Op) (h : ∀ x ∈ o.operands, evV C fr x = evV C fr' x) : pureV C fr rt o = pureV C fr' rt o := by
  cases o <;> simp only [Op.operands] at h
  case unOp op t x =>
    have h1 := h x (by simp)
    cases op <;> simp only [pureV, pvPick, pvExtract, pvNilcheck, pvUnopNot, pvUnopNeg, pvUnopXor, pvBinop, pvConvert, pvMakefunc, pvBuild, pvField, pvFieldaddr, pvIndexaddr, pvIndex, pvSlice, pvMakeinterface, pvAssert, pvLen, pvMin, pvMax, h1]
  case makeFunc fn first captured =>
    have h1 := evL_congr (C := C) (fr := fr) (fr' := fr') (l := first.toList) fun x hx => h x (by simp at hx; simp [hx])
    have h2 := evL_congr (C := C) (fr := fr) (fr' := fr') (l := captured.toList) fun x hx => h x (by simp at hx; simp [hx])
    cases fn <;> simp only [pureV, pvPick, pvExtract, pvNilcheck, pvUnopNot, pvUnopNeg, pvUnopXor, pvBinop, pvConvert, pvMakefunc, pvBuild, pvField, pvFieldaddr, pvIndexaddr, pvIndex, pvSlice, pvMakeinterface, pvAssert, pvLen, pvMin, pvMax, h1, h2]
  case build t ps =>
    have h1 := fun v => fillV_congr (C := C) (fr := fr) (fr' := fr') (t := t) (l := ps.toList) (v := v) fun p hp => h p.2 (by simp at hp; simp; exact ⟨p.1, hp⟩)
    simp only [pureV, pvPick, pvExtract, pvNilcheck, pvUnopNot, pvUnopNeg, pvUnopXor, pvBinop, pvConvert, pvMakefunc, pvBuild, pvField, pvFieldaddr, pvIndexaddr, pvIndex, pvSlice, pvMakeinterface, pvAssert, pvLen, pvMin, pvMax, h1]
  case slice t x lo hi mx =>
    have h1 := h x (by simp)
    have h2 := fun d => bndI_congr (C := C) (fr := fr) (fr' := fr') (d := d) (x := lo) fun y hy => h y (by simp [hy])
    have h3 := fun d => bndI_congr (C := C) (fr := fr) (fr' := fr') (d := d) (x := hi) fun y hy => h y (by simp [hy])
    cases mx with
    | none => simp only [pureV, pvPick, pvExtract, pvNilcheck, pvUnopNot, pvUnopNeg, pvUnopXor, pvBinop, pvConvert, pvMakefunc, pvBuild, pvField, pvFieldaddr, pvIndexaddr, pvIndex, pvSlice, pvMakeinterface, pvAssert, pvLen, pvMin, pvMax, h1, h2, h3]
    | some z =>
      have h4 := bndI_congr (C := C) (fr := fr) (fr' := fr') (d := 0) (x := some z) fun y hy => h y (by simp at hy; simp [hy])
      simp only [pureV, pvPick, pvExtract, pvNilcheck, pvUnopNot, pvUnopNeg, pvUnopXor, pvBinop, pvConvert, pvMakefunc, pvBuild, pvField, pvFieldaddr, pvIndexaddr, pvIndex, pvSlice, pvMakeinterface, pvAssert, pvLen, pvMin, pvMax, h1, h2, h3, h4]
  case call c =>
    obtain ⟨callee, args, ats⟩ := c
    obtain ⟨args⟩ := args
    obtain ⟨ats⟩ := ats
    have ha : ∀ x ∈ args, evV C fr x = evV C fr' x := fun x hx => h x (by simp [Call.operands, hx])
    cases callee <;> try rfl
    rename_i b
    cases b <;> try rfl
    all_goals
      rcases args with _ | ⟨x, _ | ⟨y, _ | ⟨z, l⟩⟩⟩ <;> rcases ats with _ | ⟨t, _ | ⟨u, _ | ⟨z', ats⟩⟩⟩ <;> simp only [pureV, pvPick, pvExtract, pvNilcheck, pvUnopNot, pvUnopNeg, pvUnopXor, pvBinop, pvConvert, pvMakefunc, pvBuild, pvField, pvFieldaddr, pvIndexaddr, pvIndex, pvSlice, pvMakeinterface, pvAssert, pvLen, pvMin, pvMax] <;> (first | rfl | (simp only [List.mem_cons, List.not_mem_nil, or_false, forall_eq_or_imp, forall_eq] at ha; simp only [ha]))
  all_goals first | rfl | (simp only [List.mem_toArray, List.mem_cons, List.not_mem_nil, or_false, forall_eq_or_imp, forall_eq] at h; simp only [pureV, pvPick, pvExtract, pvNilcheck, pvUnopNot, pvUnopNeg, pvUnopXor, pvBinop, pvConvert, pvMakefunc, pvBuild, pvField, pvFieldaddr, pvIndexaddr, pvIndex, pvSlice, pvMakeinterface, pvAssert, pvLen, pvMin, pvMax, h])
theorem opH_congr {H : Heap} (o : Op) (h : ∀ x ∈ o.operands, evV C fr x = evV C fr' x) : opH C fr H o = opH C fr' H o := by
  cases o <;> simp only [Op.operands] at h
  case buildSlice t n ps =>
    have h1 := fun e v => fillE_congr (C := C) (fr := fr) (fr' := fr') (e := e) (l := ps.toList) (v := v) fun p hp => h p.2 (by simp at hp; simp; exact ⟨p.1, hp⟩)
    simp only [opH, ohConvert, ohLoad, ohStore, ohAlloc, ohBox, ohBuildslice, ohMakeslice, ohAppend, ohCopy, ohSlice, ohMakemap, ohLookup, ohMapupdate, ohMapentry, ohEntrystore, ohClearA, ohClear, ohClearS, ohLenM, h1]
  case makeMap t x =>
    cases x with
    | none => rfl
    | some x =>
      have h1 := h x (by simp)
      simp only [opH, ohMakemap, h1]
  case lookup t x y ok =>
    have h1 := h x (by simp)
    have h2 := h y (by simp)
    simp only [opH, ohLookup, h1, h2]
  case mapUpdate t x y z =>
    have h1 := h x (by simp)
    have h2 := h y (by simp)
    have h3 := h z (by simp)
    simp only [opH, ohMapupdate, h1, h2, h3]
  case insert t x y z =>
    have h1 := h x (by simp)
    have h2 := h y (by simp)
    have h3 := h z (by simp)
    simp only [opH, ohMapupdate, h1, h2, h3]
  case mapEntry t x y =>
    have h1 := h x (by simp)
    have h2 := h y (by simp)
    simp only [opH, ohMapentry, h1, h2]
  case entryStore t x y z =>
    have h1 := h x (by simp)
    have h2 := h y (by simp)
    have h3 := h z (by simp)
    simp only [opH, ohEntrystore, h1, h2, h3]
  case slice t x lo hi mx =>
    have h1 := h x (by simp)
    have h2 := fun d => bndI_congr (C := C) (fr := fr) (fr' := fr') (d := d) (x := lo) fun y hy => h y (by simp [hy])
    have h3 := fun d => bndI_congr (C := C) (fr := fr) (fr' := fr') (d := d) (x := hi) fun y hy => h y (by simp [hy])
    simp only [opH, ohConvert, ohLoad, ohStore, ohAlloc, ohBox, ohBuildslice, ohMakeslice, ohAppend, ohCopy, ohSlice, ohMakemap, ohLookup, ohMapupdate, ohMapentry, ohEntrystore, ohClearA, ohClear, ohClearS, ohLenM, h1, h2, h3]
  case call c =>
    obtain ⟨callee, args, ats⟩ := c
    obtain ⟨args⟩ := args
    obtain ⟨ats⟩ := ats
    have ha : ∀ x ∈ args, evV C fr x = evV C fr' x := fun x hx => h x (by simp [Call.operands, hx])
    cases callee <;> try rfl
    rename_i b
    cases b <;> try rfl
    all_goals
      rcases args with _ | ⟨x, _ | ⟨y, _ | ⟨z, l⟩⟩⟩ <;> rcases ats with _ | ⟨t, _ | ⟨u, _ | ⟨z', ats⟩⟩⟩ <;> simp only [opH, ohConvert, ohLoad, ohStore, ohAlloc, ohBox, ohBuildslice, ohMakeslice, ohAppend, ohCopy, ohSlice, ohMakemap, ohLookup, ohMapupdate, ohMapentry, ohEntrystore, ohClearA, ohClear, ohClearS, ohLenM] <;> (first | rfl | (simp only [List.mem_cons, List.not_mem_nil, or_false, forall_eq_or_imp, forall_eq] at ha; simp only [ha]))
  all_goals first | rfl | (simp only [List.mem_toArray, List.mem_cons, List.not_mem_nil, or_false, forall_eq_or_imp, forall_eq] at h; simp only [opH, ohConvert, ohLoad, ohStore, ohAlloc, ohBox, ohBuildslice, ohMakeslice, ohAppend, ohCopy, ohSlice, ohMakemap, ohLookup, ohMapupdate, ohMapentry, ohEntrystore, ohClearA, ohClear, ohClearS, ohLenM, h])
theorem callV_congr {S : Self} {H : Heap} (o : Op) (h : ∀ x ∈ o.operands, evV C fr x = evV C fr' x) : callV S C fr H o = callV S C fr' H o := by
  cases o <;> try rfl
  rename_i c
  obtain ⟨callee, args, ats⟩ := c
  cases callee with
  | builtin b => rfl
  | value x =>
    have hx := h x (by simp [Op.operands, Call.operands])
    have ha := evL_congr (C := C) (fr := fr) (fr' := fr') (l := args.toList) fun y hy => h y (by simp at hy; simp [Op.operands, Call.operands, hy])
    simp only [callV, hx, ha]
  | invoke x m =>
    have hx := h x (by simp [Op.operands, Call.operands])
    have ha := evL_congr (C := C) (fr := fr) (fr' := fr') (l := args.toList) fun y hy => h y (by simp at hy; simp [Op.operands, Call.operands, hy])
    simp only [callV, hx, ha]
theorem opV_congr {S : Self} {H : Heap} (o : Oper) (h : ∀ x ∈ o.op.operands, evV C fr x = evV C fr' x) : opV S C fr H o = opV S C fr' H o := by
  unfold opV
  rw [pureV_congr o.op h, opH_congr o.op h, callV_congr o.op h]
theorem Tr.cut {α : Type} (t : Tr α) (L : List Nat) : ∃ u : Tr α, ∀ k, u.get k = if k ∈ L then t.get k else none := by
  induction L with
  | nil => exact ⟨.nil, fun k => by simp [Tr.get_nil]⟩
  | cons x L ih =>
    obtain ⟨u, hu⟩ := ih
    refine ⟨u.set x (t.get x), fun k => ?_⟩
    rw [Tr.get_set, hu]
    by_cases e : k = x
    · subst e; simp
    · simp [e]
theorem Tr.of {α : Type} (g : Nat → Option α) (n : Nat) : ∃ t : Tr α, ∀ k, t.get k = if k < n then g k else none := by
  induction n with
  | zero => exact ⟨.nil, fun k => by simp [Tr.get_nil]⟩
  | succ n ih =>
    obtain ⟨u, hu⟩ := ih
    refine ⟨u.set n (g n), fun k => ?_⟩
    rw [Tr.get_set, hu]
    by_cases e : k = n
    · subst e; simp
    · rw [if_neg e]
      by_cases h : k < n
      · rw [if_pos h, if_pos (by omega)]
      · rw [if_neg h, if_neg (by omega)]
theorem cut_ev {ops : Array Oper} {o : Oper} (h : ∀ t ∈ o.looksAt ops, fr'.get t = fr.get t) : ∀ x ∈ o.op.operands, evV C fr x = evV C fr' x := fun x hx => by
  cases x with
  | tmp t =>
    have : t ∈ o.looksAt ops := List.mem_append_left _ (List.mem_filterMap.2 ⟨.tmp t, by simpa using hx, rfl⟩)
    simp only [evV, h t this]
  | _ => rfl
theorem cut_want {ops : Array Oper} {o : Oper} (h : ∀ t ∈ o.looksAt ops, fr'.get t = fr.get t) : wantV ops fr o = wantV ops fr' o := by
  unfold wantV
  split
  · rfl
  · rename_i j b hg
    split
    · rfl
    · rename_i t ht
      rw [h t (List.mem_append_right _ (by simp [hg, ht]))]
end
end Go.Proofs.Ytgeelfdgnehdnaa
namespace Go.Proofs.Ytgeelfdgnehdnaa
open Go.RowKit
set_option linter.unusedSimpArgs false
set_option linter.unusedVariables false
noncomputable def StepAt (S : Self) (C : Cfg) (ops : Array Oper) (o : Oper) (fr : Tr V) (h : Heap) (v : V) (h' : Heap) (x : Option Ev) : Prop :=
  (wantV ops fr o = some false ∧ v = .undef ∧ h' = h ∧ x = none) ∨ (wantV ops fr o = some true ∧ stepF S C fr h o = some (v, h', x))
structure Trace (S : Self) (C : Cfg) (ops : Array Oper) (l : List Oper) (i : Nat) (es : List (Nat × Ev)) (fr : Tr V) (h : Heap) (fr' : Tr V) (h' : Heap) (frs : Nat → Tr V) (hs : Nat → Heap) (vs : Nat → V) (xs : Nat → Option Ev) : Prop where
  f0 : frs 0 = fr
  h0 : hs 0 = h
  fn : frs l.length = fr'
  hn : hs l.length = h'
  st : ∀ j o, l[j]? = some o → StepAt S C ops o (frs j) (hs j) (vs j) (hs (j + 1)) (xs j) ∧ frs (j + 1) = putT (frs j) o.dst (vs j)
  cl : ∀ j o x, l[j]? = some o → xs j = some x → (∀ k y, (k, y) ∈ es → y.clash x = true → reachB ops ops.size (i + j) k = true) ∧ ∀ k y, k < j → xs k = some y → y.clash x = true → reachB ops ops.size (i + j) (i + k) = true
noncomputable def con {α : Type} (x : α) (f : Nat → α) : Nat → α
  | 0 => x
  | j + 1 => f j
theorem evsOK_spec {ops : Array Oper} {j : Nat} {x : Ev} : ∀ {es : List (Nat × Ev)}, evsOK ops j x es = true → ∀ k y, (k, y) ∈ es → y.clash x = true → reachB ops ops.size j k = true
  | [], _, _, _, h, _ => by simp at h
  | (k', y') :: es, he, k, y, h, hc => by
    simp only [evsOK, Bool.and_eq_true] at he
    rcases List.mem_cons.1 h with e | h
    · cases e
      have := he.1
      rw [hc] at this
      exact this
    · exact evsOK_spec he.2 k y h hc
theorem flow_trace {S : Self} {C : Cfg} {ops : Array Oper} : ∀ (l : List Oper) (i : Nat) (es : List (Nat × Ev)) (fr : Tr V) (h : Heap) (fr' : Tr V) (h' : Heap), evalFlow S C ops l i es fr h = some (fr', h') →
    ∃ frs hs vs xs, Trace S C ops l i es fr h fr' h' frs hs vs xs
  | [], i, es, fr, h, fr', h', he => by
    simp only [evalFlow, Option.some.injEq, Prod.mk.injEq] at he
    obtain ⟨rfl, rfl⟩ := he
    exact ⟨fun _ => fr, fun _ => h, fun _ => .undef, fun _ => none, rfl, rfl, rfl, rfl, by simp, by simp⟩
  | o :: l, i, es, fr, h, fr', h', he => by
    have key : ∀ (v : V) (h1 : Heap) (x : Option Ev) (es' : List (Nat × Ev)), StepAt S C ops o fr h v h1 x → (∀ y, x = some y → evsOK ops i y es = true) → (∀ p ∈ es, p ∈ es') → (∀ y, x = some y → (i, y) ∈ es') →
        evalFlow S C ops l (i + 1) es' (putT fr o.dst v) h1 = some (fr', h') → ∃ frs hs vs xs, Trace S C ops (o :: l) i es fr h fr' h' frs hs vs xs := fun v h1 x es' hst hev hsub hin he => by
      obtain ⟨frs, hs, vs, xs, t⟩ := flow_trace l _ _ _ _ _ _ he
      refine ⟨con fr frs, con h hs, con v vs, con x xs, rfl, rfl, t.fn, t.hn, fun j o' hj => ?_, fun j o' y hj hy => ?_⟩
      · cases j with
        | zero =>
          simp at hj; subst hj
          refine ⟨?_, ?_⟩
          · show StepAt S C ops o fr h v (hs 0) x
            rw [t.h0]; exact hst
          · exact t.f0
        | succ j => exact t.st j o' (by simpa using hj)
      · cases j with
        | zero => exact ⟨fun k z hk hc => evsOK_spec (hev y hy) k z hk hc, fun k z hk => by omega⟩
        | succ j =>
          obtain ⟨q1, q2⟩ := t.cl j o' y (by simpa using hj) hy
          have e1 : i + 1 + j = i + (j + 1) := by omega
          rw [e1] at q1 q2
          refine ⟨fun k z hk hc => q1 k z (hsub _ hk) hc, fun k z hk hz hc => ?_⟩
          cases k with
          | zero => exact q1 i z (hin z hz) hc
          | succ k =>
            have := q2 k z (by omega) hz hc
            rwa [show i + 1 + k = i + (k + 1) by omega] at this
    simp only [evalFlow] at he
    split at he
    · rename_i hw
      split at he
      · rename_i v h1 x hst
        split at he
        · rename_i hev
          exact key v h1 (some x) _ (.inr ⟨hw, hst⟩) (fun y hy => by cases hy; exact hev) (fun p hp => by simp [hp]) (fun y hy => by cases hy; simp) he
        · cases he
      · rename_i v h1 hst
        exact key v h1 none _ (.inr ⟨hw, hst⟩) (fun y hy => by cases hy) (fun p hp => hp) (fun y hy => by cases hy) he
      · cases he
    · rename_i hw
      exact key .undef h none _ (.inl ⟨hw, rfl, rfl, rfl⟩) (fun y hy => by cases hy) (fun p hp => hp) (fun y hy => by cases hy) he
    · cases he
theorem minN_le (a b : Nat) : minN a b ≤ a ∧ minN a b ≤ b := wmin_le a b
section
variable {P : Program} {C : Cfg} {S : Self} {ops : Array Oper} {o : Oper} {fr : Tr V} {h h' h1 : Heap} {v : V} {x : Option Ev}
theorem stepF_cases (hs : stepF S C fr h o = some (v, h', x)) : (pureV C fr o.type o.op = some v ∧ h' = h ∧ x = none) ∨
    (∃ h1, pureV C fr o.type o.op = none ∧ opV S C fr { h with wmin := h.next } o = some (v, h1) ∧ h' = { h1 with wmin := minN h.wmin h1.wmin } ∧ x = some (evOf C fr h h1 o.op)) := by
  unfold stepF at hs
  split at hs
  · rename_i u hu
    simp only [Option.some.injEq, Prod.mk.injEq] at hs
    obtain ⟨rfl, rfl, rfl⟩ := hs
    exact .inl ⟨hu, rfl, rfl⟩
  · rename_i hu
    split at hs
    · rename_i u h1 ho
      simp only [Option.some.injEq, Prod.mk.injEq] at hs
      obtain ⟨rfl, rfl, rfl⟩ := hs
      exact .inr ⟨h1, hu, ho, rfl, rfl⟩
    · cases hs
theorem ev_load {b : Nat} {H1 : Heap} (hp : pureV C fr o.type o.op = none) (ho : opV S C fr h o = some (v, h1)) (he : evOf C fr H1 h1 o.op = .load b) :
    (h1 = h ∧ ∀ H2 : Heap, H2.get b = h.get b → opV S C fr H2 o = some (v, H2)) ∧ (∃ B, h.get b = some B) ∧ ∃ x off, x ∈ o.op.operands ∧ evV C fr x = some (.ptr b off) := by
  unfold opV at ho ⊢
  simp only [hp] at ho ⊢
  unfold evOf at he
  split at he
  · rename_i t x hop
    split at he
    · rename_i b' off hb
      cases he
      rw [hop] at ho
      simp only [hop]
      simp only [opH, ohConvert, ohLoad, ohStore, ohAlloc, ohBox, ohBuildslice, ohMakeslice, ohAppend, ohCopy, ohSlice, ohMakemap, ohLookup, ohMapupdate, ohMapentry, ohEntrystore, ohClearA, ohClear, ohClearS, ohLenM, hb] at ho ⊢
      cases ht : C.ty t with
      | none => simp [ht, callV] at ho
      | some i =>
        simp only [ht] at ho ⊢
        cases hv : h.val b with
        | none => simp [hv, callV] at ho
        | some u =>
          simp only [hv] at ho
          cases hg : getAt 50 u off i.size i.agg with
          | none => simp [hg, callV] at ho
          | some r =>
            simp only [hg, Option.some.injEq, Prod.mk.injEq] at ho
            obtain ⟨rfl, rfl⟩ := ho
            refine ⟨⟨rfl, fun H2 h2 => ?_⟩, ?_, _, off, by simp [Op.operands], hb⟩
            · have : H2.val b = some u := by unfold Heap.val at hv ⊢; rw [h2]; exact hv
              simp only [this, hg]
            · unfold Heap.val at hv
              cases hgb : h.get b with
              | none => rw [hgb] at hv; cases hv
              | some B => exact ⟨B, rfl⟩
    · cases he
  · split at he <;> cases he
  · repeat' (split at he) <;> first | (cases he; done) | skip
  · split at he <;> cases he
theorem ev_store {b : Nat} {H1 : Heap} (hp : pureV C fr o.type o.op = none) (ho : opV S C fr h o = some (v, h1)) (he : evOf C fr H1 h1 o.op = .store b) :
    (∃ B B', h.get b = some B ∧ h1 = h.put b B' ∧ ∀ H2 : Heap, H2.get b = h.get b → opV S C fr H2 o = some (v, H2.put b B')) ∧ ∃ x off, x ∈ o.op.operands ∧ evV C fr x = some (.ptr b off) := by
  unfold opV at ho ⊢
  simp only [hp] at ho ⊢
  unfold evOf at he
  split at he
  · split at he <;> cases he
  · rename_i t x y hop
    split at he
    · rename_i b' off hb
      cases he
      rw [hop] at ho
      simp only [hop]
      simp only [opH, ohConvert, ohLoad, ohStore, ohAlloc, ohBox, ohBuildslice, ohMakeslice, ohAppend, ohCopy, ohSlice, ohMakemap, ohLookup, ohMapupdate, ohMapentry, ohEntrystore, ohClearA, ohClear, ohClearS, ohLenM, hb] at ho ⊢
      cases hy : evV C fr y with
      | none => simp [hy, callV] at ho
      | some u =>
        simp only [hy] at ho ⊢
        cases ht : C.ty t with
        | none => simp [ht, callV] at ho
        | some i =>
          simp only [ht] at ho ⊢
          cases hg : h.get b with
          | none => simp [hg, callV] at ho
          | some B =>
            simp only [hg] at ho ⊢
            cases B with
            | cells ty u' =>
              cases hz : Nat.beq u.size i.size with
              | false => simp [hz, callV] at ho
              | true =>
                simp only [hz] at ho ⊢
                cases hq : putAt 50 u' off u with
                | none => simp [hq, callV] at ho
                | some v' =>
                  simp only [hq, Option.some.injEq, Prod.mk.injEq] at ho
                  obtain ⟨rfl, rfl⟩ := ho
                  exact ⟨⟨_, _, rfl, rfl, fun H2 h2 => by simp only [h2, hq]⟩, _, off, by simp [Op.operands], hb⟩
            | _ => simp [callV] at ho
    · cases he
  · repeat' (split at he) <;> first | (cases he; done) | skip
  · split at he <;> cases he
theorem ev_gen {H1 : Heap} (he : evOf C fr H1 h1 o.op = .gen) : H1.next ≤ h1.wmin := by
  unfold evOf at he
  split at he
  · split at he <;> cases he
  · split at he <;> cases he
  · split at he
    · rename_i hb; exact Nat.le_of_ble_eq_true hb
    · repeat' (split at he) <;> first | (cases he; done) | skip
  · split at he
    · rename_i hb; exact Nat.le_of_ble_eq_true hb
    · cases he
theorem app_keep {ts tx : TypeId} {b base off len esz : Nat} {lim : Option Nat} {x v : V} {h h1 : Heap} (ha : appendV C h ts tx (.sl b base off len esz lim) x = some (v, h1)) {i : Nat} (hi : i ≠ b) (hlt : i < h.next) : h1.get i = h.get i := by
  have hpush : ∀ B, (h.push B).get i = h.get i := fun B => by rw [Heap.get_push, if_neg (by omega)]
  unfold appendV at ha
  repeat' (split at ha)
  all_goals first | (cases ha; done) | skip
  all_goals first
    | (cases ha; rfl)
    | (cases ha; exact hpush _)
    | (cases ha; rw [Heap.get_put, if_neg]; exact fun e => hi (by simp_all))
    | (cases ha; rw [Heap.get_kill, if_neg]; exact hpush _; exact fun e => hi (by simp_all))
    | simp_all
theorem ev_upd {b : Nat} {H1 : Heap} (hp : pureV C fr o.type o.op = none) (ho : opV S C fr h o = some (v, h1)) (he : evOf C fr H1 h1 o.op = .upd b) {i : Nat} (hi : i ≠ b) (hlt : i < h.next) : h1.get i = h.get i := by
  unfold opV at ho
  simp only [hp] at ho
  unfold evOf at he
  split at he
  · split at he <;> cases he
  · split at he <;> cases he
  · rename_i xs ats hop
    rw [hop] at ho
    split at he
    · cases he
    · split at he
      · rename_i x y hxs
        split at he
        · rename_i b' base off len esz lim hb
          cases he
          simp only [opH, ohAppend] at ho
          split at ho
          · rename_i r hr
            cases ho
            split at hr
            · rename_i x' y' ts tx h1' h2'
              rw [hxs] at h1'
              cases h1'
              split at hr
              · rename_i s u hs hu
                rw [hb] at hs
                cases hs
                exact app_keep hr hi hlt
              · cases hr
            · cases hr
          · simp [callV] at ho
        · cases he
      · cases he
  · split at he <;> cases he
theorem mono_wmin {n : Nat} (m1 : Mono { h with wmin := h.next } h1) (hn : n ≤ h.wmin) (hm : n ≤ h1.wmin) : Mono h { h1 with wmin := n } :=
  ⟨m1.nxt, fun hw => m1.wf hw, hn, fun i hi hj => m1.keep i hi (Nat.lt_of_lt_of_le hj hm)⟩
theorem StepAt.mono (hS : SelfOK P C S) (st : StepAt S C ops o fr h v h' x) : Mono h h' := by
  rcases st with ⟨_, _, rfl, _⟩ | ⟨_, st⟩
  · exact Mono.refl _
  · rcases stepF_cases st with ⟨_, rfl, _⟩ | ⟨h1, _, ho, rfl, _⟩
    · exact Mono.refl _
    · have := minN_le h.wmin h1.wmin
      exact mono_wmin (opV_mono hS ho) this.1 this.2
noncomputable def Tch (x : Option Ev) (n n' i : Nat) : Prop := (n ≤ i ∧ i < n') ∨ x = some (.store i) ∨ ((x = some .dirty ∨ x = some (.upd i)) ∧ i < n)
theorem StepAt.load {b : Nat} (st : StepAt S C ops o fr h v h' (some (.load b))) : h'.next = h.next := by
  rcases st with ⟨_, _, _, hx⟩ | ⟨_, st⟩
  · cases hx
  · rcases stepF_cases st with ⟨_, _, hx⟩ | ⟨h1, hp, ho, rfl, hx⟩
    · cases hx
    · obtain ⟨⟨e, _⟩, _⟩ := ev_load hp ho (by injection hx with hx; exact hx.symm)
      rw [e]
theorem StepAt.store {b : Nat} (st : StepAt S C ops o fr h v h' (some (.store b))) : h'.next = h.next ∧ ∃ B, h.get b = some B := by
  rcases st with ⟨_, _, _, hx⟩ | ⟨_, st⟩
  · cases hx
  · rcases stepF_cases st with ⟨_, _, hx⟩ | ⟨h1, hp, ho, rfl, hx⟩
    · cases hx
    · obtain ⟨⟨B, B', e1, e2, _⟩, _⟩ := ev_store hp ho (by injection hx with hx; exact hx.symm)
      exact ⟨by rw [e2]; rfl, B, e1⟩
theorem StepAt.still (st : StepAt S C ops o fr h v h' none) : h' = h := by
  rcases st with ⟨_, _, hx, _⟩ | ⟨_, st⟩
  · exact hx
  · rcases stepF_cases st with ⟨_, hx, _⟩ | ⟨h1, _, _, _, hx⟩
    · exact hx
    · cases hx
theorem StepAt.keep (hS : SelfOK P C S) (st : StepAt S C ops o fr h v h' x) (hwf : ∀ i, h.next ≤ i → h.get i = none) {i : Nat} (hi : ¬ Tch x h.next h'.next i) : h'.get i = h.get i := by
  have hm := st.mono hS
  by_cases hge : h'.next ≤ i
  · rw [hm.wf hwf i hge, hwf i (Nat.le_trans hm.nxt hge)]
  · have hlt : i < h.next := by
      rcases Nat.lt_or_ge i h.next with h2 | h2
      · exact h2
      · exact absurd (.inl ⟨h2, by omega⟩) hi
    rcases st with ⟨_, _, rfl, _⟩ | ⟨_, st⟩
    · rfl
    · rcases stepF_cases st with ⟨_, rfl, _⟩ | ⟨h1, hp, ho, rfl, hx⟩
      · rfl
      · cases he : evOf C fr h h1 o.op with
        | load b => obtain ⟨⟨e, _⟩, _⟩ := ev_load hp ho he; rw [e]; rfl
        | store b =>
          obtain ⟨⟨B, B', _, e, _⟩, _⟩ := ev_store hp ho he
          rw [e]
          show (Heap.put { h with wmin := h.next } b B').get i = h.get i
          rw [Heap.get_put, if_neg]
          · rfl
          · rintro rfl
            exact hi (.inr (.inl (by rw [hx, he])))
        | gen => exact (opV_mono hS ho).keep i hlt (Nat.lt_of_lt_of_le hlt (ev_gen he))
        | dirty => exact absurd (.inr (.inr ⟨.inl (by rw [hx, he]), hlt⟩)) hi
        | upd b =>
          by_cases hib : i = b
          · exact absurd (.inr (.inr ⟨.inr (by rw [hx, he, hib]), hlt⟩)) hi
          · exact ev_upd hp ho he hib hlt
theorem reach_listed {listed : Array Bool} (hcl : ∀ (k : Nat) (o : Oper) (e : Edge), ops[k]? = some o → listed[k]? = some true → e ∈ o.after → Region.binds .any e = true → listed[e.on]? = some true) :
    ∀ (f j k : Nat), reachB ops f j k = true → (∀ o e, ops[j]? = some o → e ∈ o.after → Region.binds .any e = true → listed[e.on]? = some true) → listed[k]? = some true
  | 0, _, _, h, _ => by simp [reachB] at h
  | f + 1, j, k, h, hj => by
    simp only [reachB] at h
    split at h
    · cases h
    · rename_i o ho
      simp only [Array.any_eq_true', Bool.and_eq_true, Bool.or_eq_true] at h
      obtain ⟨e, he, hb, h⟩ := h
      have hl := hj o e ho he hb
      rcases h with h | h
      · rw [← Nat.eq_of_beq_eq_true h]; exact hl
      · exact reach_listed hcl f e.on k h fun o' e' ho' he' hb' => hcl e.on o' e' ho' hl he' hb'
end
theorem Nxt.ext {D0 D D' : Nat → Prop} {ρ0 ρ ρ' : Env} {h0 hn hj h1 : Heap} {w0 w w' : World} {U : Nat} (hl0 : ∀ i, D0 i → i < h0.next ∨ U ≤ i) (a : Nxt D0 ρ0 h0 w0 D ρ hn w) (b : Nxt D ρ hj w D' ρ' h1 w') (hU : hn.next ≤ U) (h0j : h0.next ≤ hj.next) (h1n : h1.next ≤ hn.next)
    (hw : hn.wmin ≤ h1.wmin) (hD : ∀ i, D i → ¬ (hj.next ≤ i ∧ i < h1.next)) : Nxt D0 ρ0 h0 w0 D' ρ' hn w' := by
  have hb := b.nxt
  have env : ∀ i, D i → ρ'.b i = ρ.b i := fun i hi => (b.env i (by have := hD i hi; omega)).1
  have old : ∀ j, D j → h1.wmin ≤ j → j < hj.next → w0.heap.size ≤ ρ.b j ∨ ∃ k, D0 k ∧ hn.wmin ≤ k ∧ k < h0.next ∧ ρ0.b k = ρ.b j := fun j hj hwj hlt => by
    rcases a.new j hj with h | ⟨h, h'⟩
    · rcases hl0 j h with h3 | h3
      · exact .inr ⟨j, h, Nat.le_trans hw hwj, h3, (a.env j (.inl h3)).1.symm⟩
      · omega
    · exact a.fresh j hj h h'
  refine ⟨fun i hi => b.sub i (a.sub i hi), fun i hi => ?_, fun i hi => ?_, fun c hc hno => ?_, fun i hi hn' hlt => ?_, Nat.le_trans a.size b.size, a.wmin, a.nxt, b.os.trans a.os, b.tape.trans a.tape, b.output.trans a.output⟩
  · rcases b.new i hi with h | ⟨h, h'⟩
    · exact a.new i h
    · exact .inr ⟨by omega, by omega⟩
  · obtain ⟨g1, g2, g3, g4⟩ := a.env i hi
    obtain ⟨k1, k2, k3, k4⟩ := b.env i (by omega)
    exact ⟨k1.trans g1, k2.trans g2, k3.trans g3, k4.trans g4⟩
  · rw [b.frame c (Nat.lt_of_lt_of_le hc a.size) fun i hi hwi hlt e => ?_]
    · exact a.frame c hc hno
    · rcases old i hi hwi hlt with h | ⟨k, k1, k2, k3, k4⟩
      · omega
      · exact hno k k1 k2 k3 (k4.trans e)
  · rcases b.new i hi with h | ⟨h, h'⟩
    · rw [env i h]; exact a.fresh i h hn' hlt
    · rcases b.fresh i hi h h' with h2 | ⟨j, j1, j2, j3, j4⟩
      · exact .inl (Nat.le_trans a.size h2)
      · rw [← j4]; exact old j j1 j2 j3
theorem Rel.on {s0 : World} {U U' : Nat} {D : Nat → Prop} {ρ : Env} {h h' : Heap} {w : World} (r : Rel s0 U D ρ h w) (hl : ∀ i, D i → i < h'.next ∨ U' ≤ i) (hwf : ∀ i, h'.next ≤ i → h'.get i = none) (hg : ∀ i b, D i → h'.get i = some b → h.get i = some b) : Rel s0 U' D ρ h' w :=
  ⟨hl, hwf, fun i b hi hb => r.has i b hi (hg i b hi hb), fun i b hi hb => r.clo i b hi (hg i b hi hb), fun i j b c hi hj hb hc => r.inj i j b c hi hj (hg i b hi hb) (hg j c hj hc), fun i b hi hb => r.own i b hi (hg i b hi hb), fun i j b c hi hj hb hc => r.old i j b c hi hj (hg i b hi hb) (hg j c hj hc), r.base⟩
end Go.Proofs.Ytgeelfdgnehdnaa
namespace Go.Proofs.Ytgeelfdgnehdnaa
open Go.RowKit
set_option linter.unusedSimpArgs false
set_option linter.unusedVariables false
structure FCtx (P : Program) (C : Cfg) (S : Self) (U N : Nat) (ops : Array Oper) (frs : Nat → Tr V) (hs : Nat → Heap) (vs : Nat → V) (xs : Nat → Option Ev) : Prop where
  hC : CfgOK P C
  hS : SelfOK P C S
  hB : flowB N ops.toList ops.size = true
  st : ∀ (j : Nat) (o : Oper), ops[j]? = some o → StepAt S C ops o (frs j) (hs j) (vs j) (hs (j + 1)) (xs j) ∧ frs (j + 1) = putT (frs j) o.dst (vs j)
  cl : ∀ (j k : Nat) (x y : Ev), j < ops.size → k < j → xs j = some x → xs k = some y → y.clash x = true → reachB ops ops.size j k = true
  wf0 : ∀ i, (hs 0).next ≤ i → (hs 0).get i = none
  hU : (hs ops.size).next ≤ U
structure FInv (C : Cfg) (s0 : World) (U N : Nat) (X : List Deferred) (ops : Array Oper) (frs : Nat → Tr V) (hs : Nat → Heap) (vs : Nat → V) (xs : Nat → Option Ev) (D0 : Nat → Prop) (ρ0 : Env) (w0 : World) (listed : Array Bool) (a : Act) (w : World) (D : Nat → Prop) (ρ : Env) (H : Heap) : Prop where
  size : listed.size = ops.size
  asz : a.tmps.size = N
  adf : a.defers = X
  closed : ∀ (k : Nat) (o : Oper) (e : Edge), ops[k]? = some o → listed[k]? = some true → e ∈ o.after → Region.binds .any e = true → listed[e.on]? = some true
  next : H.next = (hs ops.size).next
  wmin : H.wmin = (hs ops.size).wmin
  char : ∀ i, D i → D0 i ∨ ∃ k : Nat, listed[k]? = some true ∧ (hs k).next ≤ i ∧ i < (hs (k + 1)).next
  lt0 : ∀ i, D0 i → i < (hs 0).next ∨ U ≤ i
  cont : ∀ i, D i → ∀ p, p ≤ ops.size → (∀ k, k < p → Tch (xs k) (hs k).next (hs (k + 1)).next i → listed[k]? = some true) → (∀ k, p ≤ k → k < ops.size → Tch (xs k) (hs k).next (hs (k + 1)).next i → listed[k]? = some false) → H.get i = (hs p).get i
  rel : Rel s0 U D ρ H w
  nxt : Nxt D0 ρ0 (hs 0) w0 D ρ (hs ops.size) w
  got : ∀ (k : Nat) (o : Oper) (t : Nat), ops[k]? = some o → listed[k]? = some true → o.dst = some t → a.tmps[t]? = some (conc ρ (vs k)) ∧ InD (DD D ρ) (vs k)
  base : ∀ t v, (∀ (k : Nat) (o : Oper), ops[k]? = some o → o.dst = some t → listed[k]? = some false) → (frs 0).get t = some v → a.tmps[t]? = some (conc ρ v) ∧ InD (DD D ρ) v
  gl : GlobOK C (DD D ρ) ρ
section
variable {P : Program} {C : Cfg} {S : Self} {s0 : World} {U N : Nat} {X : List Deferred} {ops : Array Oper} {frs : Nat → Tr V} {hs : Nat → Heap} {vs : Nat → V} {xs : Nat → Option Ev} {D0 : Nat → Prop} {ρ0 : Env} {w0 : World} {listed : Array Bool} {a : Act} {w : World} {D : Nat → Prop} {ρ : Env} {H : Heap}
theorem FCtx.at_ {j : Nat} (_ : FCtx P C S U N ops frs hs vs xs) (hj : j < ops.size) : ∃ o, ops[j]? = some o := ⟨_, Array.getElem?_eq_getElem hj⟩
theorem FCtx.mono (c : FCtx P C S U N ops frs hs vs xs) {j : Nat} : ∀ (d : Nat), j + d ≤ ops.size → Mono (hs j) (hs (j + d))
  | 0, _ => Mono.refl _
  | d + 1, h => by
    obtain ⟨o, ho⟩ := c.at_ (show j + d < ops.size by omega)
    exact (c.mono d (by omega)).trans ((c.st _ o ho).1.mono c.hS)
theorem FCtx.monoLe (c : FCtx P C S U N ops frs hs vs xs) {j k : Nat} (h1 : j ≤ k) (h2 : k ≤ ops.size) : Mono (hs j) (hs k) := by
  have := c.mono (j := j) (k - j) (by omega)
  rwa [show j + (k - j) = k by omega] at this
theorem FCtx.wf (c : FCtx P C S U N ops frs hs vs xs) {j : Nat} (h : j ≤ ops.size) : ∀ i, (hs j).next ≤ i → (hs j).get i = none := (c.monoLe (Nat.zero_le j) h).wf c.wf0
theorem FCtx.keep (c : FCtx P C S U N ops frs hs vs xs) {j i : Nat} : ∀ (d : Nat), j + d ≤ ops.size → (∀ k, j ≤ k → k < j + d → ¬ Tch (xs k) (hs k).next (hs (k + 1)).next i) → (hs (j + d)).get i = (hs j).get i
  | 0, _, _ => rfl
  | d + 1, h, hn => by
    obtain ⟨o, ho⟩ := c.at_ (show j + d < ops.size by omega)
    exact ((c.st _ o ho).1.keep c.hS (c.wf (by omega)) (hn (j + d) (by omega) (by omega))).trans (c.keep d (by omega) fun k h1 h2 => hn k h1 (by omega))
theorem FCtx.tch_ev (c : FCtx P C S U N ops frs hs vs xs) {k i : Nat} (hk : k < ops.size) (ht : Tch (xs k) (hs k).next (hs (k + 1)).next i) :
    i < (hs (k + 1)).next ∧ ∃ x, xs k = some x ∧ (∀ b, x ≠ .load b) ∧ ((i < (hs k).next ∧ (x = .store i ∨ x = .dirty ∨ x = .upd i)) ∨ (hs k).next ≤ i) := by
  obtain ⟨o, ho⟩ := c.at_ hk
  have st := (c.st _ o ho).1
  have hm := (st.mono c.hS).nxt
  rcases ht with ⟨h1, h2⟩ | h | ⟨h | h, h1⟩
  · refine ⟨h2, ?_⟩
    cases hx : xs k with
    | none => rw [hx] at st; rw [st.still] at h2; omega
    | some x =>
      refine ⟨x, rfl, fun b e => ?_, .inr h1⟩
      rw [hx, e] at st; rw [st.load] at h2; omega
  · have st' := st
    rw [h] at st'
    obtain ⟨e, B, hB⟩ := st'.store
    have hlt : i < (hs k).next := by
      rcases Nat.lt_or_ge i (hs k).next with h' | h'
      · exact h'
      · rw [c.wf (by omega) i h'] at hB; cases hB
    exact ⟨by omega, _, h, fun b e => (by cases e), .inl ⟨hlt, .inl rfl⟩⟩
  · exact ⟨by omega, _, h, fun b e => (by cases e), .inl ⟨h1, .inr (.inl rfl)⟩⟩
  · exact ⟨by omega, _, h, fun b e => (by cases e), .inl ⟨h1, .inr (.inr rfl)⟩⟩
noncomputable def Reads (x : Ev) (i : Nat) : Prop := match x with
  | .load b => i = b
  | .store b => i = b
  | .gen => True
  | .dirty => True
  | .upd _ => True
theorem clash_reads {x y : Ev} {i : Nat} (hr : Reads x i) (hy : y = .store i ∨ y = .dirty ∨ y = .upd i) : y.clash x = true ∧ x.clash y = true := by
  rcases hy with rfl | rfl | rfl <;> cases x <;> simp_all [Ev.clash, Reads]
theorem FInv.now (c : FCtx P C S U N ops frs hs vs xs) (inv : FInv C s0 U N X ops frs hs vs xs D0 ρ0 w0 listed a w D ρ H) {j : Nat} {o : Oper} {x : Ev} {i : Nat} (hj : ops[j]? = some o) (hjf : listed[j]? = some false)
    (hed : ∀ e ∈ o.after, Region.binds .any e = true → listed[e.on]? = some true) (hx : xs j = some x) (hr : Reads x i) (hi : D i) (hlt : i < (hs j).next) : H.get i = (hs j).get i := by
  have hjs := (Array.getElem?_eq_some_iff.1 hj).1
  have hreach : ∀ k, reachB ops ops.size j k = true → listed[k]? = some true := fun k hk => reach_listed inv.closed _ j k hk fun o' e ho' he hb => by
    rw [hj] at ho'; cases ho'; exact hed e he hb
  refine inv.cont i hi j (by omega) (fun k hk ht => ?_) fun k hk hks ht => ?_
  · obtain ⟨q1, y, q2, q3, q4⟩ := c.tch_ev (by omega) ht
    rcases q4 with ⟨_, hy⟩ | hge
    · exact hreach k (c.cl j k x y hjs hk hx q2 (clash_reads hr hy).1)
    · rcases inv.char i hi with h | ⟨k', hk', g1, g2⟩
      · have := inv.lt0 i h
        have h1 := (c.monoLe (Nat.zero_le k) (by omega)).nxt
        have h2 := (c.monoLe (show j ≤ ops.size by omega) (Nat.le_refl _)).nxt
        have h3 := c.hU
        omega
      · have hk's : k' < ops.size := by rw [← inv.size]; exact (Array.getElem?_eq_some_iff.1 hk').1
        have : k' = k := by
          rcases Nat.lt_trichotomy k' k with h | h | h
          · have := (c.monoLe (show k' + 1 ≤ k by omega) (by omega)).nxt; omega
          · exact h
          · have := (c.monoLe (show k + 1 ≤ k' by omega) (by omega)).nxt; omega
        rw [← this]; exact hk'
  · by_cases e : k = j
    · rw [e]; exact hjf
    · obtain ⟨q1, y, q2, q3, q4⟩ := c.tch_ev hks ht
      have hjk := (c.monoLe (show j ≤ k by omega) (by omega)).nxt
      rcases q4 with ⟨_, hy⟩ | hge
      · have hreach := c.cl k j y x hks (by omega) q2 hx (clash_reads hr hy).2
        have hks' : k < listed.size := by rw [inv.size]; exact hks
        cases hv : listed[k] with
        | false => rw [Array.getElem?_eq_getElem hks', hv]
        | true =>
          have hl : listed[k]? = some true := by rw [Array.getElem?_eq_getElem hks', hv]
          have := reach_listed inv.closed _ k j hreach fun o' e ho' he hb => inv.closed k o' e ho' hl he hb
          rw [hjf] at this; cases this
      · omega
theorem FCtx.frs_get (c : FCtx P C S U N ops frs hs vs xs) (t : Nat) : ∀ j, j ≤ ops.size → (∃ (k : Nat) (o : Oper), k < j ∧ ops[k]? = some o ∧ o.dst = some t ∧ (frs j).get t = some (vs k)) ∨ ((∀ (k : Nat) (o : Oper), k < j → ops[k]? = some o → o.dst ≠ some t) ∧ (frs j).get t = (frs 0).get t)
  | 0, _ => .inr ⟨fun k o hk => by omega, rfl⟩
  | j + 1, h => by
    obtain ⟨o, ho⟩ := c.at_ (show j < ops.size by omega)
    have e := (c.st j o ho).2
    by_cases hd : o.dst = some t
    · exact .inl ⟨j, o, by omega, ho, hd, by rw [e, hd]; simp [putT, Tr.get_set]⟩
    · have e2 : (frs (j + 1)).get t = (frs j).get t := by
        rw [e]
        cases hd' : o.dst with
        | none => rfl
        | some u =>
          simp only [putT, Tr.get_set]
          rw [if_neg]
          rintro rfl
          exact hd hd'
      rw [e2]
      rcases c.frs_get t j (by omega) with ⟨k, p, h1, h2, h3, h4⟩ | ⟨h1, h2⟩
      · exact .inl ⟨k, p, by omega, h2, h3, h4⟩
      · refine .inr ⟨fun k p hk hp => ?_, h2⟩
        by_cases hkj : k = j
        · subst hkj; rw [ho] at hp; cases hp; exact hd
        · exact h1 k p (by omega) hp
theorem FInv.fr (c : FCtx P C S U N ops frs hs vs xs) (inv : FInv C s0 U N X ops frs hs vs xs D0 ρ0 w0 listed a w D ρ H) {j : Nat} {o : Oper} (hj : ops[j]? = some o) (hjf : listed[j]? = some false)
    (hed : ∀ e ∈ o.after, Region.binds .any e = true → listed[e.on]? = some true) : ∃ fc : Tr V, (∀ t ∈ o.looksAt ops, fc.get t = (frs j).get t) ∧ FrE C D ρ fc a := by
  have hjs := (Array.getElem?_eq_some_iff.1 hj).1
  obtain ⟨fc, hfc⟩ := (frs j).cut (o.looksAt ops)
  refine ⟨fc, fun t ht => by rw [hfc, if_pos ht], ?_⟩
  obtain ⟨_, _, _, hpre, _⟩ := flowB_at c.hB hj
  have key : ∀ t v, fc.get t = some v → a.tmps[t]? = some (conc ρ v) ∧ InD (DD D ρ) v := fun t v hv => by
    rw [hfc] at hv
    split at hv
    · rename_i ht
      rcases c.frs_get t j (by omega) with ⟨k, p, h1, h2, h3, h4⟩ | ⟨h1, h2⟩
      · rw [h4] at hv; cases hv
        rcases (hpre hjs k p t (by omega) h2 h3).2 ht with h | h
        · omega
        · rw [if_pos h1] at h
          obtain ⟨e, he, hb, heq⟩ := edgeTo_spec h
          have := hed e he hb
          rw [heq] at this
          exact inv.got k p t h2 this h3
      · rw [h2] at hv
        refine inv.base t v (fun k p hp hpd => ?_) hv
        have hks := (Array.getElem?_eq_some_iff.1 hp).1
        have hks' : k < listed.size := by rw [inv.size]; exact hks
        rcases Nat.lt_trichotomy k j with h | h | h
        · exact absurd hpd (h1 k p h hp)
        · rw [h]; exact hjf
        · rcases (hpre hjs k p t hks hp hpd).2 ht with h' | h'
          · omega
          · rw [if_neg (by omega)] at h'
            obtain ⟨e, he, hb, heq⟩ := edgeTo_spec h'
            rw [Array.getElem?_eq_getElem hks']
            congr 1
            cases hv' : listed[k] with
            | false => rfl
            | true =>
              have := inv.closed k p e hp (by rw [Array.getElem?_eq_getElem hks', hv']) he hb
              rw [heq, hjf] at this; cases this
    · cases hv
  exact ⟨⟨fun t v hv => (key t v hv).1, fun t v hv => (key t v hv).2, inv.gl⟩⟩
theorem FInv.upd (c : FCtx P C S U N ops frs hs vs xs) (inv : FInv C s0 U N X ops frs hs vs xs D0 ρ0 w0 listed a w D ρ H) {j : Nat} {o : Oper} (hj : ops[j]? = some o) (hjf : listed[j]? = some false)
    (hed : ∀ e ∈ o.after, Region.binds .any e = true → listed[e.on]? = some true) {D' : Nat → Prop} {ρ' : Env} {H' : Heap} {w' : World} (hchar : ∀ i, D' i → D i ∨ ((hs j).next ≤ i ∧ i < (hs (j + 1)).next)) (hnext : H'.next = (hs ops.size).next) (hwmin : H'.wmin = (hs ops.size).wmin)
    (hkeep : ∀ i, D' i → ¬ Tch (xs j) (hs j).next (hs (j + 1)).next i → H'.get i = H.get i) (hnew : ∀ i, D' i → Tch (xs j) (hs j).next (hs (j + 1)).next i → H'.get i = (hs (j + 1)).get i)
    (rel' : Rel s0 U D' ρ' H' w') (nxt' : Nxt D0 ρ0 (hs 0) w0 D' ρ' (hs ops.size) w') (ag : Env.Agree (DD D ρ) ρ ρ') (dd : ∀ i m, DD D ρ i m → DD D' ρ' i m) (hv : InD (DD D' ρ') (vs j)) :
    FInv C s0 U N X ops frs hs vs xs D0 ρ0 w0 (listed.setIfInBounds j true) (a.put o.dst (conc ρ' (vs j))) w' D' ρ' H' := by
  have hjs := (Array.getElem?_eq_some_iff.1 hj).1
  obtain ⟨_, hdst, _, hpre, _⟩ := flowB_at c.hB hj
  have hjls : j < listed.size := by rw [inv.size]; exact hjs
  have hset : ∀ k : Nat, (listed.setIfInBounds j true)[k]? = if j = k then some true else listed[k]? := fun k => by
    rw [Array.getElem?_setIfInBounds]; split
    · rename_i e; subst e; simp
    · rfl
  refine ⟨by simp [inv.size], by cases o.dst <;> simp [Act.put, inv.asz], by cases o.dst <;> simp [Act.put, inv.adf], ?_, hnext, hwmin, ?_, inv.lt0, ?_, rel', nxt', ?_, ?_, ?_⟩
  · intro k p e hp hlk he hbe
    rw [hset] at hlk
    rw [hset]
    split
    · rfl
    · split at hlk
      · rename_i e'; subst e'
        rw [hj] at hp; cases hp
        exact hed e he hbe
      · exact inv.closed k p e hp hlk he hbe
  · intro i hi
    rcases hchar i hi with h | h
    · rcases inv.char i h with h | ⟨k, hk, h⟩
      · exact .inl h
      · refine .inr ⟨k, ?_, h⟩
        rw [hset]; split
        · rfl
        · exact hk
    · exact .inr ⟨j, by rw [hset, if_pos rfl], h⟩
  · intro i hi p hp h1 h2
    by_cases ht : Tch (xs j) (hs j).next (hs (j + 1)).next i
    · have hpj : j < p := by
        rcases Nat.lt_or_ge j p with h | h
        · exact h
        · have := h2 j h hjs ht
          rw [hset, if_pos rfl] at this; cases this
      rw [hnew i hi ht]
      have := c.keep (j := j + 1) (i := i) (p - (j + 1)) (by omega) fun k hk1 hk2 htk => by
        have hks : k < ops.size := by omega
        have hl := h1 k (by omega) htk
        rw [hset, if_neg (by omega)] at hl
        obtain ⟨q1, x, qx, q3, q4⟩ := c.tch_ev hjs ht
        obtain ⟨r1, y, ry, r3, r4⟩ := c.tch_ev hks htk
        have hjk := (c.monoLe (show j + 1 ≤ k by omega) (by omega)).nxt
        have hy : y = .store i ∨ y = .dirty ∨ y = .upd i := by
          rcases r4 with ⟨_, h⟩ | h
          · exact h
          · omega
        have hcl : x.clash y = true := by
          rcases q4 with ⟨_, h⟩ | h
          · rcases h with rfl | rfl | rfl
            · exact (clash_reads (x := .store i) rfl hy).2
            · exact (clash_reads (x := .dirty) (i := i) trivial hy).2
            · exact (clash_reads (x := .upd i) (i := i) trivial hy).2
          · cases x with
            | load b => exact absurd rfl (q3 b)
            | store b =>
              exfalso
              have := (c.st j o hj).1
              rw [qx] at this
              have := this.store.1
              omega
            | gen => exact (clash_reads (x := .gen) (i := i) trivial hy).2
            | dirty => exact (clash_reads (x := .dirty) (i := i) trivial hy).2
            | upd b => exact (clash_reads (x := .upd b) (i := i) trivial hy).2
        have := reach_listed inv.closed _ k j (c.cl k j y x hks (by omega) ry qx hcl) fun o' e ho' he hb => inv.closed k o' e ho' hl he hb
        rw [hjf] at this; cases this
      rw [show j + 1 + (p - (j + 1)) = p by omega] at this
      exact this.symm
    · rw [hkeep i hi ht]
      have hi' : D i := by
        rcases hchar i hi with h | h
        · exact h
        · exact absurd (.inl h) ht
      refine inv.cont i hi' p hp (fun k hk htk => ?_) fun k hk hks htk => ?_
      · have := h1 k hk htk
        rw [hset, if_neg] at this
        · exact this
        · rintro rfl; exact ht htk
      · have := h2 k hk hks htk
        rw [hset] at this
        split at this
        · cases this
        · exact this
  · intro k p t hp hlk hpd
    rw [hset] at hlk
    by_cases e : j = k
    · subst e
      rw [hj] at hp; cases hp
      have ht : t < N := by rw [hpd] at hdst; simpa [dstOk] using hdst
      exact ⟨by simp [hpd, Act.put, inv.asz, ht], hv⟩
    · rw [if_neg e] at hlk
      obtain ⟨g1, g2⟩ := inv.got k p t hp hlk hpd
      have hks := (Array.getElem?_eq_some_iff.1 hp).1
      refine ⟨?_, g2.mono dd⟩
      rw [conc_agree ag g2]
      have hne : o.dst ≠ some t := by
        rcases (hpre hjs k p t hks hp hpd).1 with h | h
        · exact absurd h.symm e
        · exact h
      cases hd : o.dst with
      | none => exact g1
      | some u =>
        rw [hd] at hne
        simp only [Act.put, Array.getElem?_setIfInBounds]
        rw [if_neg (fun e' => hne (by rw [e']))]
        exact g1
  · intro t v hno hv'
    have hne : o.dst ≠ some t := fun h => by
      have := hno j o hj h
      rw [hset, if_pos rfl] at this; cases this
    obtain ⟨g1, g2⟩ := inv.base t v (fun k p hp hpd => by
      have := hno k p hp hpd
      rw [hset] at this
      split at this
      · cases this
      · exact this) hv'
    refine ⟨?_, g2.mono dd⟩
    rw [conc_agree ag g2]
    cases hd : o.dst with
    | none => exact g1
    | some u =>
      rw [hd] at hne
      simp only [Act.put, Array.getElem?_setIfInBounds]
      rw [if_neg (fun e' => hne (by rw [e']))]
      exact g1
  · intro i hi
    obtain ⟨h1, h2, h3⟩ := inv.gl i hi
    obtain ⟨e1, e2, _⟩ := ag i 0 h1
    exact ⟨dd i 0 h1, e1.trans h2, e2.trans h3⟩
end
end Go.Proofs.Ytgeelfdgnehdnaa

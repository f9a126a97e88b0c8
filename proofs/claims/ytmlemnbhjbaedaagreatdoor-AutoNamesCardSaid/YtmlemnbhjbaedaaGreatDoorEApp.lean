/-
  The plain machine's appends, and all operations that touch memory, are what the model does. Nothing here speaks of a program.
-/
import Derived.Test.YtmlemnbhjbaedaaGreatDoorEMem
import Derived.Test.YtmlemnbhjbaedaaGreatDoorIter
namespace Go.Proofs.YtmlemnbhjbaedaaGreatDoor
open Go.RowKit
set_option linter.unusedSimpArgs false
set_option linter.unusedVariables false

section
variable {P : Program} {C : Cfg} {s0 : World} {U : Nat} {D : Nat → Prop} {ρ : Env} {fr : Tr V} {a : Act} {w : World} {h : Heap}
/-- there is room, and the block is known so far -/
theorem app_room (r : Rel s0 U D ρ h w) {ts tx ty e bty : TypeId} {inf : TypeInfo} {b base off len esz : Nat} {lim : Option Nat} {v v' : V} {news : List V} {x : Value} (hu : P.underlying ts = some (.slice e)) (hi : P.info? e = some inf) (hsz : inf.size = esz)
    (hin : InD (DD D ρ) (.sl b base off len esz lim)) (hg : h.get b = some (.cells bty v)) (hn : news ≠ []) (hle : off + (len + news.length) * esz ≤ v.size) (hlim : ∀ c, lim = some c → len + news.length ≤ c) (hp : putN v (off + len * esz) esz news = some v')
    (hs : Src P esz tx x news.length (concE ρ esz news) w) (hni : InDL (DD D ρ) news) :
    ∃ w', (Builtin.append_ #[ts, tx] ty #[conc ρ (.sl b base off len esz lim), x]).run P w = .ok (conc ρ (.sl b base off (len + news.length) esz lim)) w' ∧ Rel s0 U D ρ (h.put b (.cells bty v')) w' ∧ Nxt D ρ h w D ρ (h.put b (.cells bty v')) w' ∧ InD (DD D ρ) (.sl b base off (len + news.length) esz lim) := by
  subst hsz
  have hn0 : 0 < news.length := by cases news with
    | nil => exact absurd rfl hn
    | cons _ _ => simp
  obtain ⟨hpos, hlen, hD, hroom⟩ := hin
  obtain ⟨k1, k2, k3, k4, k5, k6, k7⟩ := putN_spec (ρ := ρ) news v _ v' hp
  rw [if_neg hn] at k3
  have hvin : InD (DD D ρ) v := r.clo b _ hD hg
  obtain ⟨o, h1, pre, tail, rfl, h2, h3⟩ := r.has b _ hD hg
  have hcap : len + news.length ≤ slCap ρ b off inf.size lim := by
    cases lim with
    | some c => exact hlim c rfl
    | none => simp only [slCap]; rw [Nat.le_div_iff_mul_le hpos]; omega
  have hc0 : ¬ slCap ρ b off inf.size lim = 0 := by omega
  have hmul : (len + news.length) * inf.size = len * inf.size + news.length * inf.size := Nat.add_mul _ _ _
  have hnl : (concE ρ inf.size news).length = news.length * inf.size := concE_length _ _ _
  have hin2 : ρ.pre b + off + len * inf.size + (concE ρ inf.size news).length ≤ (pre ++ (cellsV ρ v ++ tail)).toArray.size := by
    simp only [List.size_toArray, List.length_append, cellsV_length]; omega
  have hcell : ∀ j, j < (concE ρ inf.size news).length → (w.cell? ⟨ρ.b b, ρ.pre b + off + len * inf.size + j, none⟩).isSome = true := fun j hj => by
    simp only [World.cell?, h1]
    have : ρ.pre b + off + len * inf.size + j < (pre ++ (cellsV ρ v ++ tail)).toArray.size := by omega
    simp only [Option.isSome_none, Bool.false_eq_true, if_false]
    rw [Array.getElem?_eq_getElem this]; rfl
  have hfrz : ∀ j, j < (concE ρ inf.size news).length → w.frozen? ⟨ρ.b b, ρ.pre b + off + len * inf.size + j, none⟩ = false := fun j _ => by simp [World.frozen?, h1]
  have key := run_append_room_src w ts tx ty e inf hu hi (ρ.b b) (ρ.pre b + off) len (slCap ρ b off inf.size lim) x news.length (concE ρ inf.size news) hs hcap hcell hfrz
  have ht := turned_setCells (concE ρ inf.size news) (ρ.pre b + off + len * inf.size) w (ρ.b b) _ bty h1 hin2
  obtain ⟨pre', tail', g1, g2, g3⟩ := put_sound r hD hg k1 k3 (by rw [hnl]; omega) (k6 _ hvin hni)
  rw [h1] at g1
  have hcs : (pre ++ (cellsV ρ v ++ tail)).toArray = (pre' ++ (cellsV ρ v ++ tail')).toArray := by
    simp only [Option.some.injEq, Obj.cells.injEq] at g1; exact g1.1
  rw [hcs, Nat.add_assoc] at ht
  obtain ⟨r', n'⟩ := g3 _ ht
  refine ⟨_, ?_, r', n', hpos, ?_, hD, ?_⟩
  · simp only [conc, slConc, hc0, if_false]
    rw [key, Nat.add_assoc]
  · cases lim with
    | some c => exact hlim c rfl
    | none => exact Nat.le_refl _
  · cases lim with
    | some c => exact hroom
    | none => simp only [Option.getD_none]; omega
/-- it is not known whether there is room -/
theorem app_amb (hC : CfgOK P C) (r : Rel s0 U D ρ h w) (hU : h.next + 1 ≤ U) {ts tx ty e : TypeId} {k : TyI} {b base off len : Nat} {v : V} {olds news : List V} {x : Value} (hu : P.underlying ts = some (.slice e)) (hk : C.ty e = some k) (hk0 : 0 < k.size)
    (hin : InD (DD D ρ) (.sl b base off len k.size none)) (hg : h.get b = some (.cells e v)) (hn : news ≠ []) (ho : subArr 50 v off len k.size = some olds)
    (hs : Src P k.size tx x news.length (concE ρ k.size news) w) (hb : (len + news.length) * k.bytes ≤ 140737488355328) (hm : len + news.length ≤ 70368744177664) (hni : InDL (DD D ρ) news) :
    ∃ val D' ρ' w', (Builtin.append_ #[ts, tx] ty #[conc ρ (.sl b base off len k.size none), x]).run P w = .ok val w' ∧ val = conc ρ' (.sl h.next 0 0 (len + news.length) k.size none) ∧
      Rel s0 U D' ρ' ((h.push (.cells e (.arr ((len + news.length) * k.size) k.size (olds ++ news)))).kill b) w' ∧ Nxt D ρ h w D' ρ' ((h.push (.cells e (.arr ((len + news.length) * k.size) k.size (olds ++ news)))).kill b) w' ∧ InD (DD D' ρ') (.sl h.next 0 0 (len + news.length) k.size none) := by
  have hn0 : 0 < news.length := by cases news with
    | nil => exact absurd rfl hn
    | cons _ _ => simp
  obtain ⟨g1, g2, g3, g4⟩ := subArr_spec (ρ := ρ) 50 v off len k.size olds ho
  have hvin : InD (DD D ρ) v := r.clo b _ hin.2.2.1 hg
  have hoi := g4 _ hvin
  obtain ⟨hpos, hlen, hD, hroom⟩ := hin
  have hin : InD (DD D ρ) (.sl b base off len k.size none) := ⟨hpos, hlen, hD, hroom⟩
  have hval : h.val b = some v := by simp [Heap.val, hg]
  by_cases hcap : len + news.length ≤ slCap ρ b off k.size none
  · -- in place
    obtain ⟨inf, hi, hsz, _⟩ := (hC.ty e k hk).info
    rw [← hsz] at hs ho g2 g3 hroom hpos hcap ⊢
    obtain ⟨o, h1, pre, tail, rfl, h2, h3⟩ := r.has b _ hD hg
    have hc0 : ¬ slCap ρ b off inf.size none = 0 := by omega
    have hmul : (len + news.length) * inf.size = len * inf.size + news.length * inf.size := Nat.add_mul _ _ _
    have hnl : (concE ρ inf.size news).length = news.length * inf.size := concE_length _ _ _
    have hol : (concE ρ inf.size olds).length = len * inf.size := by rw [concE_length, g1]
    have hfit : off + (len + news.length) * inf.size ≤ ρ.cap b := by
      have h4 := hcap
      simp only [slCap] at h4
      rw [Nat.le_div_iff_mul_le hpos] at h4
      simp only [Option.getD_none] at hroom
      omega
    obtain ⟨L, hL⟩ : ∃ L, L = pre ++ (cellsV ρ v ++ tail) := ⟨_, rfl⟩
    rw [← hL] at h1
    have hLl : L.length = ρ.pre b + ρ.cap b := by rw [hL]; simp only [List.length_append, cellsV_length]; omega
    have hin2 : ρ.pre b + off + len * inf.size + (concE ρ inf.size news).length ≤ L.toArray.size := by
      simp only [List.size_toArray]; omega
    have hcell : ∀ j, j < (concE ρ inf.size news).length → (w.cell? ⟨ρ.b b, ρ.pre b + off + len * inf.size + j, none⟩).isSome = true := fun j hj => by
      simp only [World.cell?, h1]
      have : ρ.pre b + off + len * inf.size + j < L.toArray.size := by omega
      simp only [Option.isSome_none, Bool.false_eq_true, if_false]
      rw [Array.getElem?_eq_getElem this]; rfl
    have hfrz : ∀ j, j < (concE ρ inf.size news).length → w.frozen? ⟨ρ.b b, ρ.pre b + off + len * inf.size + j, none⟩ = false := fun j _ => by simp [World.frozen?, h1]
    have key := run_append_room_src w ts tx ty e inf hu hi (ρ.b b) (ρ.pre b + off) len (slCap ρ b off inf.size none) x news.length (concE ρ inf.size news) hs hcap hcell hfrz
    have ht := turned_setCells (concE ρ inf.size news) (ρ.pre b + off + len * inf.size) w (ρ.b b) _ e h1 hin2
    have hO : (L.drop (ρ.pre b + off)).take (len * inf.size) = concE ρ inf.size olds := by
      rw [hL, ← h2, List.drop_length_add_append, List.drop_append_of_le_length (by simp; omega), List.take_append_of_le_length (by simp; omega), g3]
    have hv : InD (DD D ρ) (.arr ((len + news.length) * inf.size) inf.size (olds ++ news)) := InDL_iff.2 fun y hy => by
      rcases List.mem_append.1 hy with h | h
      · exact InDL_iff.1 hoi y h
      · exact InDL_iff.1 hni y h
    have hne := r.next_new hU
    have hag : Env.Agree (DD D ρ) ρ (ρ.add h.next (ρ.b b) (ρ.pre b + off) (ρ.cap b - off)) := Env.add_agree hne
    have hcells : cellsV (ρ.add h.next (ρ.b b) (ρ.pre b + off) (ρ.cap b - off)) (.arr ((len + news.length) * inf.size) inf.size (olds ++ news)) = concE ρ inf.size olds ++ concE ρ inf.size news := by
      rw [cellsV_agree hag hv]
      simp only [cellsV]
      rw [fit_self (by rw [concE_length]; simp [g1]), concE_append]
    have hkn : KnB (ρ.add h.next (ρ.b b) (ρ.pre b + off) (ρ.cap b - off)) h.next (.cells e (.arr ((len + news.length) * inf.size) inf.size (olds ++ news))) (.cells (splice L.toArray (ρ.pre b + off + len * inf.size) (concE ρ inf.size news).toArray) e) := by
      refine ⟨L.take (ρ.pre b + off), L.drop (ρ.pre b + off + len * inf.size + (concE ρ inf.size news).length), ?_, ?_, ?_⟩
      · rw [hcells]
        congr 1
        simp only [splice, List.size_toArray]
        congr 1
        rw [List.take_add, hO]
        simp [List.append_assoc]
      · simp [Env.add]; omega
      · show (len + news.length) * inf.size + _ = _
        simp only [Env.add, if_true, List.length_drop]
        omega
    obtain ⟨r', n'⟩ := r.move hU (B' := .cells e (.arr ((len + news.length) * inf.size) inf.size (olds ++ news))) hD hg rfl rfl ht hv hkn
    refine ⟨.slice (some ⟨ρ.b b, ρ.pre b + off, none⟩) (len + news.length) (slCap ρ b off inf.size none), _, _, _, ?_, ?_, r', n', hpos, Nat.le_refl _, .inr rfl, ?_⟩
    · simp only [conc, slConc, hc0, if_false]
      exact key
    · have hsc : slCap (ρ.add h.next (ρ.b b) (ρ.pre b + off) (ρ.cap b - off)) h.next 0 inf.size none = slCap ρ b off inf.size none := by simp [slCap, Env.add]
      simp only [conc, slConc, hsc, hc0, if_false]
      simp [Env.add]
    · simp only [Env.add, if_true, Option.getD_none]; omega
  · -- a new row
    have hold : (Builtin.firstCells k.size len (conc ρ (.sl b base off len k.size none))).run P w.drew = .ok (concE ρ k.size olds).toArray w.drew := by
      simp only [conc, slConc]
      exact run_firstCells_some w.drew k.size len _ len _ _ (by rw [concE_length, g1]) fun j u hj => by
        have := sl_cells r hin hval ho j u hj
        simpa using this
    obtain ⟨val, D', ρ', w', q1, q2, q3, q4, q5⟩ := app_grow (ty := ty) hC r hU hu hk hk0 (base := some ⟨ρ.b b, ρ.pre b + (if slCap ρ b off k.size none = 0 then base else off), none⟩) (cap := slCap ρ b off k.size none) hold g1 hs (by omega) hb hm hoi hni
    obtain ⟨k1, k2⟩ := q3.kill b
    exact ⟨val, D', ρ', w', q1, q2, k1, q4.trans r.lt (by exact hU) k2, q5⟩
/-- append -/
theorem app_sound (hC : CfgOK P C) (r : Rel s0 U D ρ h w) {ts tx ty : TypeId} {s x v : V} {h' : Heap} (hs : InD (DD D ρ) s) (hx : InD (DD D ρ) x) (ha : appendV C h ts tx s x = some (v, h')) (hU : h'.next ≤ U) :
    ∃ val D' ρ' w', (Builtin.append_ #[ts, tx] ty #[conc ρ s, conc ρ x]).run P w = .ok val w' ∧ val = conc ρ' v ∧ Rel s0 U D' ρ' h' w' ∧ Nxt D ρ h w D' ρ' h' w' ∧ InD (DD D' ρ') v := by
  unfold appendV at ha
  split at ha
  · cases ha
  rename_i j hj
  split at ha
  case h_2 => cases ha
  rename_i e he
  have hd := (hC.ty ts j hj).d
  rw [he] at hd
  have hu : P.underlying ts = some (.slice e) := hd
  split at ha
  · cases ha
  rename_i k hk
  split at ha
  · cases ha
  rename_i hz
  have hk0 : 0 < k.size := by
    rcases Nat.eq_zero_or_pos k.size with h0 | h0
    · rw [beq_t h0] at hz; cases hz
    · exact h0
  split at ha
  · cases ha
  rename_i news hnews
  obtain ⟨hsrc, hni⟩ := srcV_spec hC r hx hnews
  obtain ⟨inf, hi, hsz, hby, _⟩ := (hC.ty e k hk).info
  split at ha
  · -- onto nothing
    split at ha
    · cases ha
      refine ⟨_, D, ρ, w, ?_, rfl, r, Nxt.refl _ _ _ _, trivial⟩
      rcases hsrc.kind with ⟨e', hk'⟩ | hk' <;> simp [conc, Builtin.append_, run_underlying hu, run_underlying hk', sizeOf, typeInfo, hi, hsrc.len] <;> (have := hsrc.cells; simp [concE] at this; rw [hsz]; simp [this])
    · rename_i y ys
      split at ha
      · rename_i hc
        simp only [Bool.and_eq_true] at hc
        have hc1 := Nat.le_of_ble_eq_true hc.1
        have hc2 := Nat.le_of_ble_eq_true hc.2
        cases ha
        obtain ⟨val, D', ρ', w', q1, q2, q3, q4, q5⟩ := app_grow (ty := ty) hC r hU hu hk hk0 (base := none) (cap := 0) (len := 0) (olds := []) (news := y :: ys) (run_firstCells_none _ _ _ _ _) rfl hsrc (by simp) (by simpa using hc1) (by simpa using hc2) trivial hni
        simp only [Nat.zero_add, List.nil_append] at q2 q3 q4 q5
        exact ⟨val, D', ρ', w', by simpa [conc] using q1, q2, q3, q4, q5⟩
      · cases ha
  · -- onto a slice
    rename_i b base off len esz lim
    split at ha
    · cases ha
    · -- nothing more
      rename_i hes
      rw [Nat.beq_eq] at hes
      cases ha
      refine ⟨_, D, ρ, w, ?_, rfl, r, Nxt.refl _ _ _ _, hs⟩
      have hc := slCap_ge hs
      rcases hsrc.kind with ⟨e', hk'⟩ | hk' <;> simp [conc, slConc, Builtin.append_, run_underlying hu, run_underlying hk', sizeOf, typeInfo, hi, hsrc.len, hc] <;> (have := hsrc.cells; simp [concE] at this; rw [hsz]; simp [this, storeCells])
    · rename_i y ys hes
      rw [Nat.beq_eq] at hes
      subst hes
      split at ha
      · cases ha
      rename_i hc
      simp only [Bool.and_eq_true] at hc
      have hc1 := Nat.le_of_ble_eq_true hc.1
      have hc2 := Nat.le_of_ble_eq_true hc.2
      split at ha
      · -- a limit is known
        rename_i c
        split at ha
        · rename_i hroom
          have hroom := Nat.le_of_ble_eq_true hroom
          split at ha
          · rename_i bty bv hg
            split at ha
            · rename_i hle
              have hle := Nat.le_of_ble_eq_true hle
              split at ha
              · rename_i v' hp
                cases ha
                obtain ⟨w', q1, q2, q3, q4⟩ := app_room (ty := ty) r hu hi hsz hs hg (by simp) hle (fun c' hc' => by cases hc'; exact hroom) hp hsrc hni
                exact ⟨_, D, ρ, w', q1, rfl, q2, q3, q4⟩
              · cases ha
            · cases ha
          · cases ha
        · rename_i hroom
          have hroom : ¬ len + (y :: ys).length ≤ c := fun h' => by rw [Nat.ble_eq_true_of_le h'] at hroom; cases hroom
          split at ha
          · rename_i bv hv
            split at ha
            · rename_i olds ho
              cases ha
              obtain ⟨g1, g2, g3, g4⟩ := subArr_spec (ρ := ρ) 50 bv off len k.size olds ho
              obtain ⟨_, _, _, _, _, _, _, hvin⟩ := r.val hs.2.2.1 hv
              have hold : (Builtin.firstCells k.size len (conc ρ (.sl b base off len k.size (some c)))).run P w.drew = .ok (concE ρ k.size olds).toArray w.drew := by
                simp only [conc, slConc]
                exact run_firstCells_some w.drew k.size len _ len _ _ (by rw [concE_length, g1]) fun j u hj => by
                  have := sl_cells r hs hv ho j u hj
                  simpa using this
              exact app_grow (ty := ty) hC r hU hu hk hk0 hold g1 hsrc (by simp only [slCap]; omega) hc1 hc2 (g4 _ hvin) hni
            · cases ha
          · cases ha
      · split at ha
        · rename_i bty bv hg
          split at ha
          · rename_i hle
            have hle := Nat.le_of_ble_eq_true hle
            split at ha
            · rename_i v' hp
              cases ha
              obtain ⟨w', q1, q2, q3, q4⟩ := app_room (ty := ty) r hu hi hsz hs hg (by simp) hle (fun c' hc' => by cases hc') hp hsrc hni
              exact ⟨_, D, ρ, w', q1, rfl, q2, q3, q4⟩
            · cases ha
          · split at ha
            · rename_i olds hty ho
              rw [Nat.beq_eq] at hty
              subst hty
              cases ha
              exact app_amb (ty := ty) hC r hU hu hk hk0 hs hg (by simp) ho hsrc hc1 hc2 hni
            · cases ha
        · cases ha
  · cases ha
/-- the first elements of what is appended or copied -/
theorem src_first (hC : CfgOK P C) (r : Rel s0 U D ρ h w) {tx : TypeId} {esz : Nat} {x : V} {all : List V} (hx : InD (DD D ρ) x) (hs : srcV C h tx esz x = some all) {m : Nat} (hm : m ≤ all.length) :
    (Builtin.firstCells esz m (conc ρ x)).run P w = .ok (concE ρ esz (all.take m)).toArray w := by
  unfold srcV at hs
  split at hs
  · cases hs
  · rename_i j hj
    split at hs
    · cases hs
      obtain rfl : m = 0 := by simpa using hm
      exact run_firstCells_none _ _ _ _ _
    · rename_i e b base off n e' lim he
      split at hs
      · rename_i v hes hv
        rw [Nat.beq_eq] at hes
        subst hes
        obtain ⟨g1, g2, g3, g4⟩ := subArr_spec (ρ := ρ) 50 v off n e' all hs
        simp only [conc, slConc]
        refine run_firstCells_some w e' m _ n _ _ (by rw [concE_length, List.length_take]; congr 1; omega) fun j u hj => ?_
        rw [concE_take, List.getElem?_take] at hj
        split at hj
        · exact sl_cells r hx hv hs j u hj
        · cases hj
      · cases hs
    · rename_i s he
      split at hs
      · rename_i h1
        rw [Nat.beq_eq] at h1
        subst h1
        cases hs
        have hb := bytes_concE ρ (s.take m)
        have ht : (bytesV s).take m = bytesV (s.take m) := by simp [bytesV, List.map_take]
        rw [ht, hb]
        simp only [conc, Builtin.firstCells, Sem.run_pure]
        rw [show (⟨⟨s⟩⟩ : ByteArray).extract 0 m = ⟨⟨s.take m⟩⟩ by rw [str_extract]; simp]
        congr 1
        apply Array.ext'
        simp
      · cases hs
    · cases hs
/-- a copy -/
theorem copy_sound (hC : CfgOK P C) (r : Rel s0 U D ρ h w) {ts tx ty : TypeId} {s x v : V} {h' : Heap} (hs : InD (DD D ρ) s) (hx : InD (DD D ρ) x) (ha : copyV C h ts tx s x = some (v, h')) :
    ∃ w', (Builtin.copy_ #[ts, tx] ty #[conc ρ s, conc ρ x]).run P w = .ok (conc ρ v) w' ∧ Rel s0 U D ρ h' w' ∧ Nxt D ρ h w D ρ h' w' ∧ InD (DD D ρ) v := by
  unfold copyV at ha
  split at ha
  · cases ha
  rename_i j hj
  split at ha
  case h_2 => cases ha
  rename_i e he
  have hd := (hC.ty ts j hj).d
  rw [he] at hd
  have hu : P.underlying ts = some (.slice e) := hd
  split at ha
  · cases ha
  rename_i k hk
  split at ha
  · cases ha
  rename_i all hall
  obtain ⟨hsrc, hni⟩ := srcV_spec hC r hx hall
  obtain ⟨inf, hi, hsz, hby, _⟩ := (hC.ty e k hk).info
  have hfirst : ∀ m, m ≤ all.length → (Builtin.firstCells inf.size m (conc ρ x)).run P w = .ok (concE ρ k.size (all.take m)).toArray w := fun m hm => by rw [hsz]; exact src_first hC r hx hall hm
  have hmin : ∀ n, Nat.min all.length n ≤ all.length := fun n => Nat.min_le_left _ _
  split at ha
  · cases ha
    refine ⟨w, ?_, r, Nxt.refl _ _ _ _, trivial⟩
    have := hfirst 0 (Nat.zero_le _)
    simp [conc, Builtin.copy_, run_underlying hu, sizeOf, typeInfo, hi, hsrc.len, this, goInt]
  · rename_i b base off len esz lim
    have hc := slCap_ge hs
    split at ha
    · rename_i hes htk
      cases ha
      refine ⟨w, ?_, r, Nxt.refl _ _ _ _, trivial⟩
      have h0 : Nat.min all.length len = 0 := by
        have := congrArg List.length htk
        simp only [List.length_take, List.length_nil] at this
        show min all.length len = 0
        omega
      have := hfirst 0 (Nat.zero_le _)
      simp only [List.take_zero, concE] at this
      simp [conc, slConc, Builtin.copy_, run_underlying hu, sizeOf, typeInfo, hi, hsrc.len, h0, this, goInt, storeCells]
    · rename_i y ys hes htk
      rw [Nat.beq_eq] at hes
      subst hes
      split at ha
      · rename_i bty bv hg
        split at ha
        · rename_i hle
          have hle := Nat.le_of_ble_eq_true hle
          split at ha
          · rename_i v' hp
            cases ha
            have hnl : Nat.min all.length len = (y :: ys).length := by
              have := congrArg List.length htk
              simp only [List.length_take] at this
              show min all.length len = _
              omega
            obtain ⟨hpos, hlen, hD, hroom⟩ := hs
            obtain ⟨k1, k2, k3, k4, k5, k6, k7⟩ := putN_spec (ρ := ρ) (y :: ys) bv _ v' hp
            rw [if_neg (by simp)] at k3
            have hvin : InD (DD D ρ) bv := r.clo b _ hD hg
            obtain ⟨o, h1, pre, tail, rfl, h2, h3⟩ := r.has b _ hD hg
            have hc0 : ¬ slCap ρ b off k.size lim = 0 := by
              have : (y :: ys).length ≤ len := by rw [← hnl]; exact Nat.min_le_right _ _
              simp only [List.length_cons] at this
              omega
            have hlen' : (y :: ys).length = ys.length + 1 := rfl
            have hcl : (concE ρ k.size (y :: ys)).length = (y :: ys).length * k.size := concE_length _ _ _
            have hin2 : ρ.pre b + off + (concE ρ k.size (y :: ys)).length ≤ (pre ++ (cellsV ρ bv ++ tail)).toArray.size := by
              simp only [List.size_toArray, List.length_append, cellsV_length]; rw [hcl, hlen']; omega
            have hcell : ∀ j, j < (concE ρ k.size (y :: ys)).length → (w.cell? ⟨ρ.b b, ρ.pre b + off + 0 + j, none⟩).isSome = true := fun j hj => by
              simp only [World.cell?, h1]
              have : ρ.pre b + off + 0 + j < (pre ++ (cellsV ρ bv ++ tail)).toArray.size := by omega
              simp only [Option.isSome_none, Bool.false_eq_true, if_false]
              rw [Array.getElem?_eq_getElem this]; rfl
            have hfrz : ∀ j, j < (concE ρ k.size (y :: ys)).length → w.frozen? ⟨ρ.b b, ρ.pre b + off + 0 + j, none⟩ = false := fun j _ => by simp [World.frozen?, h1]
            have hst := run_storeCells_cells (P := P) (ρ.b b) (ρ.pre b + off) (concE ρ k.size (y :: ys)) 0 w hcell hfrz (cells_oneE ρ k.size (y :: ys))
            have ht := turned_setCells (concE ρ k.size (y :: ys)) (ρ.pre b + off) w (ρ.b b) _ bty h1 hin2
            obtain ⟨pre', tail', g1, g2, g3⟩ := put_sound r hD hg k1 k3 (by rw [hcl, hlen']; exact hle) (k6 _ hvin (by rw [← htk]; exact InDL_iff.2 fun z hz => InDL_iff.1 hni z (List.mem_of_mem_take hz)))
            rw [h1] at g1
            have hcs : (pre ++ (cellsV ρ bv ++ tail)).toArray = (pre' ++ (cellsV ρ bv ++ tail')).toArray := by
              simp only [Option.some.injEq, Obj.cells.injEq] at g1; exact g1.1
            rw [hcs] at ht
            obtain ⟨r', n'⟩ := g3 _ ht
            refine ⟨_, ?_, r', n', trivial⟩
            have hf := hfirst (y :: ys).length (by rw [← hnl]; exact Nat.min_le_left _ _)
            have htk2 : all.take (y :: ys).length = y :: ys := by
              rw [← htk]
              simp only [List.length_take]
              rw [List.take_eq_take_iff]
              omega
            rw [htk2] at hf
            simp only [Nat.add_zero] at hst
            simp only [conc, slConc, hc0, if_false]
            have hnl : Nat.min all.length len = ys.length + 1 := hnl
            have hf : (Builtin.firstCells inf.size (ys.length + 1) (conc ρ x)).run P w = .ok (concE ρ k.size (y :: ys)).toArray w := hf
            simp [Builtin.copy_, run_underlying hu, sizeOf, typeInfo, hi, hsrc.len, hnl, hf, hst, goInt]
          · cases ha
        · cases ha
      · cases ha
    · cases ha
  · cases ha
/-- a slice's elements, all made nought -/
theorem clear_sound (hC : CfgOK P C) (r : Rel s0 U D ρ h w) {t ty e bty : TypeId} {k : TyI} {b base off n : Nat} {lim : Option Nat} {bv v' : V} (hu : P.underlying t = some (.slice e)) (hk : C.ty e = some k) (hs : InD (DD D ρ) (.sl b base off (n + 1) k.size lim)) (hg : h.get b = some (.cells bty bv)) (hle : off + (n + 1) * k.size ≤ bv.size)
    (hp : putN bv off k.size (List.replicate (n + 1) k.zero) = some v') :
    ∃ w', (Builtin.clear_ #[t] ty #[conc ρ (.sl b base off (n + 1) k.size lim)]).run P w = .ok (.tuple #[]) w' ∧ Rel s0 U D ρ (h.put b (.cells bty v')) w' ∧ Nxt D ρ h w D ρ (h.put b (.cells bty v')) w' := by
  have ok := hC.ty e k hk
  have hz := run_zeroValue' (P := P) (ok.zero ρ)
  have zin : InD (DD D ρ) k.zero := ok.zin.mono fun _ _ h => h.elim
  have hc := slCap_ge hs
  obtain ⟨hpos, hlen, hD, hroom⟩ := hs
  obtain ⟨k1, k2, k3, k4, k5, k6, k7⟩ := putN_spec (ρ := ρ) (List.replicate (n + 1) k.zero) bv _ v' hp
  rw [if_neg (by simp)] at k3
  have hvin : InD (DD D ρ) bv := r.clo b _ hD hg
  obtain ⟨o, h1, pre, tail, rfl, h2, h3⟩ := r.has b _ hD hg
  have hc0 : ¬ slCap ρ b off k.size lim = 0 := by omega
  have hcl : (concE ρ k.size (List.replicate (n + 1) k.zero)).length = (n + 1) * k.size := by rw [concE_length]; simp
  have hzs : (conc ρ k.zero).cells = (cellsV ρ k.zero).toArray := conc_cells (by
    cases ha : k.agg with
    | true => exact .inr (by rw [ok.zagg]; exact ha)
    | false => exact .inl (ok.zleaf ha))
  have hzc : (Builtin.zeroCells (conc ρ k.zero).cells (n + 1)).toList = concE ρ k.size (List.replicate (n + 1) k.zero) := by
    have := rep_cells ρ (n + 1) k.size k.zero ok.zsize hpos
    have h4 : cellsV ρ (repV (n + 1) k.size k.zero) = concE ρ k.size (List.replicate (n + 1) k.zero) := by
      simp only [repV, cellsV]
      rw [fit_self hcl]
    rw [h4] at this
    have h5 := congrArg Array.toList this
    simp only at h5
    rw [h5, hzs]
    unfold Builtin.zeroCells
    simp [ok.zsize]
  have hin2 : ρ.pre b + off + (concE ρ k.size (List.replicate (n + 1) k.zero)).length ≤ (pre ++ (cellsV ρ bv ++ tail)).toArray.size := by
    simp only [List.size_toArray, List.length_append, cellsV_length]; rw [hcl]; omega
  have hcell : ∀ j, j < (concE ρ k.size (List.replicate (n + 1) k.zero)).length → (w.cell? ⟨ρ.b b, ρ.pre b + off + 0 + j, none⟩).isSome = true := fun j hj => by
    simp only [World.cell?, h1]
    have : ρ.pre b + off + 0 + j < (pre ++ (cellsV ρ bv ++ tail)).toArray.size := by omega
    simp only [Option.isSome_none, Bool.false_eq_true, if_false]
    rw [Array.getElem?_eq_getElem this]; rfl
  have hfrz : ∀ j, j < (concE ρ k.size (List.replicate (n + 1) k.zero)).length → w.frozen? ⟨ρ.b b, ρ.pre b + off + 0 + j, none⟩ = false := fun j _ => by simp [World.frozen?, h1]
  have hst := run_storeCells_cells (P := P) (ρ.b b) (ρ.pre b + off) (concE ρ k.size (List.replicate (n + 1) k.zero)) 0 w hcell hfrz (cells_oneE ρ k.size _)
  have ht := turned_setCells (concE ρ k.size (List.replicate (n + 1) k.zero)) (ρ.pre b + off) w (ρ.b b) _ bty h1 hin2
  obtain ⟨pre', tail', g1, g2, g3⟩ := put_sound r hD hg k1 k3 (by rw [hcl]; exact hle) (k6 _ hvin (InDL_iff.2 fun z hz => by rw [(List.mem_replicate.1 hz).2]; exact zin))
  rw [h1] at g1
  have hcs : (pre ++ (cellsV ρ bv ++ tail)).toArray = (pre' ++ (cellsV ρ bv ++ tail')).toArray := by
    simp only [Option.some.injEq, Obj.cells.injEq] at g1; exact g1.1
  rw [hcs] at ht
  obtain ⟨r', n'⟩ := g3 _ ht
  refine ⟨_, ?_, r', n'⟩
  simp only [Nat.add_zero] at hst
  simp only [conc, slConc, hc0, if_false]
  simp [Builtin.clear_, run_underlying hu, hz, hzc, hst]
/-- a row that bears the mark of text -/
theorem run_stringish {P : Program} {w : World} {q : Nat} {cs : Array Value} {ty : TypeId} (h : w.heap[q]? = some (.cells cs ty (0, 0))) :
    ∃ w', (∀ off, (markStringish ⟨q, off, none⟩).run P w = .ok () w') ∧ Turned q (.cells cs ty (cs.size, cs.size + 1)) w w' := by
  have hlt := (Array.getElem?_eq_some_iff.1 h).1
  refine ⟨w.putObj q (.cells cs ty (cs.size, cs.size + 1)), fun off => ?_, turned_putObj _ hlt⟩
  have hsh : w.shape? q = some (ty, cs.size) := by simp [World.shape?, h]
  have hfr : w.freeze ⟨q, cs.size, none⟩ 1 = w.putObj q (.cells cs ty (cs.size, cs.size + 1)) := by
    unfold World.freeze World.putObj
    rw [if_neg (by decide)]
    congr 1
    apply Array.ext_getElem?
    intro j
    rw [Array.getElem?_modify, Array.getElem?_setIfInBounds]
    by_cases e : q = j
    · subst e
      have hq : w.heap[q] = .cells cs ty (0, 0) := by
        have := h; rw [Array.getElem?_eq_getElem hlt] at this; exact Option.some.inj this
      simp [hlt, hq]
    · simp [e]
  simp [markStringish, hsh, hfr]
theorem descOf_spec {e : TypeId} {d : TyD} (h : descOf C e = some d) : ∃ k, C.ty e = some k ∧ k.d = d := by
  unfold descOf at h
  split at h
  · rename_i k hk; cases h; exact ⟨k, hk, rfl⟩
  · cases h
theorem bytesOf_spec (ρ : Env) : ∀ (l : List V) (r : List UInt8), bytesOf l = some r → r.length = l.length ∧ concE ρ 1 l = r.map fun b => Value.int .u8 b.toNat
  | [], r, h => by simp [bytesOf] at h; subst h; exact ⟨rfl, rfl⟩
  | v :: l, r, h => by
    unfold bytesOf at h
    split at h
    · rename_i e; cases e
    · rename_i c l' e
      simp only [List.cons.injEq] at e
      obtain ⟨rfl, rfl⟩ := e
      split at h
      · rename_i r' h1 h2
        cases h
        obtain ⟨g1, g2⟩ := bytesOf_spec ρ _ _ h2
        rw [Nat.blt_eq] at h1
        refine ⟨by simp [g1], ?_⟩
        simp only [concE, List.map_cons, g2]
        have : (UInt8.ofNat c).toNat = c := by simp; omega
        rw [this]; rfl
      · cases h
    · cases h
theorem concE_flat (ρ : Env) : ∀ (l : List V), (∀ x ∈ l, x.isAgg = false) → concE ρ 1 l = l.map (cell1 ρ)
  | [], _ => rfl
  | x :: l, h => by
    rw [concE, concE_flat ρ l fun y hy => h y (List.mem_cons_of_mem _ hy), cells_cell1 (h x (List.mem_cons_self ..)), fit_self (n := 1) (l := [cell1 ρ x]) rfl]; rfl
theorem flatE_length (e : Nat) : ∀ l : List V, (flatE e l).length = l.length * e
  | [] => by simp [flatE]
  | v :: l => by simp [flatE, flatE_length e l, Nat.add_mul]; omega
theorem bytesOf_flat (ρ : Env) {l : List V} {r : List UInt8} (h : bytesOf (flatE 1 l) = some r) : r.length = l.length ∧ concE ρ 1 l = r.map fun b => Value.int .u8 b.toNat := by
  obtain ⟨h1, h2⟩ := bytesOf_spec ρ _ _ h
  refine ⟨by rw [h1, flatE_length]; omega, ?_⟩
  rw [← h2, concE_flat ρ _ (fun x hx => flat_oneE 1 l x hx), flatE_cells]
/-! ### maps -/
theorem bytesBEq (s s' : List UInt8) : ((⟨⟨s⟩⟩ : ByteArray) == ⟨⟨s'⟩⟩) = decide (s = s') := by
  show ((⟨s⟩ : Array UInt8) == ⟨s'⟩) = _
  rw [Bool.eq_iff_iff]; simp
theorem kEqV_spec (ρ : Env) {d : TypeDesc} {k k' : V} {b : Bool} (hd : (∃ kk j n, d = .int kk ∧ k = .int j n) ∨ (d = .string ∧ ∃ s, k = .str s)) (h : kEqV k k' = some b) :
    Instr.sameNow d (conc ρ k) (conc ρ k') = some b ∧ (b = true → conc ρ k' = conc ρ k) := by
  rcases hd with ⟨kk, j, n, rfl, rfl⟩ | ⟨rfl, s, rfl⟩
  · cases k' <;> simp only [kEqV] at h <;> try (cases h; done)
    rename_i j' n'
    split at h
    · rename_i hj
      have hj := of_decide_eq_true hj
      subst hj
      cases h
      simp only [conc, Instr.sameNow, if_true, eqI_eq]
      refine ⟨congrArg some ?_, fun hb => ?_⟩
      · rw [Bool.eq_iff_iff]; simp
      · have := of_decide_eq_true hb; rw [this]
    · cases h
  · cases k' <;> simp only [kEqV] at h <;> try (cases h; done)
    rename_i s'
    cases h
    simp only [conc, Instr.sameNow, bytesEq_eq, bytesBEq]
    refine ⟨trivial, fun hb => ?_⟩
    · have := of_decide_eq_true hb; rw [this]
theorem findM_spec (ρ : Env) {d : TypeDesc} {k : V} (hd : (∃ kk j n, d = .int kk ∧ k = .int j n) ∨ (d = .string ∧ ∃ s, k = .str s)) : ∀ (es : List (V × V × Nat)) (i : Nat) (r : Option (Nat × V × Nat)), findM k es i = some r →
    Instr.findNow d (conc ρ k) (concM ρ es) i = some (r.map fun p => (p.1, conc ρ p.2.1)) ∧ ∀ p, r = some p → ∃ k' m, p.1 = i + m ∧ es[m]? = some (k', p.2.1, p.2.2) ∧ conc ρ k' = conc ρ k
  | [], i, r, h => by cases h; exact ⟨rfl, fun p hp => by cases hp⟩
  | e :: l, i, r, h => by
    unfold findM at h
    split at h
    · rename_i hk
      cases h
      obtain ⟨h1, h2⟩ := kEqV_spec ρ hd hk
      refine ⟨?_, fun p hp => ?_⟩
      · simp only [concM, List.map_cons, Instr.findNow, h1]; rfl
      · cases hp
        exact ⟨e.1, 0, rfl, rfl, h2 rfl⟩
    · rename_i hk
      obtain ⟨h1, _⟩ := kEqV_spec ρ hd hk
      obtain ⟨g1, g2⟩ := findM_spec ρ hd l (i + 1) r h
      refine ⟨?_, fun p hp => ?_⟩
      · simp only [concM, List.map_cons, Instr.findNow, h1]
        exact g1
      · obtain ⟨k', m, q1, q2, q3⟩ := g2 p hp
        exact ⟨k', m + 1, by omega, q2, q3⟩
    · cases h
theorem keyOK_spec (hC : CfgOK P C) {kt : TypeId} {k : V} (h : keyOK C kt k = true) : ∃ d, P.underlying kt = some d ∧ ((∃ kk j n, d = .int kk ∧ k = .int j n) ∨ (d = .string ∧ ∃ s, k = .str s)) := by
  unfold keyOK at h
  split at h
  · rename_i j hj
    have hd := (hC.ty kt j hj).d
    split at h
    · rename_i kk j' n he
      rw [he] at hd
      exact ⟨_, hd, .inl ⟨_, _, _, rfl, rfl⟩⟩
    · rename_i s he
      rw [he] at hd
      exact ⟨_, hd, .inr ⟨rfl, _, rfl⟩⟩
    · cases h
  · cases h
theorem checkKey_ok {kt : TypeId} {k : V} {d : TypeDesc} (hu : P.underlying kt = some d) (hd : (∃ kk j n, d = .int kk ∧ k = .int j n) ∨ (d = .string ∧ ∃ s, k = .str s)) (ρ : Env) (e : Bool) (w : World) : (Instr.checkKey e 10000 kt (conc ρ k)).run P w = .ok () w := by
  have key : ∀ m, (Instr.checkKey e (m + 1) kt (conc ρ k)).run P w = .ok () w := fun m => by
    rcases hd with ⟨kk, j, n, rfl, rfl⟩ | ⟨rfl, s, rfl⟩ <;> (unfold Instr.checkKey; simp [run_underlying hu, conc])
  exact key 9999
theorem sameBits_self {k : V} {d : TypeDesc} (hd : (∃ kk j n, d = .int kk ∧ k = .int j n) ∨ (d = .string ∧ ∃ s, k = .str s)) (ρ : Env) : Instr.sameBits 10000 (conc ρ k) (conc ρ k) = true := by
  rcases hd with ⟨kk, j, n, rfl, rfl⟩ | ⟨rfl, s, rfl⟩ <;> simp [conc, Instr.sameBits, bytesBEq]
theorem findKey_ok {kt : TypeId} {k : V} {d : TypeDesc} (hu : P.underlying kt = some d) (hd : (∃ kk j n, d = .int kk ∧ k = .int j n) ∨ (d = .string ∧ ∃ s, k = .str s)) (ρ : Env) {es : List (V × V × Nat)} {r : Option (Nat × V × Nat)} (h : findM k es 0 = some r) (w : World) :
    (Instr.findKey kt (conc ρ k) (concM ρ es)).run P w = .ok (r.map fun p => (p.1, conc ρ p.2.1)) w := by
  simp [Instr.findKey, run_underlying hu, (findM_spec ρ hd es 0 r h).1]
theorem gObj_of {b : Nat} {es : Array MapEntry} {c : Nat} (h : w.heap[b]? = some (.map es c)) : (getObj b).run P w = .ok (.map es c) w := by simp [getObj, Sem.run, h]
theorem sObj_of {b : Nat} {es : Array MapEntry} {c : Nat} (o' : Obj) (h : w.heap[b]? = some (.map es c)) : (setObj b o').run P w = .ok () (w.putObj b o') := by simp [setObj, Sem.run, h, World.putObj]
theorem concM_set (ρ : Env) (es : List (V × V × Nat)) (i : Nat) (k v : V) (b : Nat) {k' v' : V} (he : es[i]? = some (k', v', b)) (f : MapEntry → MapEntry) (hf : f ⟨conc ρ k', conc ρ v', b⟩ = ⟨conc ρ k, conc ρ v, b⟩) :
    (concM ρ es).modify i f = concM ρ (es.set i (k, v, b)) := by
  apply List.ext_getElem?
  intro j
  rw [List.getElem?_modify]
  simp only [concM, List.getElem?_map, List.getElem?_set]
  have hl : i < es.length := (List.getElem?_eq_some_iff.1 he).1
  by_cases h : i = j
  · subst h
    rw [he]
    simp [hl, hf]
  · simp [h]
theorem bornM_spec (ρ : Env) (n : Nat) : ∀ (es : List (V × V × Nat)) (i m : Nat), bornM n es i = some m → ∃ q, m = i + q ∧ (concM ρ es).findIdx? (fun e => (e.born : Int) == (n : Int)) = some q
  | [], i, m, h => by cases h
  | e :: l, i, m, h => by
    unfold bornM at h
    simp only [concM, List.map_cons, List.findIdx?_cons]
    split at h
    · rename_i hb
      cases h
      have hb := Nat.eq_of_beq_eq_true hb
      refine ⟨0, rfl, ?_⟩
      simp [hb]
    · rename_i hb
      obtain ⟨q, h1, h2⟩ := bornM_spec ρ n l (i + 1) m h
      have hb : ¬ e.2.2 = n := fun e' => by rw [beq_t e'] at hb; cases hb
      refine ⟨q + 1, by omega, ?_⟩
      simp only [concM] at h2
      rw [h2]
      have : ((e.2.2 : Int) == (n : Int)) = false := by simp; omega
      simp [this]
theorem Rel.mapAt (r : Rel s0 U D ρ h w) {b : Nat} {es : List (V × V × Nat)} {c : Nat} (hb : D b) (hg : h.get b = some (.map es c)) : w.heap[ρ.b b]? = some (.map (concM ρ es).toArray c) ∧ ∀ e ∈ es, InD (DD D ρ) e.1 ∧ InD (DD D ρ) e.2.1 := by
  obtain ⟨o, h1, h2⟩ := r.has b _ hb hg
  have h2 : o = .map (concM ρ es).toArray c := h2
  subst h2
  exact ⟨h1, r.clo b _ hb hg⟩
theorem Rel.mapPut (r : Rel s0 U D ρ h w) {b : Nat} {es es' : List (V × V × Nat)} {c c' : Nat} (hb : D b) (hg : h.get b = some (.map es c)) (hi : ∀ e ∈ es', InD (DD D ρ) e.1 ∧ InD (DD D ρ) e.2.1) :
    Rel s0 U D ρ (h.put b (.map es' c')) (w.putObj (ρ.b b) (.map (concM ρ es').toArray c')) ∧ Nxt D ρ h w D ρ (h.put b (.map es' c')) (w.putObj (ρ.b b) (.map (concM ρ es').toArray c')) :=
  r.put hb hg rfl rfl (turned_putObj _ (Array.getElem?_eq_some_iff.1 (r.mapAt hb hg).1).1) rfl hi
theorem in_set {es : List (V × V × Nat)} {i : Nat} {k v : V} {b : Nat} {D : Nat → Nat → Prop} (hi : ∀ e ∈ es, InD D e.1 ∧ InD D e.2.1) (hk : InD D k) (hv : InD D v) : ∀ e ∈ es.set i (k, v, b), InD D e.1 ∧ InD D e.2.1 := fun e he => by
  rcases List.mem_or_eq_of_mem_set he with h | rfl
  · exact hi e h
  · exact ⟨hk, hv⟩
theorem in_app {es : List (V × V × Nat)} {k v : V} {b : Nat} {D : Nat → Nat → Prop} (hi : ∀ e ∈ es, InD D e.1 ∧ InD D e.2.1) (hk : InD D k) (hv : InD D v) : ∀ e ∈ es ++ [(k, v, b)], InD D e.1 ∧ InD D e.2.1 := fun e he => by
  rcases List.mem_append.1 he with h | h
  · exact hi e h
  · obtain rfl := List.mem_singleton.1 h; exact ⟨hk, hv⟩
theorem okT_conc (ok : Bool) (v : V) (b : Bool) (ρ : Env) : conc ρ (okT ok v b) = if ok then .tuple #[conc ρ v, .bool b] else conc ρ v := by cases ok <;> simp [okT, conc, concL]
theorem okT_in {D : Nat → Nat → Prop} {ok : Bool} {v : V} {b : Bool} (h : InD D v) : InD D (okT ok v b) := by
  cases ok
  · exact h
  · exact ⟨h, trivial, trivial⟩
theorem lookup_sound (hC : CfgOK P C) (hfr : FrE C D ρ fr a) (r : Rel s0 U D ρ h w) {t : TypeId} {x y : Operand} {ok : Bool} {v : V} {h' : Heap} (hh : ohLookup C fr h t x y ok = some (v, h')) :
    h' = h ∧ (Instr.lookup t (a.eval x) (a.eval y) ok).run P w = .ok (conc ρ v) w ∧ InD (DD D ρ) v := by
  unfold ohLookup at hh
  split at hh
  · rename_i kt et m k hm hx hy
    have hu := hC.mp _ _ _ hm
    obtain ⟨e1, i1⟩ := hfr.ev hx
    obtain ⟨e2, i2⟩ := hfr.ev hy
    split at hh
    · rename_i j hk hj
      obtain ⟨d, hud, hd⟩ := keyOK_spec hC hk
      have hz := run_zeroValue' (P := P) ((hC.ty et j hj).zero ρ)
      have zin : InD (DD D ρ) j.zero := (hC.ty et j hj).zin.mono fun _ _ h => h.elim
      have hck := fun e => checkKey_ok hud hd ρ e w
      split at hh
      · cases hh
        have hf := findKey_ok hud hd ρ (es := []) (r := none) rfl w
        refine ⟨rfl, ?_, okT_in zin⟩
        simp only [concM, List.map_nil] at hf
        rw [e1, e2, okT_conc]
        simp [conc, Instr.lookup, run_underlying hu, hck, hf, hz]
      · rename_i b
        split at hh
        · rename_i es c hg
          obtain ⟨hb, hes⟩ := r.mapAt i1.1 hg
          split at hh
          · rename_i i u bo hfm
            cases hh
            have hf := findKey_ok hud hd ρ hfm w
            obtain ⟨k', m', q1, q2, q3⟩ := (findM_spec ρ hd es 0 _ hfm).2 _ rfl
            refine ⟨rfl, ?_, okT_in (hes _ (List.mem_of_getElem? q2)).2⟩
            rw [e1, e2, okT_conc]
            simp [conc, Instr.lookup, run_underlying hu, gObj_of hb, hck, hf]
          · rename_i hfm
            cases hh
            have hf := findKey_ok hud hd ρ hfm w
            refine ⟨rfl, ?_, okT_in zin⟩
            rw [e1, e2, okT_conc]
            simp [conc, Instr.lookup, run_underlying hu, gObj_of hb, hck, hf, hz]
          · cases hh
        · cases hh
      · cases hh
    · cases hh
  · cases hh
theorem update_sound (hC : CfgOK P C) (hfr : FrE C D ρ fr a) (r : Rel s0 U D ρ h w) {t : TypeId} {x y z : Operand} {v : V} {h' : Heap} (hh : ohMapupdate C fr h t x y z = some (v, h')) :
    ∃ w', v = .undef ∧ (Instr.mapUpdate t (a.eval x) (a.eval y) (a.eval z)).run P w = .ok () w' ∧ Rel s0 U D ρ h' w' ∧ Nxt D ρ h w D ρ h' w' := by
  unfold ohMapupdate at hh
  split at hh
  · rename_i kt et b k u hm hx hy hz
    have hu := hC.mp _ _ _ hm
    obtain ⟨e1, i1⟩ := hfr.ev hx
    obtain ⟨e2, i2⟩ := hfr.ev hy
    obtain ⟨e3, i3⟩ := hfr.ev hz
    split at hh
    · rename_i es c hk hg
      obtain ⟨d, hud, hd⟩ := keyOK_spec hC hk
      have hck := fun e => checkKey_ok hud hd ρ e w
      obtain ⟨hb, hes⟩ := r.mapAt i1.1 hg
      split at hh
      · rename_i i v0 bo hfm
        cases hh
        have hf := findKey_ok hud hd ρ hfm w
        obtain ⟨k', m', q1, q2, q3⟩ := (findM_spec ρ hd es 0 _ hfm).2 _ rfl
        obtain rfl : i = m' := by simpa using q1
        obtain ⟨r', n'⟩ := r.mapPut (c' := c) i1.1 hg (in_set (i := i) (b := bo) hes i2 i3)
        refine ⟨_, rfl, ?_, r', n'⟩
        have hkey : ((concM ρ es)[i]?.map (·.key)).getD (conc ρ k) = conc ρ k := by simp [concM, q2, q3]
        have hst : (Instr.keyThatStays (conc ρ k) (conc ρ k)).run P w = .ok (conc ρ k) w := by simp [Instr.keyThatStays, sameBits_self hd ρ]
        rw [e1, e2, e3]
        have hset := concM_set ρ es i k u bo q2 (fun e => { e with key := conc ρ k, val := conc ρ u }) rfl
        simp [conc, Instr.mapUpdate, run_underlying hu, gObj_of hb, hck, hf, hkey, hst, hset, sObj_of _ hb]
      · rename_i hfm
        cases hh
        have hf := findKey_ok hud hd ρ hfm w
        obtain ⟨r', n'⟩ := r.mapPut (c' := c + 1) i1.1 hg (in_app (b := c) hes i2 i3)
        refine ⟨_, rfl, ?_, r', n'⟩
        rw [e1, e2, e3]
        have hpush : (concM ρ es).toArray.push ⟨conc ρ k, conc ρ u, c⟩ = (concM ρ (es ++ [(k, u, c)])).toArray := by simp [concM]
        simp only [List.push_toArray] at hpush
        simp [conc, Instr.mapUpdate, run_underlying hu, gObj_of hb, hck, hf, hpush, sObj_of _ hb]
      · cases hh
    · cases hh
  · cases hh
theorem entry_sound (hC : CfgOK P C) (hfr : FrE C D ρ fr a) (r : Rel s0 U D ρ h w) {t : TypeId} {x y : Operand} {v : V} {h' : Heap} (hh : ohMapentry C fr h t x y = some (v, h')) :
    ∃ w', (Instr.mapEntry t (a.eval x) (a.eval y)).run P w = .ok (conc ρ v) w' ∧ Rel s0 U D ρ h' w' ∧ Nxt D ρ h w D ρ h' w' ∧ InD (DD D ρ) v := by
  unfold ohMapentry at hh
  split at hh
  · rename_i kt et b k hm hx hy
    have hu := hC.mp _ _ _ hm
    obtain ⟨e1, i1⟩ := hfr.ev hx
    obtain ⟨e2, i2⟩ := hfr.ev hy
    split at hh
    · rename_i j es c hk hj hg
      obtain ⟨d, hud, hd⟩ := keyOK_spec hC hk
      have hck := fun e => checkKey_ok hud hd ρ e w
      have hz := run_zeroValue' (P := P) ((hC.ty et j hj).zero ρ)
      have zin : InD (DD D ρ) j.zero := (hC.ty et j hj).zin.mono fun _ _ h => h.elim
      obtain ⟨hb, hes⟩ := r.mapAt i1.1 hg
      split at hh
      · rename_i i v0 bo hfm
        cases hh
        have hf := findKey_ok hud hd ρ hfm w
        obtain ⟨k', m', q1, q2, q3⟩ := (findM_spec ρ hd es 0 _ hfm).2 _ rfl
        obtain rfl : i = m' := by simpa using q1
        have hv0 := (hes _ (List.mem_of_getElem? q2)).2
        obtain ⟨r', n'⟩ := r.mapPut (c' := c) i1.1 hg (in_set (i := i) (b := bo) hes i2 hv0)
        refine ⟨_, ?_, r', n', hv0, trivial, trivial⟩
        have hkey : ((concM ρ es)[i]?.map (·.key)).getD (conc ρ k) = conc ρ k := by simp [concM, q2, q3]
        have hborn : ((concM ρ es)[i]?.map (fun x => (x.born : Int))).getD 0 = (bo : Int) := by simp [concM, q2]
        have hst : (Instr.keyThatStays (conc ρ k) (conc ρ k)).run P w = .ok (conc ρ k) w := by simp [Instr.keyThatStays, sameBits_self hd ρ]
        rw [e1, e2]
        have hset := concM_set ρ es i k v0 bo q2 (fun e => { e with key := conc ρ k }) rfl
        simp [conc, concL, Instr.mapEntry, run_underlying hu, gObj_of hb, hck, hf, hkey, hborn, hst, hset, sObj_of _ hb, goInt]
      · rename_i hfm
        cases hh
        have hf := findKey_ok hud hd ρ hfm w
        obtain ⟨r', n'⟩ := r.mapPut (c' := c + 1) i1.1 hg (in_app (b := c) hes i2 zin)
        refine ⟨_, ?_, r', n', zin, trivial, trivial⟩
        rw [e1, e2]
        have hpush : (concM ρ es).toArray.push ⟨conc ρ k, conc ρ j.zero, c⟩ = (concM ρ (es ++ [(k, j.zero, c)])).toArray := by simp [concM]
        simp only [List.push_toArray] at hpush
        simp [conc, concL, Instr.mapEntry, run_underlying hu, gObj_of hb, hck, hf, hz, hpush, sObj_of _ hb, goInt]
      · cases hh
    · cases hh
  · cases hh
theorem estore_sound (hfr : FrE C D ρ fr a) (r : Rel s0 U D ρ h w) {t : TypeId} {x y z : Operand} {v : V} {h' : Heap} (hh : ohEntrystore C fr h x y z = some (v, h')) :
    ∃ w', v = .undef ∧ (Instr.entryStore t (a.eval x) (a.eval y) (a.eval z)).run P w = .ok () w' ∧ Rel s0 U D ρ h' w' ∧ Nxt D ρ h w D ρ h' w' := by
  unfold ohEntrystore at hh
  split at hh
  · rename_i b ki n u hx hy hz
    obtain ⟨e1, i1⟩ := hfr.ev hx
    obtain ⟨e2, i2⟩ := hfr.ev hy
    obtain ⟨e3, i3⟩ := hfr.ev hz
    split at hh
    · rename_i es c hg
      obtain ⟨hb, hes⟩ := r.mapAt i1.1 hg
      split at hh
      · rename_i i hbo
        split at hh
        · rename_i k v0 bo he
          cases hh
          obtain ⟨q, q1, q2⟩ := bornM_spec ρ n es 0 i hbo
          obtain rfl : i = q := by simpa using q1
          have hk := (hes _ (List.mem_of_getElem? he)).1
          obtain ⟨r', n'⟩ := r.mapPut (c' := c) i1.1 hg (in_set (i := i) (b := bo) hes hk i3)
          refine ⟨_, rfl, ?_, r', n'⟩
          have hset := concM_set ρ es i k u bo he (fun e => { e with val := conc ρ u }) rfl
          rw [e1, e2, e3]
          simp only [Int.ofNat_eq_natCast] at *
          simp [conc, Instr.entryStore, gObj_of hb, asInt, asIntOf, q2, hset, sObj_of _ hb]
        · cases hh
      · cases hh
    · cases hh
  · cases hh
/-- **the operations that touch memory** -/
theorem opH_sound (hC : CfgOK P C) (hfr : FrE C D ρ fr a) (r : Rel s0 U D ρ h w) {o : Oper} {v : V} {h' : Heap} (hh : opH C fr h o.op = some (v, h')) (hU : h'.next ≤ U) : ∃ x D' ρ' w', Did P C s0 U o a D ρ h w v h' x D' ρ' w' := by
  obtain ⟨dst, op, ty, pos, aft, g⟩ := o
  simp only at hh
  cases op <;> try (simp [opH, ohConvert, ohLoad, ohStore, ohAlloc, ohBox, ohBuildslice, ohMakeslice, ohAppend, ohCopy, ohSlice, ohMakemap, ohLookup, ohMapupdate, ohMapentry, ohEntrystore, ohClearA, ohClear, ohClearS, ohLenM] at hh; done)
  case convert s t x =>
    simp only [opH, ohConvert, ohLoad, ohStore, ohAlloc, ohBox, ohBuildslice, ohMakeslice, ohAppend, ohCopy, ohSlice, ohMakemap, ohLookup, ohMapupdate, ohMapentry, ohEntrystore, ohClearA, ohClear, ohClearS, ohLenM] at hh
    split at hh
    · rename_i js jt u hs ht hx
      obtain ⟨e1, i1⟩ := hfr.ev hx
      split at hh
      · rename_i e he ht2
        have hd := (hC.ty s js hs).d
        rw [he] at hd
        have hd : P.underlying s = some (.slice e) := hd
        have hd2 := (hC.ty t jt ht).d
        rw [ht2] at hd2
        have hd2 : P.underlying t = some .string := hd2
        split at hh
        · rename_i hed
          cases hh
          obtain ⟨k, hk, hkd⟩ := descOf_spec hed
          have hde := (hC.ty e k hk).d
          rw [hkd] at hde
          have hde : P.underlying e = some (.int .u8) := hde
          refine ⟨_, D, ρ, w, ⟨.inl ?_, rfl, r, Nxt.refl _ _ _ _, trivial⟩⟩
          have key := run_convert_bytes_nil (P := P) w s e hd hde 0 0 t hd2
          simp [execOp, e1, conc, key]
          rfl
        · rename_i b base off n esz lim hed
          split at hh
          · rename_i bv hes hv
            rw [Nat.beq_eq] at hes
            subst hes
            split at hh
            · rename_i l hl
              split at hh
              · rename_i rr hr
                cases hh
                obtain ⟨k, hk, hkd⟩ := descOf_spec hed
                have hde := (hC.ty e k hk).d
                rw [hkd] at hde
                have hde : P.underlying e = some (.int .u8) := hde
                obtain ⟨g1, g2⟩ := bytesOf_flat ρ hr
                obtain ⟨q1, _, _, _⟩ := subArr_spec (ρ := ρ) 50 bv off n 1 l hl
                refine ⟨_, D, ρ, w, ⟨.inl ?_, rfl, r, Nxt.refl _ _ _ _, trivial⟩⟩
                have hcells := sl_cells r i1 hv hl
                rw [g2] at hcells
                have hn : n = rr.length := by omega
                subst hn
                have key := run_convert_bytes_back (P := P) w s t e ⟨ρ.b b, ρ.pre b + (if slCap ρ b off 1 lim = 0 then base else off), none⟩ (slCap ρ b off 1 lim) rr hd hde hd2 (fun j hj => hcells j _ (by simp [hj]))
                simp only [execOp, e1, conc, slConc, Sem.run_bind, key, Result.andThen_ok, Sem.run_pure]
              · cases hh
            · cases hh
          · cases hh
        · cases hh
      · rename_i e0 e b base off n esz lim hs2 ht2
        have hd := (hC.ty s js hs).d
        rw [hs2] at hd
        have hd : P.underlying s = some (.slice e0) := hd
        have hd2 := (hC.ty t jt ht).d
        rw [ht2] at hd2
        have hd2 : P.underlying t = some (.slice e) := hd2
        split at hh
        · rename_i bty bv hst hed hgb
          cases hh
          have hst := Nat.eq_of_beq_eq_true hst
          subst hst
          obtain rfl : e0 = e := by
            have := hd.symm.trans hd2
            simpa using this
          obtain ⟨k, hk, hkd⟩ := descOf_spec hed
          have hde := (hC.ty e0 k hk).d
          rw [hkd] at hde
          have hde : P.underlying e0 = some (.int .u8) := hde
          have hD : D b := i1.2.2.1
          obtain ⟨o, h1, pre, tail, rfl, h2, h3⟩ := r.has b _ hD hgb
          obtain ⟨w', q1, q2⟩ := run_stringish (P := P) h1
          obtain ⟨r', n'⟩ := r.putR (b' := .ro bv) hD hgb rfl rfl q2 ⟨pre, tail, bty, _, rfl, h2, by omega⟩ (show InD (DD D ρ) bv from r.clo b _ hD hgb)
          refine ⟨_, D, ρ, w', ⟨.inl ?_, rfl, r', n', i1⟩⟩
          have q3 := q1 (ρ.pre b + (if slCap ρ b off esz lim = 0 then base else off))
          simp [execOp, e1, conc, slConc, convert, run_underlying hd, run_underlying hde, q3]
        · cases hh
      · rename_i e str hs2 ht2
        have hd := (hC.ty s js hs).d
        rw [hs2] at hd
        have hd : P.underlying s = some .string := hd
        have hd2 := (hC.ty t jt ht).d
        rw [ht2] at hd2
        have hd2 : P.underlying t = some (.slice e) := hd2
        split at hh
        · rename_i hed
          cases hh
          obtain ⟨k, hk, hkd⟩ := descOf_spec hed
          have hde := (hC.ty e k hk).d
          rw [hkd] at hde
          have hde : P.underlying e = some (.int .u8) := hde
          have key := run_bytes_of_string (P := P) w s t e ⟨⟨str⟩⟩ hd hd2 hde
          have hge := grownCap_ge w (⟨⟨str⟩⟩ : ByteArray).size 0 e
          rw [show (⟨⟨str⟩⟩ : ByteArray).size = str.length from rfl] at key hge
          generalize grownCap w str.length 0 e = gc at key hge
          have hcells : (bytesRow ⟨⟨str⟩⟩ gc).toList = cellsV ρ (.arr str.length 1 (bytesV str)) ++ List.replicate (gc - str.length) (Value.int .u8 0) := by
            simp only [cellsV]
            rw [fit_self (by rw [concE_length]; simp [bytesV]), bytes_concE]
            simp [bytesRow]
            rfl
          have hag : Env.Agree (DD D ρ) ρ (ρ.add h.next w.heap.size 0 gc) := Env.add_agree (r.next_new hU)
          have hin : InD (DD D ρ) (.arr str.length 1 (bytesV str)) := InDL_iff.2 fun y hy => by obtain ⟨c, _, rfl⟩ := List.mem_map.1 hy; trivial
          obtain ⟨r', n'⟩ := (r.drawn (w.drawn + 1)).pushAny (w' := w.drew.alloc (.cells (bytesRow ⟨⟨str⟩⟩ gc) e ((bytesRow ⟨⟨str⟩⟩ gc).size, (bytesRow ⟨⟨str⟩⟩ gc).size + 1))) (pre := 0) (cap := gc) hU (below_alloc w.drew _) (heap_alloc_new w.drew _) (b := .ro (.arr str.length 1 (bytesV str))) hin ⟨[], List.replicate (gc - str.length) (Value.int .u8 0), e, _, by
            rw [cellsV_agree hag hin, List.nil_append, ← hcells], by simp [Env.add], by simp [Env.add]; exact hge⟩
          obtain ⟨s1, s2⟩ := new_sl (D := D) (ρ := ρ) (w := w) (h := h) gc str.length 1 (by omega) hge (cap := gc) (by omega)
          refine ⟨_, _, _, _, ⟨.inl ?_, s1.symm, r', n'.undrew, s2⟩⟩
          simp [execOp, e1, conc, key]
        · cases hh
      · cases hh
    · cases hh
  case load t x =>
    simp only [opH, ohConvert, ohLoad, ohStore, ohAlloc, ohBox, ohBuildslice, ohMakeslice, ohAppend, ohCopy, ohSlice, ohMakemap, ohLookup, ohMapupdate, ohMapentry, ohEntrystore, ohClearA, ohClear, ohClearS, ohLenM] at hh
    split at hh
    · rename_i b off i hx hi
      split at hh
      · rename_i bv hv
        split at hh
        · rename_i y hg
          cases hh
          obtain ⟨e, hin⟩ := hfr.ev hx
          obtain ⟨k1, k2⟩ := load_sound hC r hi hin.1 hv hg
          refine ⟨_, D, ρ, w, ⟨.inl ?_, rfl, r, Nxt.refl _ _ _ _, k2⟩⟩
          simp [execOp, e, conc, Instr.loadAt, Instr.sureAddr, k1]
        · cases hh
      · cases hh
    · cases hh
  case store t x y =>
    simp only [opH, ohConvert, ohLoad, ohStore, ohAlloc, ohBox, ohBuildslice, ohMakeslice, ohAppend, ohCopy, ohSlice, ohMakemap, ohLookup, ohMapupdate, ohMapentry, ohEntrystore, ohClearA, ohClear, ohClearS, ohLenM] at hh
    split at hh
    · rename_i b off u i hx hy hi
      split at hh
      · rename_i bty bv hg hsz
        rw [Nat.beq_eq] at hsz
        split at hh
        · rename_i v' hp
          cases hh
          obtain ⟨e, hin⟩ := hfr.ev hx
          obtain ⟨e2, hin2⟩ := hfr.ev hy
          obtain ⟨w', k1, k2, k3⟩ := store_sound hC r hi hsz hin.1 hg hp hin2
          refine ⟨_, D, ρ, w', ⟨.inr ⟨?_, rfl⟩, rfl, k2, k3, trivial⟩⟩
          simp [execOp, e, e2, conc, Instr.storeAt, Instr.sureAddr, k1]
        · cases hh
      · cases hh
    · cases hh
  case alloc t =>
    simp only [opH, ohConvert, ohLoad, ohStore, ohAlloc, ohBox, ohBuildslice, ohMakeslice, ohAppend, ohCopy, ohSlice, ohMakemap, ohLookup, ohMapupdate, ohMapentry, ohEntrystore, ohClearA, ohClear, ohClearS, ohLenM] at hh
    split at hh
    · rename_i i hi
      cases hh
      have ok := hC.ty t i hi
      have hz := run_zeroValue' (P := P) (ok.zero ρ)
      have hzc : (conc ρ i.zero).cells = (cellsV ρ i.zero).toArray := conc_cells (by
        cases ha : i.agg with
        | true => exact .inr (by rw [ok.zagg]; exact ha)
        | false => exact .inl (ok.zleaf ha))
      obtain ⟨r', n'⟩ := new_sound (t := t) (tail := []) r hU (ok.zin.mono fun _ _ h => h.elim)
      simp only [List.append_nil] at r' n'
      obtain ⟨p1, p2⟩ := new_ptr (cap := i.zero.size + [].length (α := Value)) r
      refine ⟨_, _, _, _, ⟨.inl ?_, p1.symm, r', n', p2⟩⟩
      simp [execOp, Instr.alloc, hz, newVar, newRow, hzc]
    · cases hh
  case box t x =>
    simp only [opH, ohConvert, ohLoad, ohStore, ohAlloc, ohBox, ohBuildslice, ohMakeslice, ohAppend, ohCopy, ohSlice, ohMakemap, ohLookup, ohMapupdate, ohMapentry, ohEntrystore, ohClearA, ohClear, ohClearS, ohLenM] at hh
    split at hh
    · rename_i u hx
      split at hh
      · rename_i hl
        simp only [Bool.or_eq_true] at hl
        cases hh
        obtain ⟨e, hin⟩ := hfr.ev hx
        obtain ⟨r', n'⟩ := new_sound (t := t) (tail := []) r hU hin
        simp only [List.append_nil] at r' n'
        obtain ⟨p1, p2⟩ := new_ptr (cap := u.size + [].length (α := Value)) r
        refine ⟨_, _, _, _, ⟨.inl ?_, p1.symm, r', n', p2⟩⟩
        simp [execOp, e, Instr.box, newVar, newRow, conc_cells hl]
      · cases hh
    · cases hh
  case buildSlice t n parts =>
    simp only [opH, ohConvert, ohLoad, ohStore, ohAlloc, ohBox, ohBuildslice, ohMakeslice, ohAppend, ohCopy, ohSlice, ohMakemap, ohLookup, ohMapupdate, ohMapentry, ohEntrystore, ohClearA, ohClear, ohClearS, ohLenM] at hh
    split at hh
    · rename_i i hi
      split at hh
      · rename_i e he
        have hd := (hC.ty t i hi).d
        rw [he] at hd
        have hd : P.underlying t = some (.slice e) := hd
        split at hh
        · rename_i k hk
          split at hh
          · cases hh
          · rename_i hc
            simp only [Bool.or_eq_false_iff, Bool.not_eq_false'] at hc
            have hle := Nat.le_of_ble_eq_true hc.2
            have hk0 : 0 < k.size := by
              rcases Nat.eq_zero_or_pos k.size with h0 | h0
              · rw [beq_t h0] at hc; cases hc.1
              · exact h0
            split at hh
            · rename_i u hu
              cases hh
              have ok := hC.ty e k hk
              have hzin : InD (DD D ρ) (repV n k.size k.zero) := InDL_iff.2 fun y hy => by rw [(List.mem_replicate.1 hy).2]; exact ok.zin.mono fun _ _ h => h.elim
              obtain ⟨f1, f2, f3⟩ := fillE_spec hfr parts.toList _ u hu hzin
              have hzc : (conc ρ k.zero).cells = (cellsV ρ k.zero).toArray := conc_cells (by
                cases ha : k.agg with
                | true => exact .inr (by rw [ok.zagg]; exact ha)
                | false => exact .inl (ok.zleaf ha))
              have hz := run_zeroValue' (P := P) (ok.zero ρ)
              have hus : u.size = n * k.size := f3
              obtain ⟨r', n'⟩ := new_sound (t := e) (tail := []) r hU f2
              simp only [List.append_nil] at r' n'
              obtain ⟨p1, p2⟩ := new_sl (D := D) (ρ := ρ) (w := w) (h := h) n n k.size hk0 (Nat.le_refl _) (cap := u.size + [].length (α := Value)) (by simp [hus])
              refine ⟨_, _, _, _, ⟨.inl ?_, p1.symm, r', n', p2⟩⟩
              have hlist : (parts.map fun (p : Nat × Operand) => (p.1, a.eval p.2)).toList = parts.toList.map fun p => (p.1, a.eval p.2) := by simp
              have hsz := ok.sizeOf w
              have hgt : ¬ n * k.size > 2 ^ 24 := by omega
              have hrep := rep_cells ρ n k.size k.zero ok.zsize hk0
              rw [hrep] at f1
              simp only [execOp, Instr.buildSlice, Sem.run_bind, run_underlying hd, Result.andThen_ok, hsz, hgt, if_false, hlist]
              by_cases h0 : n * k.size = 0
              · have hn : n = 0 := by
                  rcases Nat.mul_eq_zero.1 h0 with h | h
                  · exact h
                  · omega
                subst hn
                have hr0 : Array.range 0 = #[] := rfl
                simp only [Nat.zero_mul, hr0, List.map_toArray, List.map_nil] at f1 ⊢
                simp [f1, newRow]
              · simp only [h0, if_false, Sem.run_bind, hz w, Result.andThen_ok, Sem.run_pure, hzc]
                rw [f1]
                simp [newRow]
            · cases hh
        · cases hh
      · cases hh
    · cases hh
  case makeSlice t x y =>
    simp only [opH, ohConvert, ohLoad, ohStore, ohAlloc, ohBox, ohBuildslice, ohMakeslice, ohAppend, ohCopy, ohSlice, ohMakemap, ohLookup, ohMapupdate, ohMapentry, ohEntrystore, ohClearA, ohClear, ohClearS, ohLenM] at hh
    split at hh
    · rename_i i u z hi hx hy
      split at hh
      · rename_i e l c he hl hc
        obtain ⟨kl, rfl⟩ := natI_spec hl
        obtain ⟨kc, rfl⟩ := natI_spec hc
        have hd := (hC.ty t i hi).d
        rw [he] at hd
        have hd : P.underlying t = some (.slice e) := hd
        split at hh
        · rename_i k hk
          split at hh
          · cases hh
          · rename_i hcc
            simp only [Bool.or_eq_false_iff, Bool.not_eq_false'] at hcc
            have h1 := Nat.le_of_ble_eq_true hcc.1.1.2
            have h2 := Nat.le_of_ble_eq_true hcc.1.2
            have h3 := Nat.le_of_ble_eq_true hcc.2
            have hk0 : 0 < k.size := by
              rcases Nat.eq_zero_or_pos k.size with h0 | h0
              · rw [beq_t h0] at hcc; cases hcc.1.1.1
              · exact h0
            cases hh
            have ok := hC.ty e k hk
            obtain ⟨inf, hin, hsz, hby, hz⟩ := ok.info
            have hzc : (conc ρ k.zero).cells = (cellsV ρ k.zero).toArray := conc_cells (by
              cases ha : k.agg with
              | true => exact .inr (by rw [ok.zagg]; exact ha)
              | false => exact .inl (ok.zleaf ha))
            have hmul : ((inf.bytes : Int) * (c : Int)) ≤ 281474976710656 := by
              have : ((inf.bytes * c : Nat) : Int) ≤ 281474976710656 := by rw [hby]; omega
              rwa [Int.natCast_mul] at this
            have key := run_make (P := P) w t e inf _ hd hin (hz ρ) kl kc (l : Int) (c : Int) (by omega) (by omega) hmul (by omega)
            have hzin : InD (DD D ρ) (repV c k.size k.zero) := InDL_iff.2 fun y hy => by rw [(List.mem_replicate.1 hy).2]; exact ok.zin.mono fun _ _ h => h.elim
            obtain ⟨r', n'⟩ := new_sound (t := e) (tail := []) r hU hzin
            simp only [List.append_nil] at r' n'
            have hrep := rep_cells ρ c k.size k.zero ok.zsize hk0
            rw [hrep] at r' n'
            obtain ⟨p1, p2⟩ := new_sl (D := D) (ρ := ρ) (w := w) (h := h) c l k.size hk0 h1 (cap := (repV c k.size k.zero).size + [].length (α := Value)) (by simp [repV, V.size])
            refine ⟨_, _, _, _, ⟨.inl ?_, p1.symm, r', n', p2⟩⟩
            simp only [Int.toNat_natCast, hzc, hsz, madeCells] at key
            simp [execOp, (hfr.ev hx).1, (hfr.ev hy).1, conc, key]
        · cases hh
      · cases hh
    · cases hh
  case slice t x lo hi mx =>
    simp only [opH, ohConvert, ohLoad, ohStore, ohAlloc, ohBox, ohBuildslice, ohMakeslice, ohAppend, ohCopy, ohSlice, ohMakemap, ohLookup, ohMapupdate, ohMapentry, ohEntrystore, ohClearA, ohClear, ohClearS, ohLenM] at hh
    split at hh
    · rename_i j u hj hx
      have hd := (hC.ty t j hj).d
      obtain ⟨e1, i1⟩ := hfr.ev hx
      split at hh
      · rename_i n e b off he
        rw [he] at hd
        split at hh
        · rename_i k l rr bv hk hl hr hv
          split at hh
          · cases hh
          · rename_i hc
            simp only [Bool.or_eq_false_iff, Bool.not_eq_false'] at hc
            have h1 := Nat.le_of_ble_eq_true hc.1.1.2
            have h2 := Nat.le_of_ble_eq_true hc.1.2
            have h3 := Nat.le_of_ble_eq_true hc.2
            have hk0 : 0 < k.size := by
              rcases Nat.eq_zero_or_pos k.size with h0 | h0
              · rw [beq_t h0] at hc; cases hc.1.1.1
              · exact h0
            cases hh
            obtain ⟨_, _, _, _, _, _, hcap, _⟩ := r.val i1.1 hv
            have hb := bounds_ok (P := P) hfr (isSl := false) hl hr h1 h2 w
            refine ⟨_, D, ρ, w, ⟨.inl ?_, rfl, r, Nxt.refl _ _ _ _, hk0, by simp only [Option.getD_some]; omega, i1.1, ?_⟩⟩
            · simp only [execOp, e1, conc, slConc, Instr.sliceAt, Sem.run_bind, run_underlying hd.1, Result.andThen_ok, Instr.sureAddr, Option.map_none, hb, (hC.ty e k hk).sizeOf w, Sem.run_pure, addr_add]
              have hsc : slCap ρ b (off + l * k.size) k.size (some (n - l)) = n - l := rfl
              simp only [hsc]
              congr 4
              by_cases hnl : n = l
              · simp [hnl]
              · have : ¬ n - l = 0 := by omega
                simp [hnl, this, Nat.add_assoc]
            · simp only [Option.getD_some]
              have : l * k.size + (n - l) * k.size = n * k.size := by rw [← Nat.add_mul]; congr 1; omega
              omega
        · cases hh
      · rename_i e b base off len esz lim he
        rw [he] at hd
        have hd : P.underlying t = some (.slice e) := hd
        split at hh
        · rename_i k l rr bv hk hl hr hv
          split at hh
          · cases hh
          · rename_i hc
            simp only [Bool.and_eq_true, Nat.beq_eq] at hc
            obtain ⟨⟨⟨⟨hes, h1⟩, h0⟩, h3⟩, h4⟩ := hc
            have h1 := Nat.le_of_ble_eq_true h1
            have h0 := Nat.le_of_ble_eq_true h0
            have h3 := Nat.le_of_ble_eq_true h3
            cases hh
            obtain ⟨_, _, _, _, _, _, hcap, _⟩ := r.val i1.2.2.1 hv
            obtain ⟨hpos, hlen, hD, hroom⟩ := i1
            have hrc : rr ≤ slCap ρ b off esz lim := by
              cases lim with
              | some c => exact Nat.le_of_ble_eq_true h4
              | none => simp only [slCap]; rw [Nat.le_div_iff_mul_le hpos]; omega
            have hb := bounds_ok (P := P) hfr (isSl := true) hl hr h1 hrc w
            refine ⟨_, D, ρ, w, ⟨.inl ?_, rfl, r, Nxt.refl _ _ _ _, hpos, ?_, hD, ?_⟩⟩
            · simp only [execOp, e1, conc, slConc, Instr.sliceAt, Sem.run_bind, run_underlying hd, Result.andThen_ok, Option.map_none, Instr.slice, hb, (hC.ty e k hk).sizeOf w, Sem.run_pure, hes]
              have hcap : slCap ρ b (off + l * esz) esz (limCut l lim) = slCap ρ b off esz lim - l := by
                cases lim with
                | some c => rfl
                | none =>
                  simp only [slCap, limCut]
                  rw [Nat.sub_add_eq, Nat.mul_comm l esz, Nat.sub_mul_div]
              rw [hcap]
              congr 4
              have hc0 : ¬ slCap ρ b off esz lim = 0 := by omega
              by_cases hl0 : l = 0
              · subst hl0
                simp [addr_add]
              · have hb0 : Nat.beq l 0 = false := beq_f hl0
                simp only [hb0, hc0, if_false, Option.map_some, addr_add]
                by_cases hm : slCap ρ b off esz lim = l
                · simp [hm]
                · have : ¬ slCap ρ b off esz lim - l = 0 := by omega
                  simp [hm, this, Nat.add_assoc]
            · cases lim with
              | some c => have h4 := Nat.le_of_ble_eq_true h4; simp only [limCut, Option.getD_some]; omega
              | none => simp [limCut]
            · cases lim with
              | some c =>
                have h4 := Nat.le_of_ble_eq_true h4
                simp only [limCut, Option.getD_some] at hroom ⊢
                have : l * esz + (c - l) * esz = c * esz := by rw [← Nat.add_mul]; congr 1; omega
                omega
              | none =>
                simp only [limCut, Option.getD_none]
                have : l * esz + (rr - l) * esz = rr * esz := by rw [← Nat.add_mul]; congr 1; omega
                omega
        · cases hh
      · cases hh
    · cases hh
  case makeMap t x =>
    have key : ∀ hint : Option Operand, (∀ y, hint = some y → (∃ k e, P.underlying t = some (.map k e)) ∧ ∃ j n, a.eval y = .int j n) → h' = h.push (.map [] 0) → v = .map h.next → ∃ x D' ρ' w', Did P C s0 U ⟨dst, .makeMap t hint, ty, pos, aft, g⟩ a D ρ h w v h' x D' ρ' w' := fun hint hx he hv => by
      subst he hv
      obtain ⟨r', n'⟩ := r.push (w' := w.alloc (.map #[] 0)) (pre := 0) (cap := 0) hU (below_alloc w _) (heap_alloc_new w _) rfl (b := .map [] 0) (fun e he => by cases he) rfl
      refine ⟨_, _, _, _, ⟨.inl ?_, rfl, r', n', push_new (Nat.le_refl _)⟩⟩
      cases hint with
      | none => simp [execOp, Instr.makeMap, newObj, Sem.run, conc, Env.add]
      | some y =>
        obtain ⟨⟨k, e, hu⟩, j, n, hy⟩ := hx y rfl
        simp [execOp, Instr.makeMap, newObj, conc, Env.add, run_underlying hu, hy, asInt]
        rfl
    simp only [opH, ohMakemap] at hh
    split at hh
    · cases hh; exact key none (fun y hy => by cases hy) rfl rfl
    · rename_i y
      split at hh
      · rename_i p j n hm hy
        cases hh
        exact key (some y) (fun y' hy' => by cases hy'; exact ⟨⟨_, _, hC.mp _ _ _ hm⟩, _, _, (hfr.ev hy).1⟩) rfl rfl
      · cases hh
  case lookup t x y ok =>
    obtain ⟨rfl, q1, q2⟩ := lookup_sound hC hfr r (show ohLookup C fr h t x y ok = some (v, h') from hh)
    exact ⟨_, D, ρ, w, ⟨.inl (by simp [execOp, q1]), rfl, r, Nxt.refl _ _ _ _, q2⟩⟩
  case mapUpdate t x y z =>
    obtain ⟨w', rfl, q1, q2, q3⟩ := update_sound hC hfr r (show ohMapupdate C fr h t x y z = some (v, h') from hh)
    exact ⟨_, D, ρ, w', ⟨.inr ⟨by simp only [execOp, Sem.run_bind, q1, Result.andThen_ok, Sem.run_pure], rfl⟩, rfl, q2, q3, trivial⟩⟩
  case insert t x y z =>
    obtain ⟨w', rfl, q1, q2, q3⟩ := update_sound hC hfr r (show ohMapupdate C fr h t x y z = some (v, h') from hh)
    exact ⟨_, D, ρ, w', ⟨.inr ⟨by simp only [execOp, Sem.run_bind, q1, Result.andThen_ok, Sem.run_pure], rfl⟩, rfl, q2, q3, trivial⟩⟩
  case mapEntry t x y =>
    obtain ⟨w', q1, q2, q3, q4⟩ := entry_sound hC hfr r (show ohMapentry C fr h t x y = some (v, h') from hh)
    exact ⟨_, D, ρ, w', ⟨.inl (by simp [execOp, q1]), rfl, q2, q3, q4⟩⟩
  case entryStore t x y z =>
    obtain ⟨w', rfl, q1, q2, q3⟩ := estore_sound (P := P) (t := t) hfr r (show ohEntrystore C fr h x y z = some (v, h') from hh)
    exact ⟨_, D, ρ, w', ⟨.inr ⟨by simp only [execOp, Sem.run_bind, q1, Result.andThen_ok, Sem.run_pure], rfl⟩, rfl, q2, q3, trivial⟩⟩
  case call c =>
    obtain ⟨callee, args, ats⟩ := c
    cases callee <;> try (simp [opH, ohConvert, ohLoad, ohStore, ohAlloc, ohBox, ohBuildslice, ohMakeslice, ohAppend, ohCopy, ohSlice, ohMakemap, ohLookup, ohMapupdate, ohMapentry, ohEntrystore, ohClearA, ohClear, ohClearS, ohLenM] at hh; done)
    rename_i b
    cases b <;> try (simp [opH, ohConvert, ohLoad, ohStore, ohAlloc, ohBox, ohBuildslice, ohMakeslice, ohAppend, ohCopy, ohSlice, ohMakemap, ohLookup, ohMapupdate, ohMapentry, ohEntrystore, ohClearA, ohClear, ohClearS, ohLenM] at hh; done)
    case append =>
      have e2 : execOp a.eval ⟨dst, .call ⟨.builtin .append, args, ats⟩, ty, pos, aft, g⟩ = (do pure (.value (← Builtin.append_ ats ty (args.map a.eval)))) := rfl
      simp only [opH, ohConvert, ohLoad, ohStore, ohAlloc, ohBox, ohBuildslice, ohMakeslice, ohAppend, ohCopy, ohSlice, ohMakemap, ohLookup, ohMapupdate, ohMapentry, ohEntrystore, ohClearA, ohClear, ohClearS, ohLenM] at hh
      split at hh
      · rename_i x y ts tx h1 h2
        have h1 : args = #[x, y] := by apply Array.toList_inj.1; simpa using h1
        have h2 : ats = #[ts, tx] := by apply Array.toList_inj.1; simpa using h2
        subst h1; subst h2
        split at hh
        · rename_i s u hx hy
          obtain ⟨e1, i1⟩ := hfr.ev hx
          obtain ⟨e3, i3⟩ := hfr.ev hy
          obtain ⟨val, D', ρ', w', q1, q2, q3, q4, q5⟩ := app_sound (ty := ty) hC r i1 i3 hh hU
          refine ⟨val, D', ρ', w', ⟨.inl ?_, q2, q3, q4, q5⟩⟩
          rw [e2]
          simp [e1, e3, q1]
        · cases hh
      · cases hh
    case clear =>
      have e2 : execOp a.eval ⟨dst, .call ⟨.builtin .clear, args, ats⟩, ty, pos, aft, g⟩ = (do pure (.value (← Builtin.clear_ ats ty (args.map a.eval)))) := rfl
      replace hh : ohClearA C fr h args ats = some (v, h') := hh
      unfold ohClearA at hh
      split at hh
      · rename_i r0 hh0
        cases hh
        have hh := hh0
        clear hh0
        unfold ohClear at hh
        split at hh
        · rename_i x t h1 h2
          have h1 : args = #[x] := by apply Array.toList_inj.1; simpa using h1
          have h2 : ats = #[t] := by apply Array.toList_inj.1; simpa using h2
          subst h1; subst h2
          split at hh
          · rename_i p hm hx
            cases hh
            obtain ⟨e1, i1⟩ := hfr.ev hx
            have hu := hC.mp _ _ _ hm
            refine ⟨_, D, ρ, w, ⟨.inl ?_, rfl, r, Nxt.refl _ _ _ _, trivial⟩⟩
            rw [e2]
            simp [e1, conc, Builtin.clear_, run_underlying hu]
          · rename_i p b hm hx
            obtain ⟨e1, i1⟩ := hfr.ev hx
            have hu := hC.mp _ _ _ hm
            split at hh
            · rename_i es c hg
              cases hh
              obtain ⟨hb, hes⟩ := r.mapAt i1.1 hg
              obtain ⟨r', n'⟩ := r.mapPut (es' := []) (c' := c) i1.1 hg (fun e he => by cases he)
              refine ⟨_, D, ρ, _, ⟨.inl ?_, rfl, r', n', trivial⟩⟩
              rw [e2]
              simp [e1, conc, Builtin.clear_, run_underlying hu, gObj_of hb, sObj_of _ hb, concM]
            · cases hh
          · cases hh
        · cases hh
      · unfold ohClearS at hh
        split at hh
        · rename_i x t h1 h2
          have h1 : args = #[x] := by apply Array.toList_inj.1; simpa using h1
          have h2 : ats = #[t] := by apply Array.toList_inj.1; simpa using h2
          subst h1; subst h2
          split at hh
          · rename_i j u hj hx
            obtain ⟨e1, i1⟩ := hfr.ev hx
            have hd := (hC.ty t j hj).d
            split at hh
            · rename_i e he
              cases hh
              rw [he] at hd
              have hu : P.underlying t = some (.slice e) := hd
              refine ⟨_, D, ρ, w, ⟨.inl ?_, rfl, r, Nxt.refl _ _ _ _, trivial⟩⟩
              rw [e2]
              simp [e1, conc, Builtin.clear_, run_underlying hu]
            · rename_i e b base off len esz lim he
              rw [he] at hd
              have hu : P.underlying t = some (.slice e) := hd
              split at hh
              · cases hh
                refine ⟨_, D, ρ, w, ⟨.inl ?_, rfl, r, Nxt.refl _ _ _ _, trivial⟩⟩
                rw [e2]
                simp [e1, conc, slConc, Builtin.clear_, run_underlying hu]
              · rename_i k bty bv n hk hg
                split at hh
                · rename_i hc
                  simp only [Bool.and_eq_true] at hc
                  have hes := Nat.eq_of_beq_eq_true hc.1
                  have hle := Nat.le_of_ble_eq_true hc.2
                  subst hes
                  split at hh
                  · rename_i v' hp
                    cases hh
                    obtain ⟨w', q1, q2, q3⟩ := clear_sound (ty := ty) hC r hu hk i1 hg hle hp
                    refine ⟨_, D, ρ, w', ⟨.inl ?_, rfl, q2, q3, trivial⟩⟩
                    rw [e2]
                    simp [e1, q1]
                    rfl
                  · cases hh
                · cases hh
              · cases hh
            · cases hh
          · cases hh
        · cases hh
    case len =>
      have e2 : execOp a.eval ⟨dst, .call ⟨.builtin .len, args, ats⟩, ty, pos, aft, g⟩ = (do pure (.value (← Builtin.len_ ats ty (args.map a.eval)))) := rfl
      simp only [opH, ohLenM] at hh
      split at hh
      · rename_i x t h1 h2
        have h1 : args = #[x] := by apply Array.toList_inj.1; simpa using h1
        have h2 : ats = #[t] := by apply Array.toList_inj.1; simpa using h2
        subst h1; subst h2
        split at hh
        · rename_i p hm hx
          cases hh
          obtain ⟨e1, i1⟩ := hfr.ev hx
          have hu := hC.mp _ _ _ hm
          refine ⟨_, D, ρ, w, ⟨.inl ?_, rfl, r, Nxt.refl _ _ _ _, trivial⟩⟩
          rw [e2]
          simp [e1, conc, Builtin.len_, run_underlying hu, goInt]
        · rename_i p b hm hx
          obtain ⟨e1, i1⟩ := hfr.ev hx
          have hu := hC.mp _ _ _ hm
          split at hh
          · rename_i es c hg
            cases hh
            obtain ⟨hb, hes⟩ := r.mapAt i1.1 hg
            refine ⟨_, D, ρ, w, ⟨.inl ?_, rfl, r, Nxt.refl _ _ _ _, trivial⟩⟩
            rw [e2]
            simp [e1, conc, Builtin.len_, run_underlying hu, gObj_of hb, goInt, concM]
          · cases hh
        · cases hh
      · cases hh
    case copy =>
      have e2 : execOp a.eval ⟨dst, .call ⟨.builtin .copy, args, ats⟩, ty, pos, aft, g⟩ = (do pure (.value (← Builtin.copy_ ats ty (args.map a.eval)))) := rfl
      simp only [opH, ohConvert, ohLoad, ohStore, ohAlloc, ohBox, ohBuildslice, ohMakeslice, ohAppend, ohCopy, ohSlice, ohMakemap, ohLookup, ohMapupdate, ohMapentry, ohEntrystore, ohClearA, ohClear, ohClearS, ohLenM] at hh
      split at hh
      · rename_i x y ts tx h1 h2
        have h1 : args = #[x, y] := by apply Array.toList_inj.1; simpa using h1
        have h2 : ats = #[ts, tx] := by apply Array.toList_inj.1; simpa using h2
        subst h1; subst h2
        split at hh
        · rename_i s u hx hy
          obtain ⟨e1, i1⟩ := hfr.ev hx
          obtain ⟨e3, i3⟩ := hfr.ev hy
          obtain ⟨w', q1, q3, q4, q5⟩ := copy_sound (ty := ty) hC r i1 i3 hh
          refine ⟨_, D, ρ, w', ⟨.inl ?_, rfl, q3, q4, q5⟩⟩
          rw [e2]
          simp [e1, e3, q1]
        · cases hh
      · cases hh
end
end Go.Proofs.YtmlemnbhjbaedaaGreatDoor

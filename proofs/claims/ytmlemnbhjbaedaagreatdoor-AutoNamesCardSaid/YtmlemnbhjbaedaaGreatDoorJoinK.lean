/-
  bytes.Join of two parts or more, nothing between them: known by what it does (the shelf's contract), so that a run need not go through it.
-/
import Derived.Test.YtmlemnbhjbaedaaGreatDoorJoin
import Derived.Test.YtmlemnbhjbaedaaGreatDoorShaK
import Derived.Test.YtmlemnbhjbaedaaGreatDoorETop
namespace Go.Proofs.YtmlemnbhjbaedaaGreatDoor
open Go.RowKit
set_option linter.unusedSimpArgs false
set_option linter.unusedVariables false
section
variable {s0 : World} {U : Nat} {D : Nat → Prop} {ρ : Env} {h : Heap} {w w' : World}
/-- a new block, wherever it lies among what is new -/
theorem Rel.pushAt (r : Rel s0 U D ρ h w) (hU : h.next + 1 ≤ U) {b : Blk} {o : Obj} {q pre cap : Nat} (hq : w.heap.size ≤ q) (g : Below w.heap.size w w') (hn : w'.heap[q]? = some o) (hin : InB (DD D ρ) b) (hk : KnB (ρ.add h.next q pre cap) h.next b o) :
    Rel s0 U (fun i => D i ∨ i = h.next) (ρ.add h.next q pre cap) (h.push b) w' ∧ Nxt D ρ h w (fun i => D i ∨ i = h.next) (ρ.add h.next q pre cap) (h.push b) w' := by
  have hne := r.next_new hU
  have hag : Env.Agree (DD D ρ) ρ (ρ.add h.next q pre cap) := Env.add_agree hne
  have hdd : ∀ j m, DD D ρ j m → DD (fun i => D i ∨ i = h.next) (ρ.add h.next q pre cap) j m := fun j m hj => ⟨.inl hj.1, by rw [(hag j m hj).2.2.1]; exact hj.2⟩
  have hb : ∀ j, D j → (ρ.add h.next q pre cap).b j = ρ.b j := fun j hj => (hag j 0 ⟨hj, Nat.zero_le _⟩).1
  have hbn : (ρ.add h.next q pre cap).b h.next = q := by simp [Env.add]
  have get : ∀ j c, (D j ∨ j = h.next) → (h.push b).get j = some c → (j = h.next ∧ c = b) ∨ (D j ∧ h.get j = some c) := fun j c hj hc => by
    rw [Heap.get_push] at hc
    split at hc
    · rename_i e; cases hc; exact .inl ⟨e, rfl⟩
    · rename_i e
      rcases hj with hj | hj
      · exact .inr ⟨hj, hc⟩
      · exact absurd hj e
  have hlt : ∀ j c, D j → h.get j = some c → ρ.b j < w.heap.size := fun j c hj hc => by
    obtain ⟨o, h1, _⟩ := r.has j c hj hc
    exact (Array.getElem?_eq_some_iff.1 h1).1
  have hsz : s0.heap.size ≤ w.heap.size := r.base.size
  refine ⟨⟨fun j hj => ?_, fun j hj => ?_, fun j c hj hc => ?_, fun j c hj hc => ?_, fun j k c d hj hk' hc hd hoc hod hne' => ?_, fun j c hj hc hoc => ?_, fun j k c d hj hk' hc hd hoc hod => ?_, ?_⟩, ?_⟩
  · show j < h.next + 1 ∨ _
    rcases hj with hj | hj
    · have := r.lt j hj; omega
    · omega
  · have hj : h.next + 1 ≤ j := hj
    rw [Heap.get_push, if_neg (by omega)]; exact r.wf j (by omega)
  · rcases get j c hj hc with ⟨rfl, rfl⟩ | ⟨hj, hc⟩
    · exact ⟨o, by rw [hbn]; exact hn, hk⟩
    · obtain ⟨o, h1, h2⟩ := r.has j c hj hc
      exact ⟨o, by rw [hb j hj, g.block _ (hlt j c hj hc)]; exact h1, KnB.agree hag (m := 0) ⟨hj, Nat.zero_le _⟩ (r.clo j c hj hc) h2⟩
  · rcases get j c hj hc with ⟨rfl, rfl⟩ | ⟨hj, hc⟩
    · exact hin.mono hdd
    · exact (r.clo j c hj hc).mono hdd
  · rcases get j c hj hc with ⟨rfl, rfl⟩ | ⟨hj1, hc1⟩ <;> rcases get k d hk' hd with ⟨rfl, rfl⟩ | ⟨hk1, hd1⟩
    · exact absurd rfl hne'
    · rw [hbn, hb k hk1]; have := hlt k d hk1 hd1; omega
    · rw [hbn, hb j hj1]; have := hlt j c hj1 hc1; omega
    · rw [hb j hj1, hb k hk1]; exact r.inj j k c d hj1 hk1 hc1 hd1 hoc hod hne'
  · rcases get j c hj hc with ⟨rfl, rfl⟩ | ⟨hj, hc⟩
    · rw [hbn]; omega
    · rw [hb j hj]; exact r.own j c hj hc hoc
  · rcases get j c hj hc with ⟨rfl, rfl⟩ | ⟨hj1, hc1⟩ <;> rcases get k d hk' hd with ⟨rfl, rfl⟩ | ⟨hk1, hd1⟩
    · rw [hoc] at hod; cases hod
    · rw [hbn, hb k hk1]; have := hlt k d hk1 hd1; omega
    · rw [hbn, hb j hj1]; have := hlt j c hj1 hc1; omega
    · rw [hb j hj1, hb k hk1]; exact r.old j k c d hj1 hk1 hc1 hd1 hoc hod
  · exact ⟨g.os.trans r.base.os, g.tape.trans r.base.tape, g.output.trans r.base.output, Nat.le_trans hsz g.size, fun k hk => (g.block k (by omega)).trans (r.base.block k hk)⟩
  · refine ⟨fun _ h => .inl h, fun j hj => ?_, fun j hj => ?_, fun c hc _ => g.block c hc, fun j hj hn' hl => ?_, g.size, Nat.le_refl _, Nat.le_succ _, g.os, g.tape, g.output⟩
    · rcases hj with hj | hj
      · exact .inl hj
      · exact .inr ⟨Nat.le_of_eq hj.symm, by show j < h.next + 1; omega⟩
    · have : j ≠ h.next := by
        rcases hj with hj | hj
        · omega
        · have hj : h.next + 1 ≤ j := hj
          omega
      simp [Env.add, this]
    · have hl : j < h.next + 1 := hl
      obtain rfl : j = h.next := by omega
      exact .inl (by rw [hbn]; exact hq)
/-- a slice's bytes -/
noncomputable def byK (h : Heap) : V → Option (List UInt8)
  | .nils => some []
  | .sl b _ off n 1 _ => match h.val b with
    | some bv => match subArr 50 bv off n 1 with
      | some l => bytesOf (flatE 1 l)
      | none => none
    | none => none
  | _ => none
theorem byK_spec (r : Rel s0 U D ρ h w) {v : V} {l : List UInt8} (hin : InD (DD D ρ) v) (hk : byK h v = some l) : Lib.HoldsBytes w (conc ρ v) l := by
  unfold byK at hk
  split at hk
  · cases hk
    exact ⟨none, 0, rfl, fun _ => rfl, fun a h => by cases h⟩
  · rename_i b base off n lim
    split at hk
    · rename_i bv hv
      split at hk
      · rename_i L hL
        obtain ⟨g1, g2⟩ := bytesOf_flat ρ hk
        obtain ⟨q1, _, _, _⟩ := subArr_spec (ρ := ρ) 50 bv off n 1 L hL
        have hcells := sl_cells r hin hv hL
        rw [g2] at hcells
        obtain rfl : n = l.length := by omega
        exact ⟨_, _, rfl, fun h => (by cases h), fun a ha i x hx => by cases ha; exact hcells i _ (by simp [hx])⟩
      · cases hk
    · cases hk
  · cases hk
noncomputable def bysK (h : Heap) : List V → Option (List (List UInt8))
  | [] => some []
  | v :: l => match byK h v, bysK h l with
    | some x, some r => some (x :: r)
    | _, _ => none
theorem bysK_spec (r : Rel s0 U D ρ h w) : ∀ {xs : List V} {ls : List (List UInt8)}, InDL (DD D ρ) xs → bysK h xs = some ls → xs.length = ls.length ∧ (∀ (i : Nat) v l, (concL ρ xs)[i]? = some v → ls[i]? = some l → Lib.HoldsBytes w v l) ∧ ∀ x ∈ xs, x.size = 1 ∧ x.leaf = true
  | [], ls, _, hk => by cases hk; exact ⟨rfl, fun i v l h => by simp [concL] at h, fun x hx => by cases hx⟩
  | v :: xs, ls, hin, hk => by
    unfold bysK at hk
    split at hk
    · rename_i x r' hx hr
      cases hk
      obtain ⟨h1, h2, h3⟩ := bysK_spec r hin.2 hr
      refine ⟨congrArg (· + 1) h1, fun i u l hu hl => ?_, fun y hy => ?_⟩
      · cases i with
        | zero =>
          simp only [concL, List.getElem?_cons_zero, Option.some.injEq] at hu hl
          subst hu; subst hl
          exact byK_spec r hin.1 hx
        | succ i =>
          simp only [concL, List.getElem?_cons_succ] at hu hl
          exact h2 i u l hu hl
      · rcases List.mem_cons.1 hy with rfl | hy
        · unfold byK at hx
          split at hx
          · exact ⟨rfl, rfl⟩
          · exact ⟨rfl, rfl⟩
          · cases hx
        · exact h3 y hy
    · cases hk
theorem concE_leaf (ρ : Env) : ∀ {xs : List V}, (∀ x ∈ xs, x.size = 1 ∧ x.leaf = true) → concE ρ 1 xs = concL ρ xs
  | [], _ => rfl
  | x :: xs, h => by
    have hx := (h x (by simp)).2
    simp only [concE, concL, cellsV_leaf hx, concE_leaf ρ (xs := xs) fun y hy => h y (by simp [hy])]
    rw [fit_self (by rfl)]; rfl
theorem join_flat : ∀ ls : List (List UInt8), Lib.join ls [] = ls.flatten
  | [] => rfl
  | x :: r => by
    rw [Lib.join_cons]
    unfold Lib.joinTail
    simp
noncomputable def joinK : List V → Heap → Option (V × Heap)
  | [.sl b _ off n 1 _, y], h => match h.val b, byK h y with
    | some bv, some [] => match subArr 50 bv off n 1 with
      | some xs => match bysK h xs with
        | some ls => match Nat.ble 2 n && Nat.ble n 140737488355328 && Nat.ble 1 ls.flatten.length && Nat.ble ls.flatten.length 140737488355328 with
          | true => some (.sl h.next 0 0 ls.flatten.length 1 none, h.push (.ro (.arr ls.flatten.length 1 (bytesV ls.flatten))))
          | false => none
        | none => none
      | none => none
    | _, _ => none
  | _, _ => none
end
theorem joinOK {C : Cfg} : KnownFn Tryz.prog C 299 joinK := fun vs h v h' he => by
  unfold joinK at he
  split at he
  · rename_i b base off n lim y
    split at he
    · rename_i bv hv hy
      split at he
      · rename_i xs hxs
        split at he
        · rename_i ls hls
          split at he
          · rename_i hb
            cases he
            simp only [Bool.and_eq_true] at hb
            obtain ⟨⟨⟨hb1, hb2⟩, hb3⟩, hb4⟩ := hb
            have hb1 := Nat.le_of_ble_eq_true hb1
            have hb2 := Nat.le_of_ble_eq_true hb2
            have hb3 := Nat.le_of_ble_eq_true hb3
            have hb4 := Nat.le_of_ble_eq_true hb4
            refine ⟨mono_push _ _, (fnsOK 299 _ (by rfl)).2.1, fun s0 U D ρ w hU gl hin rel => ?_⟩
            have hU : h.next + 1 ≤ U := hU
            have hx := hin.1
            have hyi := hin.2.1
            obtain ⟨g1, g2, g3, g4⟩ := subArr_spec (ρ := ρ) 50 bv off n 1 xs hxs
            obtain ⟨_, _, _, _, _, _, _, hvin⟩ := rel.val hx.2.2.1 hv
            have hxin : InDL (DD D ρ) xs := g4 _ hvin
            obtain ⟨k1, k2, k3⟩ := bysK_spec rel hxin hls
            have hcells := sl_cells rel hx hv hxs
            rw [concE_leaf ρ k3] at hcells
            have hge := slCap_ge hx
            have hc0 : ¬ slCap ρ b off 1 lim = 0 := by omega
            rw [if_neg hc0] at hcells
            have hP : Lib.PartsAt w ⟨ρ.b b, ρ.pre b + off, none⟩ (concL ρ xs) ls := ⟨by rw [concL_length, k1], hcells, k2⟩
            have hS := byK_spec rel hyi hy
            have hlens : Lib.lens ls = ls.flatten.length := by simp [Lib.lens, List.length_flatten]
            have cj := Tryz.bytes_Join_many (ρ.b b) (ρ.pre b + off) n (slCap ρ b off 1 lim) (concL ρ xs) ls (conc ρ y) [] w (by omega) hb1 hP hge hS hb2 (by rw [hlens, List.length_nil, Nat.zero_mul, Nat.add_zero]; exact hb4)
            have harg : (concL ρ [.sl b base off n 1 lim, y]).toArray = #[.slice (some ⟨ρ.b b, ρ.pre b + off, none⟩) n (slCap ρ b off 1 lim), conc ρ y] := by
              simp [concL, conc, slConc, hc0]
            rw [harg]
            refine cj.mono ?_
            rintro e w' ⟨v', rfl, hfresh, hbel⟩
            rw [join_flat] at hfresh
            clear hlens cj
            generalize ls.flatten = F at hfresh hb3 hb4 ⊢
            obtain ⟨g, cap, zs, rfl, hg, hlc, hmax, hzl, hzr, hzb, hcell, hfrz⟩ := hfresh
            have hobj : ∃ cs ty fz, w'.heap[g]? = some (.cells cs ty fz) := by
              have := hcell 0 (by omega)
              simp only [World.cell?] at this
              split at this
              · rename_i cs ty fz hh; exact ⟨_, _, _, hh⟩
              · cases this
            obtain ⟨cs, ty, fz, hobj⟩ := hobj
            have hcs : ∀ i, i < cap → cs[i]? = some (.int .u8 (zs.getD i 0)) := fun i hi => by
              have := hcell i hi
              simpa [World.cell?, hobj] using this
            have hval : ∀ i (hi : i < F.length), zs.getD i 0 = (F[i].toNat : Int) := fun i hi => by
              have hz : i < zs.length := by omega
              have h1 := congrArg (·[i]?) hzb
              simp only [Go.Lib.bytesOf, List.getElem?_map, List.getElem?_take, hi, if_true, List.getElem?_eq_getElem hz, Option.map_some, List.getElem?_eq_getElem hi, Option.some.injEq] at h1
              obtain ⟨q1, q2⟩ := hzr zs[i] (List.getElem_mem hz)
              rw [← h1]
              simp [List.getD, List.getElem?_eq_getElem hz]
              omega
            have hcells2 : cs.toList = cellsV ρ (.arr F.length 1 (bytesV F)) ++ cs.toList.drop F.length := by
              have e : cellsV ρ (.arr F.length 1 (bytesV F)) = F.map fun b => Value.int .u8 b.toNat := by
                simp only [cellsV]
                rw [fit_self (by rw [concE_length]; simp [bytesV]), bytes_concE]
              rw [e]
              apply List.ext_getElem?
              intro i
              by_cases hi : i < F.length
              · rw [List.getElem?_append_left (by simpa using hi)]
                have := hcs i (by omega)
                rw [hval i hi] at this
                simpa [List.getElem?_eq_getElem hi] using this
              · rw [List.getElem?_append_right (by simp; omega), List.getElem?_drop]
                congr 1
                simp; omega
            have hinv : InD (DD D ρ) (.arr F.length 1 (bytesV F)) := InDL_iff.2 fun y hy => by obtain ⟨c, _, rfl⟩ := List.mem_map.1 hy; trivial
            have hag : Env.Agree (DD D ρ) ρ (ρ.add h.next g 0 cap) := Env.add_agree (rel.next_new hU)
            obtain ⟨r', n'⟩ := rel.pushAt hU (q := g) (pre := 0) (cap := cap) (b := .ro (.arr F.length 1 (bytesV F))) hg hbel hobj hinv ⟨[], cs.toList.drop F.length, ty, fz, by
              rw [cellsV_agree hag hinv, List.nil_append, ← hcells2], by simp [Env.add], by simp [Env.add]; exact hlc⟩
            refine ⟨_, _, ?_, r', n', by omega, Nat.le_refl _, .inr rfl, ?_⟩
            · have : ¬ cap = 0 := by omega
              simp [conc, slConc, slCap, Env.add, this]
            · simp [Env.add]; exact hlc
          · cases he
        · cases he
      · cases he
    · cases he
  · cases he
noncomputable def known2T : Tr (List V → Heap → Option (V × Heap)) := knownT.set 299 (some joinK)
noncomputable def cfg2 : Cfg := { cfg with known := fun f => known2T.get f }
theorem cfg2OK : CfgOK Tryz.prog cfg2 := ⟨cfgOK.ty, cfgOK.ext, cfgOK.mp, cfgOK.mt⟩
theorem fns2OK : FnsOK Tryz.prog cfg2 := fnsOK
theorem known2OK : KnownOK Tryz.prog cfg2 := fun f k hk => by
  have e : known2T.get f = if f = 299 then some joinK else knownT.get f := by
    unfold known2T
    rw [Tr.get_set]
  have hk : known2T.get f = some k := hk
  rw [e] at hk
  split at hk
  · rename_i hf
    cases hk
    subst hf
    exact joinOK
  · exact known1OK f k hk
end Go.Proofs.YtmlemnbhjbaedaaGreatDoor

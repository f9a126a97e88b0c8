/-
  All operations, on values with what they hold: the plain machine does the same. Nothing here speaks of a program.
-/
import Derived.Test.YtmlemnbhjbaedaaGreatDoorWMem
namespace Go.Proofs.YtmlemnbhjbaedaaGreatDoor
open Go.RowKit
set_option linter.unusedSimpArgs false
set_option linter.unusedVariables false

section
variable {Γ : Ctx} {hp : HpW} {X : Nat → Prop} {C : Cfg} {G : Nat → Option W} {R : Res} {fr : FrW} {frv : Tr V}
theorem bytes_els (s : List UInt8) : Els Γ 1 (bytesW s) (bytesV s) := by
  refine ⟨by simp [bytesW, bytesV], fun x hx => ?_, fun u hu => ?_, ?_⟩
  · simp only [bytesW, List.mem_map] at hx; obtain ⟨c, _, rfl⟩ := hx; rfl
  · simp only [bytesV, List.mem_map] at hu; obtain ⟨c, _, rfl⟩ := hu; exact ⟨rfl, .inl rfl⟩
  · induction s with
    | nil => simp [bytesW, bytesV, RSL, flatE]
    | cons c s ih =>
      simp only [bytesW, bytesV, List.map_cons, flatE]
      exact RSL_cons (by simp [RS, flatV, fitV]) ih
theorem own_val (s : SatH C G Γ hp X R) {b : Nat} {x : TypeId × W} (hb : hget hp b = some x) : ∃ v, Γ.h.get (Γ.σ b) = some (.cells x.1 v) ∧ Γ.h.val (Γ.σ b) = some v ∧ RV Γ x.2 v := by
  obtain ⟨_, _, _, v, h1, h2⟩ := s.own b x.1 x.2 hb
  exact ⟨v, h1, val_of_get h1, h2⟩
theorem src_sim (s : SatH C G Γ hp X R) {tx : TypeId} {esz : Nat} {x : W} {x' : V} {l : List W} (hx : RV Γ x x') (h : srcW C hp tx esz x = some l) : ∃ us, srcV C Γ.h tx esz x' = some us ∧ Els Γ esz l us := by
  unfold srcW at h
  unfold srcV
  split at h
  · cases h
  · rename_i j hj
    rw [hj]
    simp only
    split at h
    · rename_i e hd
      cases h
      rw [RV_nils] at hx; subst hx
      rw [hd]; exact ⟨[], rfl, Els.nil _⟩
    · rename_i e xs e' full hd
      rw [hd]
      split at h
      · rename_i he
        cases h
        rw [Nat.beq_eq] at he; subst he
        rcases sim_fz hx with ⟨rfl, rfl⟩ | ⟨b, base, off, lim, bv, us, rfl, g1, g2, g3, g4, g5, g6, g7, g8, g9⟩
        · exact ⟨[], rfl, Els.nil _⟩
        · refine ⟨us, ?_, g9⟩
          simp only [show Nat.beq e' e' = true by simp, g3]
          exact g8
      · cases h
    · rename_i e b base off n e' lim hd
      rw [hd]
      obtain ⟨hb, rfl⟩ := RV_sl.1 hx
      split at h
      · rename_i ty v he hv
        obtain ⟨u, h1, h2, h3⟩ := own_val s hv
        obtain ⟨us, g1, g2, g3⟩ := sim_sub h3 h
        refine ⟨us, ?_, g3⟩
        simp only [he, h2]
        exact g1
      · cases h
    · rename_i y hd
      rw [RV_str] at hx; subst hx
      rw [hd]
      split at h
      · rename_i he
        cases h
        simp only [he]
        rw [Nat.beq_eq] at he; subst he
        exact ⟨_, rfl, bytes_els y⟩
      · cases h
    · cases h
theorem app_sim (s : SatH C G Γ hp X R) {ts tx : TypeId} {x y : W} {x' y' : V} {w : W} {hp' : HpW} {nw' : Nat} {ev : EvW} (hx : RV Γ x x') (hy : RV Γ y y') (h : appW C hp Γ.nw ts tx x y = some (w, hp', nw', ev)) :
    ∃ v h' Γ', appendV C Γ.h ts tx x' y' = some (v, h') ∧ Out C G X R Γ hp v h' w hp' nw' Γ' ∧ (ev = .gen ∧ h'.wmin = Γ.h.wmin ∨ ev = .dirty) := by
  unfold appW at h
  unfold appendV
  split at h
  · cases h
  · rename_i j hj
    rw [hj]
    simp only
    split at h
    · rename_i e hd
      rw [hd]
      simp only
      split at h
      · cases h
      · rename_i k hk
        rw [hk]
        simp only
        split at h
        · cases h
        · rename_i hz
          rw [hz]
          simp only
          split at h
          · cases h
          · rename_i news hn
            obtain ⟨us, h1, h2⟩ := src_sim s hy hn
            rw [h1]
            simp only
            have hlen := h2.len
            split at h
            · rw [RV_nils] at hx; subst hx
              simp only
              split at h
              · cases h
                have : us = [] := List.length_eq_zero_iff.1 hlen
                subst this
                exact ⟨_, _, Γ, rfl, Out.same s (RV_nils.2 rfl), .inl ⟨by first | rfl | trivial, rfl⟩⟩
              · rename_i a l
                cases us with
                | nil => simp at hlen
                | cons u us =>
                  simp only
                  split at h
                  · rename_i hb
                    cases h
                    rw [hlen, hb]
                    simp only
                    have ha := h2.arr
                    rw [hlen] at ha
                    exact ⟨_, _, _, rfl, Out.new s ha RV_news, .inl ⟨by first | rfl | trivial, rfl⟩⟩
                  · cases h
            · rename_i l esz full
              split at h
              · cases h
              · rename_i he
                cases h
                have : us = [] := List.length_eq_zero_iff.1 hlen
                subst this
                rcases sim_fz hx with ⟨rfl, rfl⟩ | ⟨b, base, off, lim, bv, olds, rfl, _⟩
                · exact ⟨_, _, Γ, rfl, Out.same s (RV.of_one (by simp [RS]) rfl rfl), .inl ⟨by first | rfl | trivial, rfl⟩⟩
                · simp only [he]
                  exact ⟨_, _, Γ, rfl, Out.same s hx, .inl ⟨by first | rfl | trivial, rfl⟩⟩
              · rename_i a news' he
                cases us with
                | nil => simp at hlen
                | cons u us =>
                  split at h
                  · rename_i hb
                    cases h
                    simp only [Bool.and_eq_true] at hb
                    obtain ⟨⟨hb1, hb2⟩, hfull⟩ := hb
                    have he' := Nat.eq_of_beq_eq_true he
                    subst he'
                    rcases sim_fz hx with ⟨rfl, rfl⟩ | ⟨b, base, off, lim, bv, olds, rfl, g1, g2, g3, g4, g5, g6, g7, g8, g9⟩
                    · simp only [List.length_nil, Nat.zero_add, List.nil_append] at hb1 hb2 ⊢
                      rw [hlen, hb1, hb2]
                      have ha := h2.arr
                      rw [hlen] at ha
                      exact ⟨_, _, _, rfl, Out.new s ha RV_news, .inl ⟨by first | rfl | trivial, rfl⟩⟩
                    · simp only [he]
                      rw [hlen, hb1, hb2]
                      simp only [Bool.and_self]
                      rw [g1 hfull]
                      simp only
                      have hnb : Nat.ble (l.length + (a :: news').length) l.length = false := by
                        cases hq : Nat.ble (l.length + (a :: news').length) l.length with
                        | true => have := Nat.le_of_ble_eq_true hq; simp only [List.length_cons] at this; omega
                        | false => rfl
                      rw [hnb]
                      simp only [g3, g8]
                      have ha := (g9.append h2).arr
                      rw [show (olds ++ u :: us).length = l.length + (a :: news').length by rw [List.length_append, g9.len, hlen], show (l ++ a :: news').length = l.length + (a :: news').length by rw [List.length_append]] at ha
                      exact ⟨_, _, _, rfl, Out.new s ha RV_news, .inl ⟨by first | rfl | trivial, rfl⟩⟩
                  · cases h
            · rename_i b base off len esz lim
              obtain ⟨hbn, rfl⟩ := RV_sl.1 hx
              simp only
              split at h
              · cases h
              · rename_i he
                cases h
                have : us = [] := List.length_eq_zero_iff.1 hlen
                subst this
                simp only [he]
                exact ⟨_, _, Γ, rfl, Out.same s hx, .inl ⟨by first | rfl | trivial, rfl⟩⟩
              · rename_i a news' he
                cases us with
                | nil => simp at hlen
                | cons u us =>
                  have he' := Nat.eq_of_beq_eq_true he
                  subst he'
                  simp only [show Nat.beq k.size k.size = true by simp]
                  split at h
                  · rename_i ty v hb hgb
                    obtain ⟨bv, q1, q2, q3⟩ := own_val s hgb
                    rw [hlen, hb]
                    simp only
                    split at h
                    · rename_i c
                      simp only
                      split at h
                      · rename_i hc
                        rw [hc]
                        simp only [q1]
                        rw [q3.size]
                        split at h
                        · rename_i hle
                          rw [hle]
                          simp only
                          split at h
                          · rename_i v' hv'
                            cases h
                            obtain ⟨pv, p1, p2⟩ := putN_sim q3 h2 hv'
                            rw [p1]
                            have hs := put_sat s hgb (ty := ty) p2
                            have le := put_le s hgb (.cells ty pv)
                            exact ⟨_, _, Γ.put b (.cells ty pv), rfl, ⟨rfl, rfl, le, hs.1, hs.2, RV_sl.2 ⟨hbn, rfl⟩⟩, .inr (by first | rfl | trivial)⟩
                          · cases h
                        · cases h
                      · rename_i hc
                        rw [hc]
                        simp only [q2]
                        split at h
                        · rename_i olds ho
                          cases h
                          obtain ⟨os, p1, p2, p3⟩ := sim_sub q3 ho
                          rw [p1]
                          have ha := (p3.append h2).arr
                          rw [show (os ++ u :: us).length = len + (a :: news').length by rw [List.length_append, p3.len, p2, hlen], show (olds ++ a :: news').length = len + (a :: news').length by rw [List.length_append, p2]] at ha
                          exact ⟨_, _, _, rfl, Out.new s ha RV_news, .inl ⟨by first | rfl | trivial, rfl⟩⟩
                        · cases h
                    · simp only [q1]
                      rw [q3.size]
                      split at h
                      · rename_i hle
                        rw [hle]
                        simp only
                        split at h
                        · rename_i v' hv'
                          cases h
                          obtain ⟨pv, p1, p2⟩ := putN_sim q3 h2 hv'
                          rw [p1]
                          have hs := put_sat s hgb (ty := ty) p2
                          have le := put_le s hgb (.cells ty pv)
                          exact ⟨_, _, Γ.put b (.cells ty pv), rfl, ⟨rfl, rfl, le, hs.1, hs.2, RV_sl.2 ⟨hbn, rfl⟩⟩, .inr (by first | rfl | trivial)⟩
                        · cases h
                      · rename_i hle
                        rw [hle]
                        simp only
                        split at h
                        · rename_i olds hty ho
                          cases h
                          obtain ⟨os, p1, p2, p3⟩ := sim_sub q3 ho
                          rw [hty, p1]
                          simp only
                          have ha := (p3.append h2).arr
                          rw [show (os ++ u :: us).length = len + (a :: news').length by rw [List.length_append, p3.len, p2, hlen], show (olds ++ a :: news').length = len + (a :: news').length by rw [List.length_append, p2]] at ha
                          -- the new block first, then the old one is let go
                          have n1 := push_sat s (ty := e) ha
                          have le1 := push_le s (.cells e (.arr ((len + (a :: news').length) * k.size) k.size (os ++ u :: us)))
                          have hgb' : hget ((Γ.nw, e, W.arr ((len + (a :: news').length) * k.size) k.size (olds ++ a :: news')) :: hp) b = some (ty, v) := by
                            rw [hget_cons, if_neg (by omega)]; exact hgb
                          obtain ⟨le2, n2, f2⟩ := kill_sat n1.1 hgb'
                          have hσ : (Γ.push (.cells e (.arr ((len + (a :: news').length) * k.size) k.size (os ++ u :: us)))).σ b = Γ.σ b := le1.σ b hbn
                          have hdl : hdel ((Γ.nw, e, W.arr ((len + (a :: news').length) * k.size) k.size (olds ++ a :: news')) :: hp) b = (Γ.nw, e, W.arr ((len + (a :: news').length) * k.size) k.size (olds ++ a :: news')) :: hdel hp b := by
                            have : Nat.beq Γ.nw b = false := by
                              cases hq : Nat.beq Γ.nw b with
                              | true => have := Nat.eq_of_beq_eq_true hq; omega
                              | false => rfl
                            simp only [hdel, this]
                          rw [hdl, hσ] at n2 f2
                          rw [hσ] at le2
                          refine ⟨_, _, _, rfl, ⟨rfl, rfl, ⟨Nat.le_trans le1.nw le2.nw, fun i hi => (le2.σ i (Nat.lt_of_lt_of_le hi le1.nw)).trans (le1.σ i hi), fun i hi => le2.D i (le1.D i hi), fun i hi => (le2.val i (le1.D i hi)).trans (le1.val i hi)⟩, n2, n1.2.trans (f2.le (m' := Γ.nw) (Nat.le_succ _) (Nat.le_refl _)), ?_⟩, .inr (by first | rfl | trivial)⟩
                          exact RV_sl.2 ⟨Nat.lt_succ_self _, by simp [Ctx.push]⟩
                        · cases h
                  · cases h
            · cases h
    · cases h
theorem flat_ints : ∀ {l : List W} {s : List V} {r : List UInt8}, bytesOfW l = some r → RSL Γ l s → bytesOf s = some r
  | [], s, r, h, hs => by
    simp only [bytesOfW] at h; cases h
    simp only [RSL] at hs; subst hs; rfl
  | x :: l, s, r, h, hs => by
    unfold bytesOfW at h
    split at h
    · rename_i e; cases e
    · rename_i c l' e
      cases e
      obtain ⟨a, b, rfl, h1, h2⟩ := RSL_uncons hs
      simp only [RS] at h1
      subst h1
      split at h
      · rename_i r' hc hr
        cases h
        have := flat_ints hr h2
        simp only [List.singleton_append, bytesOf, hc, this]
      · cases h
    · cases h
/-- **an operation on blocks** -/
theorem opH_sim (hf : FRel Γ fr frv) (s : SatH C G Γ hp X R) {rt : TypeId} {o : Op} {w : W} {hp' : HpW} {nw' : Nat} {ev : EvW} (h : opHW C G fr hp Γ.nw o = some (w, hp', nw', ev)) :
    ∃ v h' Γ', pureV C frv rt o = none ∧ opH C frv Γ.h o = some (v, h') ∧ Out C G X R Γ hp v h' w hp' nw' Γ' ∧ (∀ H1 : Heap, H1.next = Γ.h.next → Γ.h.wmin = Γ.h.next → EvR Γ hp ev (evOf C frv H1 h' o)) := by
  have hg := s.gl
  unfold opHW at h
  split at h
  · -- convert
    rename_i t1 t2 x
    unfold hConv at h
    split at h
    · rename_i js jt u hjs hjt hu
      obtain ⟨v, h1, h2⟩ := ev_sim hf hg hu
      simp only [pureV, pvConvert, opH, ohConvert, hjs, hjt, h1]
      split at h
      · rename_i e hd1 hd2
        rw [hd1, hd2]
        have hgen : ∀ H1 : Heap, H1.next = Γ.h.next → Γ.h.wmin = Γ.h.next → evOf C frv H1 Γ.h (.convert t1 t2 x) = .gen := fun H1 e1 e2 => by
          simp only [evOf]
          rw [e2, e1, Nat.ble_eq_true_of_le (Nat.le_refl _)]
        split at h
        · rename_i hde
          cases h
          rw [RV_nils] at h2; subst h2
          refine ⟨_, _, Γ, rfl, by simp only [hde], Out.same s (RV_str.2 rfl), fun H1 e1 e2 => hgen H1 e1 e2⟩
        · rename_i l esz full hde
          split at h
          · rename_i he
            split at h
            · rename_i r hr
              cases h
              rcases sim_fz h2 with ⟨rfl, rfl⟩ | ⟨b, base, off, lim, bv, us, rfl, g1, g2, g3, g4, g5, g6, g7, g8, g9⟩
              · simp only [bytesOfW] at hr; cases hr
                exact ⟨_, _, Γ, rfl, by simp only [hde], Out.same s (RV_str.2 rfl), fun H1 e1 e2 => hgen H1 e1 e2⟩
              · have he' := Nat.eq_of_beq_eq_true he
                subst he'
                have hb := flat_ints hr g9.rs
                exact ⟨_, _, Γ, rfl, by simp only [hde, show Nat.beq 1 1 = true by rfl, g3, g8, hb], Out.same s (RV_str.2 rfl), fun H1 e1 e2 => hgen H1 e1 e2⟩
            · cases h
          · cases h
        · rename_i b base off n esz lim hde
          obtain ⟨hbn, rfl⟩ := RV_sl.1 h2
          split at h
          · rename_i ty bv he hgb
            have he' := Nat.eq_of_beq_eq_true he
            subst he'
            obtain ⟨u, q1, q2, q3⟩ := own_val s hgb
            split at h
            · rename_i l hl
              split at h
              · rename_i r hr
                cases h
                obtain ⟨us, p1, p2, p3⟩ := sim_sub q3 hl
                have hb := flat_ints hr p3.rs
                exact ⟨_, _, Γ, rfl, by simp only [hde, show Nat.beq 1 1 = true by rfl, q2, p1, hb], Out.same s (RV_str.2 rfl), fun H1 e1 e2 => hgen H1 e1 e2⟩
              · cases h
            · cases h
          · cases h
        · cases h
      · cases h
    · cases h
  · -- load
    rename_i t x
    unfold hLoad at h
    split at h
    · rename_i b off i hx hi
      obtain ⟨v, h1, h2⟩ := ev_sim hf hg hx
      obtain ⟨hbn, rfl⟩ := RV_ptr.1 h2
      split at h
      · rename_i ty bv hgb
        obtain ⟨u, q1, q2, q3⟩ := own_val s hgb
        split at h
        · rename_i r hr
          cases h
          obtain ⟨y, p1, p2, _⟩ := sim_get q3 hr
          refine ⟨y, _, Γ, rfl, by simp only [opH, ohLoad, h1, hi, q2, p1], Out.same s p2, fun H1 e1 e2 => ⟨_, hgb, ?_⟩⟩
          simp only [evOf, h1]
        · cases h
      · cases h
    · rename_i z i hx hi
      obtain ⟨v, h1, h2⟩ := ev_sim hf hg hx
      obtain ⟨b, off, bv, rfl, g1, g2, g3, g4, g5, g6⟩ := sim_fel h2
      split at h
      · rename_i r hr
        cases h
        obtain ⟨y, p1, p2⟩ := fel_load hr g3 g4 g5 g6
        refine ⟨y, _, Γ, rfl, by simp only [opH, ohLoad, h1, hi, g2, p1], Out.same s p2, fun H1 e1 e2 => ⟨b, g1, ?_⟩⟩
        simp only [evOf, h1]
      · cases h
    · cases h
  · -- store
    rename_i t x y
    unfold hStore at h
    split at h
    · rename_i b off u i hx hy hi
      obtain ⟨v, h1, h2⟩ := ev_sim hf hg hx
      obtain ⟨hbn, rfl⟩ := RV_ptr.1 h2
      obtain ⟨u', h3, h4⟩ := ev_sim hf hg hy
      split at h
      · rename_i ty bv hgb hs
        obtain ⟨uv, q1, q2, q3⟩ := own_val s hgb
        split at h
        · rename_i w' hw'
          cases h
          obtain ⟨v', p1, p2, _⟩ := sim_put q3 h4 hw'
          have hst := put_sat s hgb (ty := ty) p2
          have le := put_le s hgb (.cells ty v')
          refine ⟨.undef, _, Γ.put b (.cells ty v'), rfl, by simp only [opH, ohStore, h1, h3, hi, q1, h4.size, hs, p1]; rfl, ⟨rfl, rfl, le, hst.1, hst.2, RV_undef.2 rfl⟩, fun H1 e1 e2 => ⟨_, hgb, ?_⟩⟩
          simp only [evOf, h1]
        · cases h
      · cases h
    · cases h
  · -- alloc
    rename_i t
    unfold hAlloc at h
    split at h
    · rename_i i hi
      split at h
      · rename_i z hz
        cases h
        refine ⟨_, _, _, rfl, by simp only [opH, ohAlloc, hi], Out.new s (emb_sim hz) RV_newp, fun H1 e1 e2 => ?_⟩
        simp only [EvR, evOf, Heap.push, e1, e2]
        rw [Nat.ble_eq_true_of_le (Nat.le_refl _)]
      · cases h
    · cases h
  · -- box
    rename_i t x
    unfold hBox at h
    split at h
    · rename_i u hu
      obtain ⟨v, h1, h2⟩ := ev_sim hf hg hu
      split at h
      · rename_i hl
        cases h
        have hl' : (v.leaf || v.isAgg) = true := by
          rw [← h2.1]
          cases ha : u.isAgg with
          | true => simp
          | false =>
            rw [ha, Bool.or_false] at hl
            rw [h2.leaf hl]; rfl
        refine ⟨_, _, _, rfl, by simp only [opH, ohBox, h1, hl'], Out.new s h2 RV_newp, fun H1 e1 e2 => ?_⟩
        simp only [EvR, evOf, Heap.push, e1, e2]
        rw [Nat.ble_eq_true_of_le (Nat.le_refl _)]
      · cases h
    · cases h
  · -- buildSlice
    rename_i t n parts
    unfold hBuildS at h
    split at h
    · rename_i i hi
      split at h
      · rename_i e hd
        split at h
        · rename_i k hk
          split at h
          · rename_i z hz1 hz
            split at h
            · rename_i w' hks hw'
              cases h
              have hzs := (emb_sim (Γ := Γ) hz)
              rw [Nat.beq_eq] at hks
              obtain ⟨v, p1, p2⟩ := fillE_sim hf hg (rep_sim (n := n) hzs hks) hw'
              refine ⟨_, _, _, rfl, by simp only [opH, ohBuildslice, hi, hd, hk, hz1, p1], Out.new s p2 RV_news, fun H1 e1 e2 => ?_⟩
              simp only [EvR, evOf, Heap.push, e1, e2]
              rw [Nat.ble_eq_true_of_le (Nat.le_refl _)]
            · cases h
          · cases h
        · cases h
      · cases h
    · cases h
  · -- makeSlice
    rename_i t x y
    unfold hMakeS at h
    split at h
    · rename_i i u v hi hu hv
      obtain ⟨u', h1, h2⟩ := ev_sim hf hg hu
      obtain ⟨v', h3, h4⟩ := ev_sim hf hg hv
      split at h
      · rename_i e l c hd hl hc
        split at h
        · rename_i k hk
          split at h
          · rename_i z hz1 hz
            split at h
            · rename_i hks
              cases h
              have hzs := (emb_sim (Γ := Γ) hz)
              rw [Nat.beq_eq] at hks
              refine ⟨_, _, _, rfl, by simp only [opH, ohMakeslice, hi, h1, h3, hd, nat_sim h2 hl, nat_sim h4 hc, hk, hz1], Out.new s (rep_sim hzs hks) RV_news, fun H1 e1 e2 => ?_⟩
              simp only [EvR, evOf, Heap.push, e1, e2]
              rw [Nat.ble_eq_true_of_le (Nat.le_refl _)]
            · cases h
          · cases h
        · cases h
      · cases h
    · cases h
  · -- append
    rename_i args ats
    unfold hAppend at h
    split at h
    · rename_i x y ts tx ha ht
      split at h
      · rename_i sx u hs hu
        obtain ⟨s', h1, h2⟩ := ev_sim hf hg hs
        obtain ⟨u', h3, h4⟩ := ev_sim hf hg hu
        obtain ⟨v, h', Γ', p1, p2, p3⟩ := app_sim s h2 h4 h
        refine ⟨v, h', Γ', rfl, by simp only [opH, ohAppend, ha, ht, h1, h3]; exact p1, p2, fun H1 e1 e2 => ?_⟩
        rcases p3 with ⟨rfl, p3⟩ | rfl
        · simp only [EvR, evOf, e1, p3, e2]
          rw [Nat.ble_eq_true_of_le (Nat.le_refl _)]
        · exact trivial
      · cases h
    · cases h
  · -- slice
    rename_i t x lo hi mx
    unfold hSlice at h
    split at h
    · rename_i j u hj hu
      obtain ⟨v, h1, h2⟩ := ev_sim hf hg hu
      split at h
      · rename_i n e b off hd
        obtain ⟨hbn, rfl⟩ := RV_ptr.1 h2
        split at h
        · rename_i k l r ty bv hk hl hr hgb
          obtain ⟨bv', q1, q2, q3⟩ := own_val s hgb
          split at h
          · cases h
          · rename_i hc
            cases h
            have hc' : (Nat.beq k.size 0 || !Nat.ble l r || !Nat.ble r n || !Nat.ble (off + n * k.size) bv'.size) = false := by rw [q3.size]; exact hc
            refine ⟨_, _, Γ, by simp only [pureV, pvSlice, hj, h1, hd], by simp only [opH, ohSlice, hj, h1, hd, hk, bnd_sim hf hg hl, bnd_sim hf hg hr, q2, hc'], Out.same s (RV_sl.2 ⟨hbn, rfl⟩), fun H1 e1 e2 => ?_⟩
            simp only [EvR, evOf, e1, e2]
            rw [Nat.ble_eq_true_of_le (Nat.le_refl _)]
        · cases h
      · rename_i n e y hd
        obtain ⟨b, off, bv, rfl, g1, g2, g3, g4, g5, g6⟩ := sim_fel h2
        split at h
        · rename_i k l r hk hl hr
          split at h
          · cases h
          · rename_i hc
            split at h
            · rename_i xs hxs
              cases h
              simp only [Bool.or_eq_false_iff, Bool.not_eq_false'] at hc
              obtain ⟨⟨⟨c1, c2⟩, c3⟩, c4⟩ := hc
              have l2 := Nat.le_of_ble_eq_true c2
              have l3 := Nat.le_of_ble_eq_true c3
              have l4 := Nat.le_of_ble_eq_true c4
              obtain ⟨p1, p2, p3, p4, p5⟩ := subArrW_spec (Γ := Γ) 50 hxs g6
              have hc' : (Nat.beq k.size 0 || !Nat.ble l r || !Nat.ble r n || !Nat.ble (off + n * k.size) bv.size) = false := by
                rw [c1, c2, c3, Nat.ble_eq_true_of_le (show off + n * k.size ≤ bv.size by omega)]; rfl
              refine ⟨.sl b off (off + l * k.size) (r - l) k.size (some (n - l)), _, Γ, by simp only [pureV, pvSlice, hj, h1, hd], by simp only [opH, ohSlice, hj, h1, hd, hk, bnd_sim hf hg hl, bnd_sim hf hg hr, g2, hc'], Out.same s ?_, fun H1 e1 e2 => ?_⟩
              · have hb : l * k.size + (r - l) * k.size ≤ y.size := p2
                have := RV_fz (Γ := Γ) (l := xs) (e := k.size) (full := Nat.beq r n) (base := off) (off := off + l * k.size) (lim := some (n - l)) (fun hfull => by rw [Nat.beq_eq] at hfull; rw [p1, hfull]) g1 g2 (g4 p5) (by rw [p1]; omega) p3 (by
                  rw [List.drop_take, List.drop_drop, List.take_take, Nat.min_eq_left (by omega)] at p4
                  rw [p1]; exact p4)
                rw [p1] at this
                exact this
              · simp only [EvR, evOf, e1, e2]
                rw [Nat.ble_eq_true_of_le (Nat.le_refl _)]
            · cases h
        · cases h
      · cases h
    · cases h
  · cases h
end
end Go.Proofs.YtmlemnbhjbaedaaGreatDoor

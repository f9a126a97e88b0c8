/-
  What the plain machine's run tells of the model: regions in their order, control, functions, rounds. Nothing here speaks of a program.
-/
import Derived.Test.YtmlemnbhjbaedaaGreatDoorESound
namespace Go.Proofs.YtmlemnbhjbaedaaGreatDoor
open Go.RowKit
set_option linter.unusedSimpArgs false
set_option linter.unusedVariables false

noncomputable def mkD (ρ : Env) (d : Nat) : Deferred := { target := .collected (ρ.b d), args := #[] }
structure StR (C : Cfg) (s0 : World) (U N : Nat) (r : Option Nat) (tl : List Deferred) (D : Nat → Prop) (ρ : Env) (st : St) (a : Act) (w : World) : Prop where
  fr : FrE C D ρ st.fr a
  rel : Rel s0 U D ρ st.h w
  size : a.tmps.size = N
  defs : a.defers = st.ds.map (mkD ρ) ++ tl
  din : ∀ d ∈ st.ds, D d
  rd : st.rd = r.isSome
/-! ### jumps within a scope -/
noncomputable def jumpTo (J : Nat → Act → World → Prop) (Q : Exit → Act → World → Prop) : Exit → Act → World → Prop
  | .goto l, a, w => J l a w
  | e, a, w => Q e a w
noncomputable def scopeIn (F : Fence) (n : Nat) (P : Program) (c : Code) (Q : Exit → Act → World → Prop) : Nat → Nat → Act → World → Prop
  | 0, _, _, _ => False
  | m + 1, l, a, w => ∃ rest, findLabel c l = some rest ∧ rest.wpIn F n P (jumpTo (scopeIn F n P c Q m) Q) a w
theorem wpIn_scope_in {F : Fence} {n : Nat} {P : Program} {Q : Exit → Act → World → Prop} {a : Act} {w : World} {c : Code} (m : Nat) (h : c.wpIn F n P (jumpTo (scopeIn F n P c Q m) Q) a w) : (Code.scope c).wpIn F n P Q a w := by
  intro b k cs hro hb hr
  have h0 : (lone (b.atR a (.code (.scope c) :: k)) cs w).fenced P F := fenced_calm hb hr rfl
  have s0 : step P (lone (b.atR a (.code (.scope c) :: k)) cs w) = .next (lone (b.atR a (.code c :: .inScope c :: k)) cs w) := step_lone_go (by simp [stepG, stepG.exec, Frame.atR])
  have s1 : ∀ a w, step P (lone (b.atR a (.inScope c :: k)) cs w) = .next (lone (b.atR a k) cs w) := fun a w => step_lone_go (by simp [stepG, stepG.exec, Frame.atR])
  have hx : ∀ id, exitTo id (.inScope c :: k) = exitTo id k := fun id => by simp [exitTo]
  have key : ∀ m (d : Code) a w, d.wpIn F n P (jumpTo (scopeIn F n P c Q m) Q) a w → ∃ e a' w', Q e a' w' ∧ ArrivesIn (Machine.fenced P F) P (lone (b.atR a (.code d :: .inScope c :: k)) cs w) b k cs e a' w' := by
    intro m
    induction m with
    | zero =>
      intro d a w h
      obtain ⟨e, a₁, w₁, hq, harr⟩ := h b (.inScope c :: k) cs hro hb hr
      cases e with
      | normal => exact ⟨.normal, a₁, w₁, hq, StepsIn.trans harr (.one (fenced_calm hb hr rfl) (s1 _ _))⟩
      | exit id => exact ⟨.exit id, a₁, w₁, hq, fun k' hk => harr.1 k' (by rw [hx]; exact hk), fun hr' hk => harr.2 hr' (by rw [hx]; exact hk)⟩
      | goto l => exact hq.elim
      | ret => exact ⟨_, a₁, w₁, hq, harr⟩
      | panic ch => exact ⟨_, a₁, w₁, hq, harr⟩
      | outgrown => exact ⟨_, a₁, w₁, hq, harr⟩
    | succ m ih =>
      intro d a w h
      obtain ⟨e, a₁, w₁, hq, harr⟩ := h b (.inScope c :: k) cs hro hb hr
      cases e with
      | normal => exact ⟨.normal, a₁, w₁, hq, StepsIn.trans harr (.one (fenced_calm hb hr rfl) (s1 _ _))⟩
      | exit id => exact ⟨.exit id, a₁, w₁, hq, fun k' hk => harr.1 k' (by rw [hx]; exact hk), fun hr' hk => harr.2 hr' (by rw [hx]; exact hk)⟩
      | goto l =>
        obtain ⟨rest, hf, hw⟩ := hq
        obtain ⟨e₂, a₂, w₂, hq₂, harr₂⟩ := ih rest a₁ w₁ hw
        have hg : gotoIn l (.inScope c :: k) = some (.code rest :: .inScope c :: k) := by simp [gotoIn, hf]
        exact ⟨e₂, a₂, w₂, hq₂, .of_steps (harr.1 _ hg) harr₂⟩
      | ret => exact ⟨_, a₁, w₁, hq, harr⟩
      | panic ch => exact ⟨_, a₁, w₁, hq, harr⟩
      | outgrown => exact ⟨_, a₁, w₁, hq, harr⟩
  obtain ⟨e, a', w', hq, harr⟩ := key m c a w h
  exact ⟨e, a', w', hq, .of_steps (.one h0 s0) harr⟩

section
variable {P : Program} {C : Cfg} {S : Self} {s0 : World} {U : Nat} {D : Nat → Prop} {ρ : Env} {fr : Tr V} {a : Act} {w : World} {h : Heap}
/-- a region in its order -/
theorem evalOps_sound (hC : CfgOK P C) (hS : SelfOK P C S) {N : Nat} {ops : Array Oper} {X : List Deferred} {r : Option Nat} {Q : Exit → Act → World → Prop} : ∀ (l : List Oper) (fr : Tr V) (h : Heap) (fr' : Tr V) (h' : Heap), evalOps S C ops l fr h = some (fr', h') → (∀ o ∈ l, noDefer o = true ∧ dstOk N o.dst = true) →
    Mono h h' ∧ ∀ D ρ a w, h'.next ≤ U → FrE C D ρ fr a → Rel s0 U D ρ h w → a.tmps.size = N → a.defers = X →
      (∀ D' ρ' a' w', FrE C D' ρ' fr' a' → Rel s0 U D' ρ' h' w' → Nxt D ρ h w D' ρ' h' w' → a'.tmps.size = N → a'.defers = X → Q .normal a' w') → wpListIn (FF r) 0 P ops Q l a w
  | [], fr, h, fr', h', he, _ => by
    simp only [evalOps, Option.some.injEq, Prod.mk.injEq] at he
    obtain ⟨rfl, rfl⟩ := he
    exact ⟨Mono.refl _, fun D ρ a w _ g rel hs hd k => by unfold wpListIn; exact k D ρ a w g rel (Nxt.refl _ _ _ _) hs hd⟩
  | o :: l, fr, h, fr', h', he, hl => by
    obtain ⟨hn, hd⟩ := hl o (by simp)
    simp only [evalOps] at he
    split at he
    · rename_i hw
      split at he
      · rename_i v h1 ho
        obtain ⟨m2, ih⟩ := evalOps_sound hC hS (X := X) (r := r) (Q := Q) l _ _ _ _ he (fun o ho => hl o (by simp [ho]))
        have m1 := opV_mono hS ho
        refine ⟨m1.trans m2, fun D ρ a w hU g rel hs hdf k => ?_⟩
        unfold wpListIn
        rw [wantV_spec g hw, if_pos rfl]
        have hU1 := Nat.le_trans m2.nxt hU
        refine opV_sound hC hS hn ho hU1 g rel fun D1 ρ1 w1 rel1 n1 in1 => ?_
        refine ih D1 ρ1 _ w1 hU ((g.next rel.lt hU1 n1).put (by rw [hs]; exact hd) in1) rel1 (by cases o.dst <;> simp [Act.put, hs]) (by cases o.dst <;> simp [Act.put, hdf]) ?_
        exact fun D' ρ' a' w' q1 q2 q3 q4 q5 => k D' ρ' a' w' q1 q2 (n1.trans rel.lt hU q3) q4 q5
      · cases he
    · rename_i hw
      obtain ⟨m2, ih⟩ := evalOps_sound hC hS (X := X) (r := r) (Q := Q) l _ _ _ _ he (fun o ho => hl o (by simp [ho]))
      refine ⟨m2, fun D ρ a w hU g rel hs hdf k => ?_⟩
      unfold wpListIn
      rw [wantV_spec g hw, if_neg (by simp)]
      refine ⟨fun f _ => FF_fn r f, ih D ρ _ w hU (g.put (v := .undef) (by rw [hs]; exact hd) trivial) rel (by cases o.dst <;> simp [Act.put, hs]) (by cases o.dst <;> simp [Act.put, hdf]) k⟩
    · cases he

/-- what a code's run tells -/
noncomputable def CodeSound (P : Program) (C : Cfg) (N : Nat) (ev : St → Option (Exit × St)) (W : Option Nat → (Exit → Act → World → Prop) → Act → World → Prop) : Prop :=
  ∀ st x st', ev st = some (x, st') → Mono st.h st'.h ∧ ∀ s0 U r tl D ρ a w Q, st'.h.next ≤ U → StR C s0 U N r tl D ρ st a w →
    (∀ D' ρ' a' w', StR C s0 U N r tl D' ρ' st' a' w' → Nxt D ρ st.h w D' ρ' st'.h w' → Q x a' w') → W r Q a w
structure FlowOK (P : Program) (C : Cfg) (F : Flow) where
  m : Nat
  loop : ∀ N c, codeOK N c = true → CodeSound P C N (F.loop c) (fun r Q a w => Code.roundsIn (FF r) 0 P c Q m a w)
  scope : ∀ N c l, codeOK N c = true → CodeSound P C N (F.scope c l) (fun r Q a w => scopeIn (FF r) 0 P c Q m l a w)
/-- a region that draws its order -/
noncomputable def RegionSound (P : Program) (C : Cfg) (S : Self) : Prop := ∀ (N : Nat) (ops : Array Oper) (id : Nat) (fr : Tr V) (h : Heap) (fr' : Tr V) (h' : Heap), flowB N ops.toList ops.size = true → evalFlow S C ops ops.toList 0 [] fr h = some (fr', h') →
  Mono h h' ∧ ∀ s0 U r D ρ a w X Q, h'.next ≤ U → FrE C D ρ fr a → Rel s0 U D ρ h w → a.tmps.size = N → a.defers = X →
    (∀ D' ρ' a' w', FrE C D' ρ' fr' a' → Rel s0 U D' ρ' h' w' → Nxt D ρ h w D' ρ' h' w' → a'.tmps.size = N → a'.defers = X → Q .normal a' w') → (Code.region id ops true).wpIn (FF r) 0 P Q a w
/-- a block of one's own turned, and let go -/
theorem Rel.gone (r : Rel s0 U D ρ h w) {i : Nat} {b : Blk} {o' : Obj} {w' : World} (hi : D i) (hb : h.get i = some b) (ho : b.own = true) (t : Turned (ρ.b i) o' w w') : Rel s0 U D ρ (h.kill i) w' ∧ Nxt D ρ h w D ρ (h.kill i) w' := by
  have get : ∀ j c, (h.kill i).get j = some c → j ≠ i ∧ h.get j = some c := fun j c hc => by
    rw [Heap.get_kill] at hc
    split at hc
    · cases hc
    · rename_i e; exact ⟨e, hc⟩
  have hil := r.blt hb
  have hw := wmin_le h.wmin i
  have hs := r.own i b hi hb ho
  have ne : ∀ j c, D j → j ≠ i → h.get j = some c → ρ.b j ≠ ρ.b i := fun j c hj hji hc e => by
    by_cases hoc : c.own = true
    · exact r.inj j i c b hj hi hc hb hoc ho hji e
    · exact r.old j i c b hj hi hc hb (by simpa using hoc) ho e
  refine ⟨⟨r.lt, fun j hj => ?_, fun j c hj hc => ?_, fun j c hj hc => r.clo j c hj (get j c hc).2, fun j k c d hj hk hc hd => r.inj j k c d hj hk (get _ _ hc).2 (get _ _ hd).2, fun j c hj hc => r.own j c hj (get _ _ hc).2, fun j k c d hj hk hc hd => r.old j k c d hj hk (get _ _ hc).2 (get _ _ hd).2, ?_⟩, ?_⟩
  · have hj : h.next ≤ j := hj
    rw [Heap.get_kill]
    split
    · rfl
    · exact r.wf j hj
  · obtain ⟨h1, h2⟩ := get j c hc
    obtain ⟨o, q1, q2⟩ := r.has j c hj h2
    exact ⟨o, by rw [t.other _ (ne j c hj h1 h2)]; exact q1, q2⟩
  · exact ⟨t.os.trans r.base.os, t.tape.trans r.base.tape, t.output.trans r.base.output, by rw [t.size]; exact r.base.size, fun k hk => (t.other k (by omega)).trans (r.base.block k hk)⟩
  · refine ⟨fun _ h => h, fun _ h => .inl h, fun _ _ => ⟨rfl, rfl, rfl, rfl⟩, fun c _ hno => t.other c fun e => hno i hi hw.2 hil e.symm, fun j _ hn hl => ?_, Nat.le_of_eq t.size.symm, hw.1, Nat.le_refl _, t.os, t.tape, t.output⟩
    have hl : j < h.next := hl
    omega
theorem StR.next {N : Nat} {r : Option Nat} {tl : List Deferred} {st : St} {D' : Nat → Prop} {ρ' : Env} {h' : Heap} {w' : World} (g : StR C s0 U N r tl D ρ st a w) (hU : h'.next ≤ U) (n : Nxt D ρ st.h w D' ρ' h' w') (rel : Rel s0 U D' ρ' h' w') : StR C s0 U N r tl D' ρ' ⟨st.fr, h', st.ds, st.rd⟩ a w' := by
  refine ⟨g.fr.next g.rel.lt hU n, rel, g.size, ?_, fun d hd => n.sub d (g.din d hd), g.rd⟩
  rw [g.defs]
  refine congrArg (· ++ tl) (List.map_congr_left fun d hd => ?_)
  have := n.agree g.rel.lt hU d 0 ⟨g.din d hd, Nat.zero_le _⟩
  simp [mkD, this.1]
/-- behind a range over a function -/
theorem endRange_mono {st : St} {Dd l : Nat} {x : Exit} {st' : St} (he : endRange st Dd l h = some (x, st')) : Mono h st'.h := by
  unfold endRange at he
  split at he <;> first | (cases he; done) | (cases he; exact mono_kill _ _)
/-- **control** -/
theorem code_sound (hC : CfgOK P C) (hS : SelfOK P C S) {F : Flow} (hF : FlowOK P C F) (hR : RegionSound P C S) {N : Nat} : ∀ c : Code, codeOK N c = true → CodeSound P C N (evalCode S F C c) (fun r Q a w => c.wpIn (FF r) 0 P Q a w)
  | .skip, _ => fun st x st' he => by
    simp only [evalCode, Option.some.injEq, Prod.mk.injEq] at he
    obtain ⟨rfl, rfl⟩ := he
    exact ⟨Mono.refl _, fun s0 U r tl D ρ a w Q hU g k => wpIn_skip (k D ρ a w g (Nxt.refl _ _ _ _))⟩
  | .label _, _ => fun st x st' he => by
    simp only [evalCode, Option.some.injEq, Prod.mk.injEq] at he
    obtain ⟨rfl, rfl⟩ := he
    exact ⟨Mono.refl _, fun s0 U r tl D ρ a w Q hU g k => wpIn_label (k D ρ a w g (Nxt.refl _ _ _ _))⟩
  | .exit id, _ => fun st x st' he => by
    simp only [evalCode, Option.some.injEq, Prod.mk.injEq] at he
    obtain ⟨rfl, rfl⟩ := he
    exact ⟨Mono.refl _, fun s0 U r tl D ρ a w Q hU g k => wpIn_exit (k D ρ a w g (Nxt.refl _ _ _ _))⟩
  | .goto id, _ => fun st x st' he => by
    simp only [evalCode, Option.some.injEq, Prod.mk.injEq] at he
    obtain ⟨rfl, rfl⟩ := he
    exact ⟨Mono.refl _, fun s0 U r tl D ρ a w Q hU g k => wpIn_goto (k D ρ a w g (Nxt.refl _ _ _ _))⟩
  | .ret, _ => fun st x st' he => by
    simp only [evalCode, Option.some.injEq, Prod.mk.injEq] at he
    obtain ⟨rfl, rfl⟩ := he
    exact ⟨Mono.refl _, fun s0 U r tl D ρ a w Q hU g k => wpIn_ret (k D ρ a w g (Nxt.refl _ _ _ _))⟩
  | .refuse _, _ => fun st x st' he => by simp [evalCode] at he
  | .seq c d, hok => fun st x st' he => by
    simp only [codeOK, Bool.and_eq_true] at hok
    have s1 := code_sound hC hS hF hR c hok.1
    have s2 := code_sound hC hS hF hR d hok.2
    simp only [evalCode] at he
    split at he
    · rename_i st1 h1
      obtain ⟨m1, k1⟩ := s1 _ _ _ h1
      obtain ⟨m2, k2⟩ := s2 _ _ _ he
      refine ⟨m1.trans m2, fun s0 U r tl D ρ a w Q hU g k => wpIn_seq (k1 s0 U r tl D ρ a w _ (Nat.le_trans m2.nxt hU) g fun D1 ρ1 a1 w1 g1 n1 => ?_)⟩
      exact k2 s0 U r tl D1 ρ1 a1 w1 Q hU g1 fun D2 ρ2 a2 w2 g2 n2 => k D2 ρ2 a2 w2 g2 (n1.trans g.rel.lt hU n2)
    · rename_i hne
      obtain ⟨m1, k1⟩ := s1 _ _ _ he
      refine ⟨m1, fun s0 U r tl D ρ a w Q hU g k => wpIn_seq (k1 s0 U r tl D ρ a w _ hU g fun D1 ρ1 a1 w1 g1 n1 => ?_)⟩
      have hq := k D1 ρ1 a1 w1 g1 n1
      cases x with
      | normal => exact absurd he (hne st')
      | _ => exact hq
  | .cond c x y, hok => fun st e st' he => by
    simp only [codeOK, Bool.and_eq_true] at hok
    simp only [evalCode] at he
    split at he
    · rename_i hc
      obtain ⟨m1, k1⟩ := code_sound hC hS hF hR x hok.1 _ _ _ he
      refine ⟨m1, fun s0 U r tl D ρ a w Q hU g k => wpIn_cond_true ?_ (k1 s0 U r tl D ρ a w Q hU g k)⟩
      have := (g.fr.ev hc).1
      simpa [conc] using this
    · rename_i hc
      obtain ⟨m1, k1⟩ := code_sound hC hS hF hR y hok.2 _ _ _ he
      refine ⟨m1, fun s0 U r tl D ρ a w Q hU g k => wpIn_cond_false ?_ (k1 s0 U r tl D ρ a w Q hU g k)⟩
      have := (g.fr.ev hc).1
      simpa [conc] using this
    · cases he
  | .block id c, hok => fun st x st' he => by
    simp only [codeOK] at hok
    have s1 := code_sound hC hS hF hR c hok
    simp only [evalCode] at he
    split at he
    · rename_i id' st1 h1
      obtain ⟨m1, k1⟩ := s1 _ _ _ h1
      split at he
      · rename_i hid
        rw [Nat.beq_eq] at hid
        cases he
        refine ⟨m1, fun s0 U r tl D ρ a w Q hU g k => wpIn_block (k1 s0 U r tl D ρ a w _ hU g fun D1 ρ1 a1 w1 g1 n1 => ?_)⟩
        simp only [Exit.inBlock, hid, if_true]
        exact k D1 ρ1 a1 w1 g1 n1
      · rename_i hid
        have hid : ¬ id' = id := fun e => by rw [beq_t e] at hid; cases hid
        cases he
        refine ⟨m1, fun s0 U r tl D ρ a w Q hU g k => wpIn_block (k1 s0 U r tl D ρ a w _ hU g fun D1 ρ1 a1 w1 g1 n1 => ?_)⟩
        simp only [Exit.inBlock, hid, if_false]
        exact k D1 ρ1 a1 w1 g1 n1
    · rename_i hne
      obtain ⟨m1, k1⟩ := s1 _ _ _ he
      refine ⟨m1, fun s0 U r tl D ρ a w Q hU g k => wpIn_block (k1 s0 U r tl D ρ a w _ hU g fun D1 ρ1 a1 w1 g1 n1 => ?_)⟩
      have hq := k D1 ρ1 a1 w1 g1 n1
      cases x with
      | exit id' => exact absurd he (hne id' st')
      | _ => exact hq
  | .loop c, hok => fun st x st' he => by
    simp only [codeOK] at hok
    simp only [evalCode] at he
    obtain ⟨m1, k1⟩ := hF.loop N c hok _ _ _ he
    exact ⟨m1, fun s0 U r tl D ρ a w Q hU g k => wpIn_loop_rounds _ (k1 s0 U r tl D ρ a w Q hU g k)⟩
  | .scope c, hok => fun st x st' he => by
    simp only [codeOK] at hok
    have s1 := code_sound hC hS hF hR c hok
    simp only [evalCode] at he
    split at he
    · rename_i l st1 h1
      obtain ⟨m1, k1⟩ := s1 _ _ _ h1
      obtain ⟨m2, k2⟩ := hF.scope N c l hok _ _ _ he
      refine ⟨m1.trans m2, fun s0 U r tl D ρ a w Q hU g k => wpIn_scope_in hF.m (k1 s0 U r tl D ρ a w _ (Nat.le_trans m2.nxt hU) g fun D1 ρ1 a1 w1 g1 n1 => ?_)⟩
      exact k2 s0 U r tl D1 ρ1 a1 w1 Q hU g1 fun D2 ρ2 a2 w2 g2 n2 => k D2 ρ2 a2 w2 g2 (n1.trans g.rel.lt hU n2)
    · rename_i hne
      obtain ⟨m1, k1⟩ := s1 _ _ _ he
      refine ⟨m1, fun s0 U r tl D ρ a w Q hU g k => wpIn_scope_in hF.m (k1 s0 U r tl D ρ a w _ hU g fun D1 ρ1 a1 w1 g1 n1 => ?_)⟩
      have hq := k D1 ρ1 a1 w1 g1 n1
      cases x with
      | goto l => exact absurd he (hne l st')
      | _ => exact hq
  | .region id ops dr, hok => fun st x st' he => by
    simp only [codeOK, Bool.and_eq_true] at hok
    cases dr with
    | false =>
      simp only [evalCode] at he
      split at he
      · rename_i fr h he1
        cases he
        have hall : ∀ o ∈ ops.toList, noDefer o = true ∧ dstOk N o.dst = true := fun o ho => by
          have := List.all_eq_true.1 hok.1 o ho
          simpa using this
        have m1 := (evalOps_sound (s0 := default) (U := 0) (X := []) (r := none) (Q := fun _ _ _ => True) hC hS ops.toList _ _ _ _ he1 hall).1
        refine ⟨m1, fun s0 U r tl D ρ a w Q hU g k => ?_⟩
        have k1 := (evalOps_sound (s0 := s0) (U := U) (X := a.defers) (r := r) (Q := Q) hC hS ops.toList _ _ _ _ he1 hall).2 D ρ a w hU g.fr g.rel g.size rfl fun D' ρ' a' w' q1 q2 q3 q4 q5 => by
          refine k D' ρ' a' w' ?_ q3
          have := g.next hU q3 q2
          exact ⟨q1, q2, q4, by rw [q5]; exact this.defs, this.din, g.rd⟩
        have e : ops = ops.toList.toArray := by simp
        rw [e]
        exact wpIn_region_lit (by rw [← e]; exact k1)
      · cases he
    | true =>
      simp only [evalCode] at he
      split at he
      · rename_i fr h he1
        cases he
        have hb : flowB N ops.toList ops.size = true := by simpa using hok.2
        obtain ⟨m1, k1⟩ := hR N ops id _ _ _ _ hb he1
        refine ⟨m1, fun s0 U r tl D ρ a w Q hU g k => ?_⟩
        refine k1 s0 U r D ρ a w a.defers Q hU g.fr g.rel g.size rfl fun D' ρ' a' w' q1 q2 q3 q4 q5 => ?_
        refine k D' ρ' a' w' ?_ q3
        have := g.next hU q3 q2
        exact ⟨q1, q2, q4, by rw [q5]; exact this.defs, this.din, g.rd⟩
      · cases he
  | .rangeFunc gop ps asg bd, hok => fun st x st' he => by
    simp only [codeOK, Bool.and_eq_true] at hok
    simp only [evalCode] at he
    split at he
    · rename_i gf cs hrd hg
      split at he
      · rename_i u h3 hcall
        have m1 := hS.fnMono _ _ _ _ _ hcall
        have m2 := endRange_mono he
        refine ⟨((mono_push _ _).trans (mono_push _ _)).trans (m1.trans m2), fun s0 U r tl D ρ a w Q hU gg k => ?_⟩
        have hrn : r = none := by
          have := gg.rd
          rw [hrd] at this
          cases r with
          | none => rfl
          | some l => cases this
        subst hrn
        obtain ⟨hev, hcin⟩ := gg.fr.ev hg
        have hU3 : h3.next ≤ U := Nat.le_trans m2.nxt hU
        have hU2 : st.h.next + 1 + 1 ≤ U := Nat.le_trans m1.nxt hU3
        refine wpIn_rangeFunc (F := FF none) (n := 0) ?_
        intro fn _
        -- the two blocks
        obtain ⟨r1, n1⟩ := gg.rel.push (b := .dfr false) (o := .deferred (some [])) (pre := 0) (cap := 0) (by omega) (below_alloc w _) (heap_alloc_new w _) rfl trivial rfl
        have hag1 := n1.agree gg.rel.lt (U := U) (by show st.h.next + 1 ≤ U; omega)
        have hdd1 := n1.dd gg.rel.lt (U := U) (by show st.h.next + 1 ≤ U; omega)
        have hb1 : (ρ.add st.h.next w.heap.size 0 0).b st.h.next = w.heap.size := by simp [Env.add]
        obtain ⟨W1, hW1⟩ : ∃ W1, (w.alloc (.deferred (some []))).alloc (.loop { state := .ready, pending := none, fn, tmps := a.tmps, params := ps, assign := asg, body := bd, defers := w.heap.size }) = W1 := ⟨_, rfl⟩
        have hsz1 : (w.alloc (.deferred (some []))).heap.size = w.heap.size + 1 := by simp
        have hne : st.h.next + 1 ≠ st.h.next := by omega
        obtain ⟨r2, n2⟩ := r1.push (b := .loop .ready none st.fr ps asg bd st.h.next) (o := .loop { state := .ready, pending := none, fn, tmps := a.tmps, params := ps, assign := asg, body := bd, defers := w.heap.size }) (pre := 0) (cap := 0) (by exact hU2) (below_alloc _ _) (heap_alloc_new _ _) rfl
          ⟨fun t v hv => (gg.fr.in_ t v hv).mono hdd1, .inr rfl, Nat.zero_le _⟩
          ⟨fn, a.tmps, by simp [Env.add, Heap.push], fun t v hv => by
            have hx := gg.fr.at_ t v hv
            have hi := gg.fr.in_ t v hv
            rw [hx]
            congr 1
            rw [conc_agree (Env.add_agree (r1.next_new (by exact hU2))) (hi.mono hdd1), conc_agree hag1 hi], by simp [Env.add], fun p hp => by
            have := List.all_eq_true.1 hok.1.1 p hp
            rw [gg.size]; simpa using this, by rw [gg.size]; exact hok.1.2, by rw [gg.size]; exact hok.2⟩
        rw [hsz1] at r2 n2
        rw [hW1] at r2 n2
        have n12 := n1.trans gg.rel.lt (by exact hU2) n2
        have hag2 := n12.agree gg.rel.lt (U := U) (by exact hU2)
        have hdd2 := n12.dd gg.rel.lt (U := U) (by exact hU2)
        refine ⟨w.heap.size + 1, [{ target := .collected w.heap.size, args := #[] }], W1, { target := .fn (.func gf) (concL ρ cs).toArray, args := #[.func (.yield (w.heap.size + 1)) #[] #[]] }, W1, gf,
          #[.func (.yield (w.heap.size + 1)) #[] #[]] ++ (concL ρ cs).toArray, W1, ?_, ?_, ?_, ?_, (by simp [FF_depth]), ?_⟩
        · rw [← hW1]; exact run_enterLoop_outer _ _ _ _ _
        · simp only [resolve, hev, conc]
          simp [go_sem, concL]
        · intro f' _; exact FF_fn none f'
        · simp [invoke, go_sem, hS.fnEnter _ _ _ _ _ hcall]
        · refine callsIn_FF (callsIn_wide.2 ?_)
          have hargs : (concL ((ρ.add st.h.next w.heap.size 0 0).add (st.h.next + 1) (w.heap.size + 1) 0 0) ([.yield (st.h.next + 1)] ++ cs)).toArray = #[.func (.yield (w.heap.size + 1)) #[] #[]] ++ (concL ρ cs).toArray := by
            have := concL_agree hag2 (l := cs) hcin.2
            simp only [List.singleton_append, concL]
            have e : concL ((ρ.add st.h.next w.heap.size 0 0).add (st.h.next + 1) (w.heap.size + 1) 0 0) cs = concL ρ cs := this
            rw [e]
            apply Array.ext'
            simp [conc, Env.add]
          have hgl := GlobOK.next gg.fr.gl gg.rel.lt (by exact hU2) n12
          have key := hS.fn _ _ _ _ _ hcall s0 U _ _ W1 hU3 hgl ⟨⟨.inr rfl, Nat.zero_le _⟩, InDL.mono hdd2 hcin.2⟩ r2
          have hargs' : (concL ((ρ.add st.h.next w.heap.size 0 0).add (st.h.push (.dfr false)).next (w.heap.size + 1) 0 0) ([.yield (st.h.next + 1)] ++ cs)).toArray = #[.func (.yield (w.heap.size + 1)) #[] #[]] ++ (concL ρ cs).toArray := hargs
          rw [hargs'] at key
          refine key.mono ?_
          rintro e w3 ⟨D3, ρ3, rfl, r3, n3, _⟩
          have n13 := n12.trans gg.rel.lt hU3 n3
          have hlD : D3 (st.h.next + 1) := n3.sub _ (.inr rfl)
          have hbl : ρ3.b (st.h.next + 1) = w.heap.size + 1 := by
            have := (n3.env (st.h.next + 1) (.inl (by show st.h.next + 1 < st.h.next + 1 + 1; omega))).1
            rw [this]; simp [Env.add, Heap.push]
          have hbd : ρ3.b st.h.next = w.heap.size := by
            have := (n3.env st.h.next (.inl (by show st.h.next < st.h.next + 1 + 1; omega))).1
            rw [this]; simp [Env.add, Heap.push]
          have hdD : D3 st.h.next := n3.sub _ (.inl (.inr rfl))
          -- its end
          have fin : ∀ (stt : LoopState) (pe : Option Code) fr' ps' as' bd' d', stt ≠ .busy → h3.get (st.h.next + 1) = some (.loop stt pe fr' ps' as' bd' d') →
              ∃ w4, (Instr.endLoop (w.heap.size + 1)).run P w3 = .ok pe w4 ∧ (∀ stx : Exit, st' = ⟨st.fr, h3.kill (st.h.next + 1), st.h.next :: st.ds, st.rd⟩ → x = stx → Q stx { a with defers := [{ target := .collected w.heap.size, args := #[] }] ++ a.defers } w4) := fun stt pe fr' ps' as' bd' d' hb hget => by
            obtain ⟨o, q1, q2⟩ := r3.has _ _ hlD hget
            obtain ⟨fn', tmps', rfl, _, _, _, _, _⟩ := q2
            rw [hbl] at q1
            refine ⟨_, run_endLoop q1 hb, fun stx hst hx => ?_⟩
            subst hst
            subst hx
            have ht := turned_putObj (w := w3) (b := w.heap.size + 1) (.loop { state := .exhausted, pending := pe, fn := fn', tmps := tmps', params := ps', assign := as', body := bd', defers := ρ3.b d' }) (Array.getElem?_eq_some_iff.1 q1).1
            rw [← hbl] at ht
            obtain ⟨r4, n4⟩ := r3.gone hlD hget rfl ht
            rw [hbl] at r4 n4
            have n14 := n13.trans gg.rel.lt (by exact hU3) n4
            have g4 := gg.next (by exact hU3) n14 r4
            refine k D3 ρ3 _ _ ⟨⟨g4.fr.at_, g4.fr.in_, g4.fr.gl⟩, r4, gg.size, ?_, fun d hd => ?_, gg.rd⟩ n14
            · simp only [List.map_cons, List.singleton_append]
              rw [g4.defs]
              simp [mkD, hbd]
            · rcases List.mem_cons.1 hd with rfl | hd
              · exact hdD
              · exact n13.sub d (gg.din d hd)
          unfold endRange at he
          split at he
          · rename_i hget
            cases he
            obtain ⟨w4, q1, q2⟩ := fin _ _ _ _ _ _ _ (by simp) hget
            exact ⟨none, w4, q1, q2 _ rfl rfl⟩
          · rename_i hget
            cases he
            obtain ⟨w4, q1, q2⟩ := fin _ _ _ _ _ _ _ (by simp) hget
            exact ⟨some .ret, w4, q1, wpIn_ret (q2 _ rfl rfl)⟩
          · rename_i hget
            cases he
            obtain ⟨w4, q1, q2⟩ := fin _ _ _ _ _ _ _ (by simp) hget
            exact ⟨_, w4, q1, wpIn_exit (q2 _ rfl rfl)⟩
          · rename_i hget
            cases he
            obtain ⟨w4, q1, q2⟩ := fin _ _ _ _ _ _ _ (by simp) hget
            exact ⟨_, w4, q1, wpIn_goto (q2 _ rfl rfl)⟩
          · cases he
      · cases he
    · cases he
end
end Go.Proofs.YtmlemnbhjbaedaaGreatDoor

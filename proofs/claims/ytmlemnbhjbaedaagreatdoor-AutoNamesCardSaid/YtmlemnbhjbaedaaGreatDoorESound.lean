/-
  What the plain machine's run tells of the model: one operation, a region in its order, control. Nothing here speaks of a program.
-/
import Derived.Test.YtmlemnbhjbaedaaGreatDoorERun
import Derived.LoopNIn
namespace Go.Proofs.YtmlemnbhjbaedaaGreatDoor
open Go.RowKit
set_option linter.unusedSimpArgs false
set_option linter.unusedVariables false

/-! ### maps from numbers, all of their entries -/
inductive Tr.All {α : Type} (p : Nat → α → Prop) : (Nat → Nat) → Tr α → Prop
  | nil {f : Nat → Nat} : Tr.All p f .nil
  | skip {f : Nat → Nat} {l r : Tr α} (hl : Tr.All p (fun k => f (2 * k + 1)) l) (hr : Tr.All p (fun k => f (2 * k + 2)) r) : Tr.All p f (.node none l r)
  | here {f : Nat → Nat} {x : α} {l r : Tr α} (hx : p (f 0) x) (hl : Tr.All p (fun k => f (2 * k + 1)) l) (hr : Tr.All p (fun k => f (2 * k + 2)) r) : Tr.All p f (.node (some x) l r)
theorem Tr.All.at_ {α : Type} {p : Nat → α → Prop} : ∀ {t : Tr α} {f : Nat → Nat} {k : Nat} {x : α}, Tr.All p f t → t.get k = some x → p (f k) x
  | .nil, f, k, x, _, hk => by simp [Tr.get_nil] at hk
  | .node v l r, f, k, x, h, hk => by
    rw [Tr.get_node] at hk
    by_cases h0 : k = 0
    · rw [if_pos h0] at hk
      subst hk; subst h0
      cases h with
      | here hx _ _ => exact hx
    · rw [if_neg h0] at hk
      have hlr : Tr.All p (fun k => f (2 * k + 1)) l ∧ Tr.All p (fun k => f (2 * k + 2)) r := by
        cases h with
        | skip hl hr => exact ⟨hl, hr⟩
        | here _ hl hr => exact ⟨hl, hr⟩
      by_cases h1 : k % 2 = 1
      · rw [if_pos h1] at hk
        have := hlr.1.at_ hk
        rwa [show 2 * (k / 2) + 1 = k by omega] at this
      · rw [if_neg h1] at hk
        have := hlr.2.at_ hk
        rwa [show 2 * (k / 2 - 1) + 2 = k by omega] at this

/-! ### what only grows -/
structure Mono (h h' : Heap) : Prop where
  nxt : h.next ≤ h'.next
  wf : (∀ i, h.next ≤ i → h.get i = none) → ∀ i, h'.next ≤ i → h'.get i = none
  wmin : h'.wmin ≤ h.wmin
  keep : ∀ i, i < h.next → i < h'.wmin → h'.get i = h.get i
theorem Mono.refl (h : Heap) : Mono h h := ⟨Nat.le_refl _, fun h => h, Nat.le_refl _, fun _ _ _ => rfl⟩
theorem Mono.trans {a b c : Heap} (x : Mono a b) (y : Mono b c) : Mono a c :=
  ⟨Nat.le_trans x.nxt y.nxt, fun h => y.wf (x.wf h), Nat.le_trans y.wmin x.wmin, fun i h1 h2 => (y.keep i (Nat.lt_of_lt_of_le h1 x.nxt) h2).trans (x.keep i h1 (Nat.lt_of_lt_of_le h2 y.wmin))⟩
theorem mono_push (h : Heap) (b : Blk) : Mono h (h.push b) := ⟨Nat.le_succ _, fun hw i hi => by
    have hi : h.next + 1 ≤ i := hi
    rw [Heap.get_push, if_neg (by omega)]; exact hw i (by omega), Nat.le_refl _, fun i h1 _ => by rw [Heap.get_push, if_neg (by omega)]⟩
theorem mono_put {h : Heap} {i : Nat} {b c : Blk} (hb : h.get i = some c) : Mono h (h.put i b) := by
  have hw := wmin_le h.wmin i
  refine ⟨Nat.le_refl _, fun hwf j hj => ?_, hw.1, fun j _ h2 => ?_⟩
  · have hj : h.next ≤ j := hj
    have : j ≠ i := fun e => by have := hwf j hj; rw [e, hb] at this; cases this
    rw [Heap.get_put, if_neg this]; exact hwf j hj
  · have h2 : j < wmn h.wmin i := h2
    rw [Heap.get_put, if_neg (by omega)]
theorem mono_kill (h : Heap) (i : Nat) : Mono h (h.kill i) := by
  have hw := wmin_le h.wmin i
  refine ⟨Nat.le_refl _, fun hwf j hj => ?_, hw.1, fun j _ h2 => ?_⟩
  · have hj : h.next ≤ j := hj
    rw [Heap.get_kill]; split
    · rfl
    · exact hwf j hj
  · have h2 : j < wmn h.wmin i := h2
    rw [Heap.get_kill, if_neg (by omega)]
theorem mono_app {C : Cfg} {h h' : Heap} {ts tx : TypeId} {s x v : V} (ha : appendV C h ts tx s x = some (v, h')) : Mono h h' := by
  unfold appendV at ha
  repeat' (split at ha)
  all_goals first | (cases ha; done) | skip
  all_goals first
    | (cases ha; exact Mono.refl _)
    | (cases ha; exact mono_push _ _)
    | (cases ha; rename_i hg _ _ _; exact mono_put hg)
    | (cases ha; rename_i hg _ _ _ _; exact mono_put hg)
    | (cases ha; rename_i hg _ _ _ _ _; exact mono_put hg)
    | (cases ha; exact (mono_push _ _).trans (mono_kill _ _))
theorem mono_copy {C : Cfg} {h h' : Heap} {ts tx : TypeId} {s x v : V} (ha : copyV C h ts tx s x = some (v, h')) : Mono h h' := by
  unfold copyV at ha
  repeat' (split at ha)
  all_goals first | (cases ha; done) | skip
  all_goals first
    | (cases ha; exact Mono.refl _)
    | (cases ha; rename_i hg _ _ _; exact mono_put hg)
    | (cases ha; rename_i hg _ _ _ _; exact mono_put hg)
    | (cases ha; rename_i hg _ _ _ _ _; exact mono_put hg)
theorem mono_clear {C : Cfg} {fr : Tr V} {h h' : Heap} {args : Array Operand} {ats : Array TypeId} {v : V} (hh : ohClearA C fr h args ats = some (v, h')) : Mono h h' := by
  unfold ohClearA at hh
  split at hh
  · rename_i r hr
    cases hh
    unfold ohClear at hr
    repeat' (split at hr)
    all_goals first | (cases hr; done) | (cases hr; exact Mono.refl _) | (cases hr; exact mono_put (by assumption))
  · unfold ohClearS at hh
    repeat' (split at hh)
    all_goals first | (cases hh; done) | (cases hh; exact Mono.refl _) | (cases hh; exact mono_put (by assumption))
theorem mono_opH {C : Cfg} {fr : Tr V} {h h' : Heap} {o : Op} {v : V} (hh : opH C fr h o = some (v, h')) : Mono h h' := by
  cases o <;> try (simp [opH, ohConvert, ohLoad, ohStore, ohAlloc, ohBox, ohBuildslice, ohMakeslice, ohAppend, ohCopy, ohSlice, ohMakemap, ohLookup, ohMapupdate, ohMapentry, ohEntrystore, ohClearA, ohClear, ohClearS, ohLenM] at hh; done)
  case convert s t x =>
    simp only [opH, ohConvert, ohLoad, ohStore, ohAlloc, ohBox, ohBuildslice, ohMakeslice, ohAppend, ohCopy, ohSlice, ohMakemap, ohLookup, ohMapupdate, ohMapentry, ohEntrystore, ohClearA, ohClear, ohClearS, ohLenM] at hh
    repeat' (split at hh)
    all_goals first | (cases hh; done) | (cases hh; exact Mono.refl _) | (cases hh; exact mono_push _ _) | (cases hh; exact mono_put (by assumption))
  case load t x =>
    simp only [opH, ohConvert, ohLoad, ohStore, ohAlloc, ohBox, ohBuildslice, ohMakeslice, ohAppend, ohCopy, ohSlice, ohMakemap, ohLookup, ohMapupdate, ohMapentry, ohEntrystore, ohClearA, ohClear, ohClearS, ohLenM] at hh
    repeat' (split at hh)
    all_goals first | (cases hh; done) | (cases hh; exact Mono.refl _)
  case store t x y =>
    simp only [opH, ohConvert, ohLoad, ohStore, ohAlloc, ohBox, ohBuildslice, ohMakeslice, ohAppend, ohCopy, ohSlice, ohMakemap, ohLookup, ohMapupdate, ohMapentry, ohEntrystore, ohClearA, ohClear, ohClearS, ohLenM] at hh
    repeat' (split at hh)
    all_goals first | (cases hh; done) | (cases hh; rename_i hg _ _ _; exact mono_put hg) | (cases hh; rename_i hg _ _ _ _; exact mono_put hg)
  case alloc t =>
    simp only [opH, ohConvert, ohLoad, ohStore, ohAlloc, ohBox, ohBuildslice, ohMakeslice, ohAppend, ohCopy, ohSlice, ohMakemap, ohLookup, ohMapupdate, ohMapentry, ohEntrystore, ohClearA, ohClear, ohClearS, ohLenM] at hh
    repeat' (split at hh)
    all_goals first | (cases hh; done) | (cases hh; exact mono_push _ _)
  case box t x =>
    simp only [opH, ohConvert, ohLoad, ohStore, ohAlloc, ohBox, ohBuildslice, ohMakeslice, ohAppend, ohCopy, ohSlice, ohMakemap, ohLookup, ohMapupdate, ohMapentry, ohEntrystore, ohClearA, ohClear, ohClearS, ohLenM] at hh
    repeat' (split at hh)
    all_goals first | (cases hh; done) | (cases hh; exact mono_push _ _)
  case buildSlice t n ps =>
    simp only [opH, ohConvert, ohLoad, ohStore, ohAlloc, ohBox, ohBuildslice, ohMakeslice, ohAppend, ohCopy, ohSlice, ohMakemap, ohLookup, ohMapupdate, ohMapentry, ohEntrystore, ohClearA, ohClear, ohClearS, ohLenM] at hh
    repeat' (split at hh)
    all_goals first | (cases hh; done) | (cases hh; exact mono_push _ _)
  case makeSlice t x y =>
    simp only [opH, ohConvert, ohLoad, ohStore, ohAlloc, ohBox, ohBuildslice, ohMakeslice, ohAppend, ohCopy, ohSlice, ohMakemap, ohLookup, ohMapupdate, ohMapentry, ohEntrystore, ohClearA, ohClear, ohClearS, ohLenM] at hh
    repeat' (split at hh)
    all_goals first | (cases hh; done) | (cases hh; exact mono_push _ _)
  case slice t x lo hi mx =>
    simp only [opH, ohConvert, ohLoad, ohStore, ohAlloc, ohBox, ohBuildslice, ohMakeslice, ohAppend, ohCopy, ohSlice, ohMakemap, ohLookup, ohMapupdate, ohMapentry, ohEntrystore, ohClearA, ohClear, ohClearS, ohLenM] at hh
    repeat' (split at hh)
    all_goals first | (cases hh; done) | (cases hh; exact Mono.refl _)
  case makeMap t x =>
    simp only [opH, ohConvert, ohLoad, ohStore, ohAlloc, ohBox, ohBuildslice, ohMakeslice, ohAppend, ohCopy, ohSlice, ohMakemap, ohLookup, ohMapupdate, ohMapentry, ohEntrystore, ohClearA, ohClear, ohClearS, ohLenM] at hh
    repeat' (split at hh)
    all_goals first | (cases hh; done) | (cases hh; exact Mono.refl _) | (cases hh; exact mono_push _ _) | (cases hh; exact mono_put (by assumption))
  case lookup t x y ok =>
    simp only [opH, ohConvert, ohLoad, ohStore, ohAlloc, ohBox, ohBuildslice, ohMakeslice, ohAppend, ohCopy, ohSlice, ohMakemap, ohLookup, ohMapupdate, ohMapentry, ohEntrystore, ohClearA, ohClear, ohClearS, ohLenM] at hh
    repeat' (split at hh)
    all_goals first | (cases hh; done) | (cases hh; exact Mono.refl _) | (cases hh; exact mono_push _ _) | (cases hh; exact mono_put (by assumption))
  case mapUpdate t x y z =>
    simp only [opH, ohConvert, ohLoad, ohStore, ohAlloc, ohBox, ohBuildslice, ohMakeslice, ohAppend, ohCopy, ohSlice, ohMakemap, ohLookup, ohMapupdate, ohMapentry, ohEntrystore, ohClearA, ohClear, ohClearS, ohLenM] at hh
    repeat' (split at hh)
    all_goals first | (cases hh; done) | (cases hh; exact Mono.refl _) | (cases hh; exact mono_push _ _) | (cases hh; exact mono_put (by assumption))
  case insert t x y z =>
    simp only [opH, ohConvert, ohLoad, ohStore, ohAlloc, ohBox, ohBuildslice, ohMakeslice, ohAppend, ohCopy, ohSlice, ohMakemap, ohLookup, ohMapupdate, ohMapentry, ohEntrystore, ohClearA, ohClear, ohClearS, ohLenM] at hh
    repeat' (split at hh)
    all_goals first | (cases hh; done) | (cases hh; exact Mono.refl _) | (cases hh; exact mono_push _ _) | (cases hh; exact mono_put (by assumption))
  case mapEntry t x y =>
    simp only [opH, ohConvert, ohLoad, ohStore, ohAlloc, ohBox, ohBuildslice, ohMakeslice, ohAppend, ohCopy, ohSlice, ohMakemap, ohLookup, ohMapupdate, ohMapentry, ohEntrystore, ohClearA, ohClear, ohClearS, ohLenM] at hh
    repeat' (split at hh)
    all_goals first | (cases hh; done) | (cases hh; exact Mono.refl _) | (cases hh; exact mono_push _ _) | (cases hh; exact mono_put (by assumption))
  case entryStore t x y z =>
    simp only [opH, ohConvert, ohLoad, ohStore, ohAlloc, ohBox, ohBuildslice, ohMakeslice, ohAppend, ohCopy, ohSlice, ohMakemap, ohLookup, ohMapupdate, ohMapentry, ohEntrystore, ohClearA, ohClear, ohClearS, ohLenM] at hh
    repeat' (split at hh)
    all_goals first | (cases hh; done) | (cases hh; exact Mono.refl _) | (cases hh; exact mono_push _ _) | (cases hh; exact mono_put (by assumption))
  case call c =>
    obtain ⟨callee, args, ats⟩ := c
    cases callee <;> try (simp [opH, ohConvert, ohLoad, ohStore, ohAlloc, ohBox, ohBuildslice, ohMakeslice, ohAppend, ohCopy, ohSlice, ohMakemap, ohLookup, ohMapupdate, ohMapentry, ohEntrystore, ohClearA, ohClear, ohClearS, ohLenM] at hh; done)
    rename_i b
    cases b <;> try (simp [opH, ohConvert, ohLoad, ohStore, ohAlloc, ohBox, ohBuildslice, ohMakeslice, ohAppend, ohCopy, ohSlice, ohMakemap, ohLookup, ohMapupdate, ohMapentry, ohEntrystore, ohClearA, ohClear, ohClearS, ohLenM] at hh; done)
    case append =>
      simp only [opH, ohConvert, ohLoad, ohStore, ohAlloc, ohBox, ohBuildslice, ohMakeslice, ohAppend, ohCopy, ohSlice, ohMakemap, ohLookup, ohMapupdate, ohMapentry, ohEntrystore, ohClearA, ohClear, ohClearS, ohLenM] at hh
      split at hh
      · split at hh
        · exact mono_app hh
        · cases hh
      · cases hh
    case clear => exact mono_clear (show ohClearA C fr h args ats = some (v, h') from hh)
    case len =>
      simp only [opH, ohConvert, ohLoad, ohStore, ohAlloc, ohBox, ohBuildslice, ohMakeslice, ohAppend, ohCopy, ohSlice, ohMakemap, ohLookup, ohMapupdate, ohMapentry, ohEntrystore, ohClearA, ohClear, ohClearS, ohLenM] at hh
      repeat' (split at hh)
      all_goals first | (cases hh; done) | (cases hh; exact Mono.refl _)
    case copy =>
      simp only [opH, ohConvert, ohLoad, ohStore, ohAlloc, ohBox, ohBuildslice, ohMakeslice, ohAppend, ohCopy, ohSlice, ohMakemap, ohLookup, ohMapupdate, ohMapentry, ohEntrystore, ohClearA, ohClear, ohClearS, ohLenM] at hh
      split at hh
      · split at hh
        · exact mono_copy hh
        · cases hh
      · cases hh

/-! ### what a run leans on is right -/
/-- a call, from a state on -/
noncomputable def FnPost (s0 : World) (U : Nat) (D : Nat → Prop) (ρ : Env) (h : Heap) (w : World) (v : V) (h' : Heap) : Ending → World → Prop := fun e w' =>
  ∃ D' ρ', e = .returned (conc ρ' v) ∧ Rel s0 U D' ρ' h' w' ∧ Nxt D ρ h w D' ρ' h' w' ∧ InD (DD D' ρ') v
structure SelfOK (P : Program) (C : Cfg) (S : Self) : Prop where
  fnMono : ∀ f vs h v h', S.fn f vs h = some (v, h') → Mono h h'
  fnEnter : ∀ f vs h v h', S.fn f vs h = some (v, h') → ∀ args w, (callFunc f args).run P w = .ok (.enter f args) w
  fn : ∀ f vs h v h', S.fn f vs h = some (v, h') → ∀ s0 U D ρ w, h'.next ≤ U → GlobOK C (DD D ρ) ρ → InDL (DD D ρ) vs → Rel s0 U D ρ h w → Calls P f (concL ρ vs).toArray w (FnPost s0 U D ρ h w v h')
  yMono : ∀ l vs h v h', S.yield l vs h = some (v, h') → Mono h h'
  yield : ∀ l vs h v h', S.yield l vs h = some (v, h') → ∀ s0 U D ρ w, h'.next ≤ U → GlobOK C (DD D ρ) ρ → D l → InDL (DD D ρ) vs → Rel s0 U D ρ h w → YieldAt Fence.wide 0 P (ρ.l l) (concL ρ vs).toArray w (FnPost s0 U D ρ h w v h')

section
variable {P : Program} {C : Cfg} {S : Self} {s0 : World} {U : Nat} {D : Nat → Prop} {ρ : Env} {fr : Tr V} {a : Act} {w : World} {h : Heap}
theorem callV_mono (hS : SelfOK P C S) {o : Op} {v : V} {h' : Heap} (hc : callV S C fr h o = some (v, h')) : Mono h h' := by
  unfold callV at hc
  split at hc
  · split at hc
    · split at hc
      · split at hc
        · cases hc; exact Mono.refl _
        · cases hc
      · exact hS.fnMono _ _ _ _ _ hc
    · exact hS.yMono _ _ _ _ _ hc
    · cases hc
  · split at hc
    · split at hc
      · split at hc
        · cases hc
        · exact hS.fnMono _ _ _ _ _ hc
      · cases hc
    · cases hc
  · cases hc
theorem opV_mono (hS : SelfOK P C S) {o : Oper} {v : V} {h' : Heap} (ho : opV S C fr h o = some (v, h')) : Mono h h' := by
  unfold opV at ho
  split at ho
  · cases ho; exact Mono.refl _
  · split at ho
    · rename_i r hr
      cases ho
      exact mono_opH hr
    · exact callV_mono hS ho
theorem GlobOK.next {D' : Nat → Prop} {ρ' : Env} {h' : Heap} {w' : World} (g : GlobOK C (DD D ρ) ρ) (hl : ∀ i, D i → i < h.next ∨ U ≤ i) (hU : h'.next ≤ U) (n : Nxt D ρ h w D' ρ' h' w') : GlobOK C (DD D' ρ') ρ' := fun i hi => by
  obtain ⟨h1, h2, h3⟩ := g i hi
  obtain ⟨e1, e2, _⟩ := n.agree hl hU i 0 h1
  exact ⟨n.dd hl hU i 0 h1, e1.trans h2, e2.trans h3⟩
theorem FrE.next {D' : Nat → Prop} {ρ' : Env} {h' : Heap} {w' : World} (g : FrE C D ρ fr a) (hl : ∀ i, D i → i < h.next ∨ U ≤ i) (hU : h'.next ≤ U) (n : Nxt D ρ h w D' ρ' h' w') : FrE C D' ρ' fr a :=
  ⟨fun t v hv => by rw [conc_agree (n.agree hl hU) (g.in_ t v hv)]; exact g.at_ t v hv, fun t v hv => (g.in_ t v hv).mono (n.dd hl hU), GlobOK.next g.gl hl hU n⟩
theorem FrE.put {d : Option Tmp} {v : V} (g : FrE C D ρ fr a) (hd : dstOk a.tmps.size d = true) (hv : InD (DD D ρ) v) : FrE C D ρ (putT fr d v) (a.put d (conc ρ v)) := by
  cases d with
  | none => exact g
  | some t =>
    have ht : t < a.tmps.size := by simpa [dstOk] using hd
    refine ⟨fun u x hx => ?_, fun u x hx => ?_, g.gl⟩
    · simp only [putT, Tr.get_set] at hx
      simp only [Act.put, Array.getElem?_setIfInBounds]
      by_cases e : u = t
      · subst e
        rw [if_pos rfl] at hx; cases hx
        simp [ht]
      · rw [if_neg e] at hx
        rw [if_neg (fun e' => e e'.symm)]
        exact g.at_ u x hx
    · simp only [putT, Tr.get_set] at hx
      by_cases e : u = t
      · rw [if_pos e] at hx; cases hx; exact hv
      · rw [if_neg e] at hx; exact g.in_ u x hx
theorem wantV_spec {ops : Array Oper} {o : Oper} {b : Bool} (g : FrE C D ρ fr a) (hw : wantV ops fr o = some b) : Region.wanted o (yielded ops a.tmps) = b := by
  unfold wantV at hw
  unfold Region.wanted
  cases hg : o.guard with
  | none => simp [hg] at hw; simp [hw]
  | some p =>
    obtain ⟨j, c⟩ := p
    simp only [hg] at hw
    simp only [yielded]
    cases hj : (ops[j]?).bind (·.dst) with
    | none => simp [hj] at hw; simp [hw]
    | some t =>
      simp only [hj] at hw
      simp only [Option.bind_some]
      split at hw
      · rename_i d hd
        cases hw
        have := g.at_ t _ hd
        rw [this]; simp [conc]
      · rename_i x hx hd
        cases hw
        have := g.at_ t _ hd
        rw [this]
        cases x <;> simp [conc, slConc] <;> first | rfl | (exfalso; exact hx _ rfl)
      · cases hw
/-- **an operation**, behind which a state is known -/
theorem opV_sound (hC : CfgOK P C) (hS : SelfOK P C S) {o : Oper} {r : Option Nat} {v : V} {h' : Heap} {K : Act → World → Prop} {Q : Exit → Act → World → Prop} (hn : noDefer o = true) (ho : opV S C fr h o = some (v, h')) (hU : h'.next ≤ U) (g : FrE C D ρ fr a) (rel : Rel s0 U D ρ h w)
    (k : ∀ D' ρ' w', Rel s0 U D' ρ' h' w' → Nxt D ρ h w D' ρ' h' w' → InD (DD D' ρ') v → K (a.put o.dst (conc ρ' v)) w') : o.wpIn (FF r) 0 P a w K Q := by
  unfold opV at ho
  split at ho
  · rename_i u hu
    cases ho
    obtain ⟨h1, h2⟩ := pure_sound hC g hu w
    exact op1_wpIn hn (.inl h1) (k D ρ w rel (Nxt.refl _ _ _ _) h2)
  · split at ho
    · rename_i r' hr
      cases ho
      obtain ⟨x, D', ρ', w', d⟩ := opH_sound hC g rel hr hU
      have hx := d.val
      subst hx
      exact op1_wpIn hn d.op (k D' ρ' w' d.rel d.nxt d.in_)
    · -- a call
      obtain ⟨dst, op, ty, pos, aft, gd⟩ := o
      simp only at ho
      unfold callV at ho
      split at ho
      · rename_i x xs ats hp0 hh0
        have hargs : ∀ vs, evL C fr xs.toList = some vs → xs.map a.eval = (concL ρ vs).toArray ∧ InDL (DD D ρ) vs := fun vs hvs => by
          obtain ⟨e1, e2⟩ := g.evs hvs
          exact ⟨by apply Array.toList_inj.1; simpa using e1, e2⟩
        split at ho
        · rename_i f fi ca vs hx hvs
          obtain ⟨e1, i1⟩ := g.ev hx
          obtain ⟨e2, i2⟩ := hargs vs hvs
          have hin : InDL (DD D ρ) (fi ++ vs ++ ca) := InDL_iff.2 fun y hy => by
            simp only [List.mem_append] at hy
            rcases hy with (h | h) | h
            · exact InDL_iff.1 i1.1 y h
            · exact InDL_iff.1 i2 y h
            · exact InDL_iff.1 i1.2 y h
          have hcl : (concL ρ fi).toArray ++ (concL ρ vs).toArray ++ (concL ρ ca).toArray = (concL ρ (fi ++ vs ++ ca)).toArray := by
            simp [concL_eq]
          have hres : ∀ R : Array Value → Sem Next, (execOp a.eval ⟨dst, .call ⟨.value x, xs, ats⟩, ty, pos, aft, gd⟩) = (do let d ← resolve a.eval ⟨.value x, xs, ats⟩ ty; invoke d.target d.args) := fun _ => rfl
          have hrun : (execOp a.eval ⟨dst, .call ⟨.value x, xs, ats⟩, ty, pos, aft, gd⟩).run P w = (callFunc f (concL ρ (fi ++ vs ++ ca)).toArray).run P w := by
            rw [hres (fun _ => pure .skip), ← hcl]
            simp only [resolve, e1, e2, conc, Deferred.ofValue, Sem.run_bind, Sem.run_pure, Result.andThen_ok, invoke]
          split at ho
          · rename_i e he
            split at ho
            · rename_i u hu
              cases ho
              obtain ⟨q1, q2⟩ := hC.ext f e he ρ _ _ hu
              exact op1_wpIn hn (.inl (by rw [hrun]; exact q1 w)) (k D ρ w rel (Nxt.refl _ _ _ _) (q2 _ hin))
            · cases ho
          · refine ⟨fun f _ => FF_fn r f, ?_⟩
            rw [Oper.semAt_plain _ _ _ (by intro c e; cases e), hrun, hS.fnEnter _ _ _ _ _ ho, Oper.uponIn_enter]
            refine ⟨by simp [FF_depth], ?_⟩
            refine (callsFF (r := r) (hS.fn _ _ _ _ _ ho s0 U D ρ w hU g.gl hin rel)).mono ?_
            rintro e w' ⟨D', ρ', rfl, q1, q2, q3⟩
            exact k D' ρ' w' q1 q2 q3
        · rename_i l vs hx hvs
          obtain ⟨e1, i1⟩ := g.ev hx
          obtain ⟨e2, i2⟩ := hargs vs hvs
          obtain ⟨fn, tmps, assign, body, hy, hR⟩ := hS.yield _ _ _ _ _ ho s0 U D ρ w hU g.gl i1.1 i2 rel
          refine ⟨fun f _ => FF_fn r f, ?_⟩
          have hrun : (execOp a.eval ⟨dst, .call ⟨.value x, xs, ats⟩, ty, pos, aft, gd⟩).run P w = .ok (.round (ρ.l l) fn tmps assign body) w := by
            simp only [execOp, resolve, e1, e2, conc, Deferred.ofValue, Sem.run_bind, Sem.run_pure, Result.andThen_ok, invoke]
            simpa using hy
          rw [Oper.semAt_plain _ _ _ (by intro c e; cases e), hrun, Oper.uponIn_round]
          refine ⟨by simp [FF_depth], ?_⟩
          have hR' : RoundIn (FF r) 0 P (ρ.l l) fn tmps assign body w (FnPost s0 U D ρ h w v h') :=
            ⟨FF_fn r fn, fun c cs _ => by have := hR.2 c cs (room_wide _); rwa [← fenced_FF r] at this⟩
          refine hR'.mono ?_
          rintro e w' ⟨D', ρ', rfl, q1, q2, q3⟩
          exact k D' ρ' w' q1 q2 q3
        · cases ho
      · rename_i x m xs ats hp0 hh0
        have hargs : ∀ vs, evL C fr xs.toList = some vs → xs.map a.eval = (concL ρ vs).toArray ∧ InDL (DD D ρ) vs := fun vs hvs => by
          obtain ⟨e1, e2⟩ := g.evs hvs
          exact ⟨by apply Array.toList_inj.1; simpa using e1, e2⟩
        split at ho
        · rename_i t u vs hx hvs
          obtain ⟨e1, i1⟩ := g.ev hx
          obtain ⟨e2, i2⟩ := hargs vs hvs
          split at ho
          · rename_i f hf
            split at ho
            · cases ho
            · have hin : InDL (DD D ρ) (u :: vs) := ⟨i1, i2⟩
              have hcl : #[conc ρ u] ++ (concL ρ vs).toArray = (concL ρ (u :: vs)).toArray := by simp [concL]
              have hrun : (execOp a.eval ⟨dst, .call ⟨.invoke x m, xs, ats⟩, ty, pos, aft, gd⟩).run P w = (callFunc f (concL ρ (u :: vs)).toArray).run P w := by
                have hex : (#[conc ρ (.iface t u)] ++ (concL ρ vs).toArray).extract 1 (#[conc ρ (.iface t u)] ++ (concL ρ vs).toArray).size = (concL ρ vs).toArray := by
                  apply Array.toList_inj.1; simp
                have h0 : (#[conc ρ (.iface t u)] ++ (concL ρ vs).toArray)[0]? = some (conc ρ (.iface t u)) := by simp
                show ((do let d ← resolve a.eval ⟨.invoke x m, xs, ats⟩ ty; invoke d.target d.args) : Sem Next).run P w = _
                simp only [resolve, e1, e2, Sem.run_bind, Sem.run_pure, Result.andThen_ok, invoke]
                rw [← hcl, ← hC.mt t m f hf (conc ρ u) (concL ρ vs).toArray w]
                simp only [h0, hex]
                rfl
              refine ⟨fun f _ => FF_fn r f, ?_⟩
              rw [Oper.semAt_plain _ _ _ (by intro c e; cases e), hrun, hS.fnEnter _ _ _ _ _ ho, Oper.uponIn_enter]
              refine ⟨by simp [FF_depth], ?_⟩
              refine (callsFF (r := r) (hS.fn _ _ _ _ _ ho s0 U D ρ w hU g.gl hin rel)).mono ?_
              rintro e w' ⟨D', ρ', rfl, q1, q2, q3⟩
              exact k D' ρ' w' q1 q2 q3
          · cases ho
        · cases ho
      · cases ho
end
end Go.Proofs.YtmlemnbhjbaedaaGreatDoor

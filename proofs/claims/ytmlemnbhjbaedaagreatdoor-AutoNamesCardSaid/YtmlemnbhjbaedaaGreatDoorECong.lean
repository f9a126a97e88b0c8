/-
  The plain machine's operation looks at its own operands alone. Nothing here speaks of a program.
-/
import Derived.Test.YtmlemnbhjbaedaaGreatDoorESound
namespace Go.Proofs.YtmlemnbhjbaedaaGreatDoor
open Go.RowKit
set_option linter.unusedSimpArgs false
set_option linter.unusedVariables false

section
variable {C : Cfg} {fr fr' : Tr V}
theorem evL_congr : ∀ {l : List Operand}, (∀ x ∈ l, evV C fr x = evV C fr' x) → evL C fr l = evL C fr' l
  | [], _ => rfl
  | x :: l, h => by simp only [evL, h x (by simp), evL_congr (l := l) fun y hy => h y (by simp [hy])]
theorem bndI_congr {d : Nat} {x : Option Operand} (h : ∀ y, x = some y → evV C fr y = evV C fr' y) : bndI C fr d x = bndI C fr' d x := by
  cases x with
  | none => rfl
  | some y => simp only [bndI, h y rfl]
theorem fillV_congr {t : TypeId} : ∀ {l : List (Nat × Operand)} {v : V}, (∀ p ∈ l, evV C fr p.2 = evV C fr' p.2) → fillV C fr t v l = fillV C fr' t v l
  | [], _, _ => rfl
  | (i, x) :: l, v, h => by
    simp only [fillV, h (i, x) (by simp)]
    have ih := fun v => fillV_congr (t := t) (l := l) (v := v) fun p hp => h p (by simp [hp])
    repeat' split
    all_goals first | rfl | exact ih _
theorem fillE_congr {e : Nat} : ∀ {l : List (Nat × Operand)} {v : V}, (∀ p ∈ l, evV C fr p.2 = evV C fr' p.2) → fillE C fr e v l = fillE C fr' e v l
  | [], _, _ => rfl
  | (i, x) :: l, v, h => by
    simp only [fillE, h (i, x) (by simp)]
    have ih := fun v => fillE_congr (e := e) (l := l) (v := v) fun p hp => h p (by simp [hp])
    repeat' split
    all_goals first | rfl | exact ih _
theorem pureV_congr {rt : TypeId} (o : Op) (h : ∀ x ∈ o.operands, evV C fr x = evV C fr' x) : pureV C fr rt o = pureV C fr' rt o := by
  cases o <;> simp only [Op.operands] at h
  case unOp op t x =>
    have h1 := h x (by simp)
    cases op <;> simp only [pureV, pvPick, pvExtract, pvNilcheck, pvUnopNot, pvUnopNeg, pvUnopXor, pvBinop, pvConvert, pvMakefunc, pvBuild, pvField, pvFieldaddr, pvIndexaddr, pvIndex, pvSlice, pvMakeinterface, pvAssert, pvLen, pvMin, pvMax, h1]
  case makeFunc fn first captured =>
    have h1 := evL_congr (C := C) (fr := fr) (fr' := fr') (l := first.toList) fun x hx => h x (by simp at hx; simp [hx])
    have h2 := evL_congr (C := C) (fr := fr) (fr' := fr') (l := captured.toList) fun x hx => h x (by simp at hx; simp [hx])
    cases fn <;> simp only [pureV, pvPick, pvExtract, pvNilcheck, pvUnopNot, pvUnopNeg, pvUnopXor, pvBinop, pvConvert, pvMakefunc, pvBuild, pvField, pvFieldaddr, pvIndexaddr, pvIndex, pvSlice, pvMakeinterface, pvAssert, pvLen, pvMin, pvMax, h1, h2]
  case build t ps =>
    have h1 := fun v => fillV_congr (C := C) (fr := fr) (fr' := fr') (t := t) (l := ps.toList) (v := v) fun p hp => h p.2 (by simp at hp; simp; exact ⟨p.1, hp⟩)
    simp only [pureV, pvPick, pvExtract, pvNilcheck, pvUnopNot, pvUnopNeg, pvUnopXor, pvBinop, pvConvert, pvMakefunc, pvBuild, pvField, pvFieldaddr, pvIndexaddr, pvIndex, pvSlice, pvMakeinterface, pvAssert, pvLen, pvMin, pvMax, h1]
  case slice t x lo hi mx =>
    have h1 := h x (by simp)
    have h2 := fun d => bndI_congr (C := C) (fr := fr) (fr' := fr') (d := d) (x := lo) fun y hy => h y (by simp [hy])
    have h3 := fun d => bndI_congr (C := C) (fr := fr) (fr' := fr') (d := d) (x := hi) fun y hy => h y (by simp [hy])
    cases mx with
    | none => simp only [pureV, pvPick, pvExtract, pvNilcheck, pvUnopNot, pvUnopNeg, pvUnopXor, pvBinop, pvConvert, pvMakefunc, pvBuild, pvField, pvFieldaddr, pvIndexaddr, pvIndex, pvSlice, pvMakeinterface, pvAssert, pvLen, pvMin, pvMax, h1, h2, h3]
    | some z =>
      have h4 := bndI_congr (C := C) (fr := fr) (fr' := fr') (d := 0) (x := some z) fun y hy => h y (by simp at hy; simp [hy])
      simp only [pureV, pvPick, pvExtract, pvNilcheck, pvUnopNot, pvUnopNeg, pvUnopXor, pvBinop, pvConvert, pvMakefunc, pvBuild, pvField, pvFieldaddr, pvIndexaddr, pvIndex, pvSlice, pvMakeinterface, pvAssert, pvLen, pvMin, pvMax, h1, h2, h3, h4]
  case call c =>
    obtain ⟨callee, args, ats⟩ := c
    obtain ⟨args⟩ := args
    obtain ⟨ats⟩ := ats
    have ha : ∀ x ∈ args, evV C fr x = evV C fr' x := fun x hx => h x (by simp [Call.operands, hx])
    cases callee <;> try rfl
    rename_i b
    cases b <;> try rfl
    all_goals
      rcases args with _ | ⟨x, _ | ⟨y, _ | ⟨z, l⟩⟩⟩ <;> rcases ats with _ | ⟨t, _ | ⟨u, _ | ⟨z', ats⟩⟩⟩ <;> simp only [pureV, pvPick, pvExtract, pvNilcheck, pvUnopNot, pvUnopNeg, pvUnopXor, pvBinop, pvConvert, pvMakefunc, pvBuild, pvField, pvFieldaddr, pvIndexaddr, pvIndex, pvSlice, pvMakeinterface, pvAssert, pvLen, pvMin, pvMax] <;> (first | rfl | (simp only [List.mem_cons, List.not_mem_nil, or_false, forall_eq_or_imp, forall_eq] at ha; simp only [ha]))
  all_goals first | rfl | (simp only [List.mem_toArray, List.mem_cons, List.not_mem_nil, or_false, forall_eq_or_imp, forall_eq] at h; simp only [pureV, pvPick, pvExtract, pvNilcheck, pvUnopNot, pvUnopNeg, pvUnopXor, pvBinop, pvConvert, pvMakefunc, pvBuild, pvField, pvFieldaddr, pvIndexaddr, pvIndex, pvSlice, pvMakeinterface, pvAssert, pvLen, pvMin, pvMax, h])
theorem opH_congr {H : Heap} (o : Op) (h : ∀ x ∈ o.operands, evV C fr x = evV C fr' x) : opH C fr H o = opH C fr' H o := by
  cases o <;> simp only [Op.operands] at h
  case buildSlice t n ps =>
    have h1 := fun e v => fillE_congr (C := C) (fr := fr) (fr' := fr') (e := e) (l := ps.toList) (v := v) fun p hp => h p.2 (by simp at hp; simp; exact ⟨p.1, hp⟩)
    simp only [opH, ohConvert, ohLoad, ohStore, ohAlloc, ohBox, ohBuildslice, ohMakeslice, ohAppend, ohCopy, ohSlice, ohMakemap, ohLookup, ohMapupdate, ohMapentry, ohEntrystore, ohClearA, ohClear, ohClearS, ohLenM, h1]
  case makeMap t x =>
    cases x with
    | none => rfl
    | some x =>
      have h1 := h x (by simp)
      simp only [opH, ohMakemap, h1]
  case lookup t x y ok =>
    have h1 := h x (by simp)
    have h2 := h y (by simp)
    simp only [opH, ohLookup, h1, h2]
  case mapUpdate t x y z =>
    have h1 := h x (by simp)
    have h2 := h y (by simp)
    have h3 := h z (by simp)
    simp only [opH, ohMapupdate, h1, h2, h3]
  case insert t x y z =>
    have h1 := h x (by simp)
    have h2 := h y (by simp)
    have h3 := h z (by simp)
    simp only [opH, ohMapupdate, h1, h2, h3]
  case mapEntry t x y =>
    have h1 := h x (by simp)
    have h2 := h y (by simp)
    simp only [opH, ohMapentry, h1, h2]
  case entryStore t x y z =>
    have h1 := h x (by simp)
    have h2 := h y (by simp)
    have h3 := h z (by simp)
    simp only [opH, ohEntrystore, h1, h2, h3]
  case slice t x lo hi mx =>
    have h1 := h x (by simp)
    have h2 := fun d => bndI_congr (C := C) (fr := fr) (fr' := fr') (d := d) (x := lo) fun y hy => h y (by simp [hy])
    have h3 := fun d => bndI_congr (C := C) (fr := fr) (fr' := fr') (d := d) (x := hi) fun y hy => h y (by simp [hy])
    simp only [opH, ohConvert, ohLoad, ohStore, ohAlloc, ohBox, ohBuildslice, ohMakeslice, ohAppend, ohCopy, ohSlice, ohMakemap, ohLookup, ohMapupdate, ohMapentry, ohEntrystore, ohClearA, ohClear, ohClearS, ohLenM, h1, h2, h3]
  case call c =>
    obtain ⟨callee, args, ats⟩ := c
    obtain ⟨args⟩ := args
    obtain ⟨ats⟩ := ats
    have ha : ∀ x ∈ args, evV C fr x = evV C fr' x := fun x hx => h x (by simp [Call.operands, hx])
    cases callee <;> try rfl
    rename_i b
    cases b <;> try rfl
    all_goals
      rcases args with _ | ⟨x, _ | ⟨y, _ | ⟨z, l⟩⟩⟩ <;> rcases ats with _ | ⟨t, _ | ⟨u, _ | ⟨z', ats⟩⟩⟩ <;> simp only [opH, ohConvert, ohLoad, ohStore, ohAlloc, ohBox, ohBuildslice, ohMakeslice, ohAppend, ohCopy, ohSlice, ohMakemap, ohLookup, ohMapupdate, ohMapentry, ohEntrystore, ohClearA, ohClear, ohClearS, ohLenM] <;> (first | rfl | (simp only [List.mem_cons, List.not_mem_nil, or_false, forall_eq_or_imp, forall_eq] at ha; simp only [ha]))
  all_goals first | rfl | (simp only [List.mem_toArray, List.mem_cons, List.not_mem_nil, or_false, forall_eq_or_imp, forall_eq] at h; simp only [opH, ohConvert, ohLoad, ohStore, ohAlloc, ohBox, ohBuildslice, ohMakeslice, ohAppend, ohCopy, ohSlice, ohMakemap, ohLookup, ohMapupdate, ohMapentry, ohEntrystore, ohClearA, ohClear, ohClearS, ohLenM, h])
theorem callV_congr {S : Self} {H : Heap} (o : Op) (h : ∀ x ∈ o.operands, evV C fr x = evV C fr' x) : callV S C fr H o = callV S C fr' H o := by
  cases o <;> try rfl
  rename_i c
  obtain ⟨callee, args, ats⟩ := c
  cases callee with
  | builtin b => rfl
  | value x =>
    have hx := h x (by simp [Op.operands, Call.operands])
    have ha := evL_congr (C := C) (fr := fr) (fr' := fr') (l := args.toList) fun y hy => h y (by simp at hy; simp [Op.operands, Call.operands, hy])
    simp only [callV, hx, ha]
  | invoke x m =>
    have hx := h x (by simp [Op.operands, Call.operands])
    have ha := evL_congr (C := C) (fr := fr) (fr' := fr') (l := args.toList) fun y hy => h y (by simp at hy; simp [Op.operands, Call.operands, hy])
    simp only [callV, hx, ha]
theorem opV_congr {S : Self} {H : Heap} (o : Oper) (h : ∀ x ∈ o.op.operands, evV C fr x = evV C fr' x) : opV S C fr H o = opV S C fr' H o := by
  unfold opV
  rw [pureV_congr o.op h, opH_congr o.op h, callV_congr o.op h]
/-! ### a frame cut down to what is looked at -/
theorem Tr.cut {α : Type} (t : Tr α) (L : List Nat) : ∃ u : Tr α, ∀ k, u.get k = if k ∈ L then t.get k else none := by
  induction L with
  | nil => exact ⟨.nil, fun k => by simp [Tr.get_nil]⟩
  | cons x L ih =>
    obtain ⟨u, hu⟩ := ih
    refine ⟨u.set x (t.get x), fun k => ?_⟩
    rw [Tr.get_set, hu]
    by_cases e : k = x
    · subst e; simp
    · simp [e]
theorem Tr.of {α : Type} (g : Nat → Option α) (n : Nat) : ∃ t : Tr α, ∀ k, t.get k = if k < n then g k else none := by
  induction n with
  | zero => exact ⟨.nil, fun k => by simp [Tr.get_nil]⟩
  | succ n ih =>
    obtain ⟨u, hu⟩ := ih
    refine ⟨u.set n (g n), fun k => ?_⟩
    rw [Tr.get_set, hu]
    by_cases e : k = n
    · subst e; simp
    · rw [if_neg e]
      by_cases h : k < n
      · rw [if_pos h, if_pos (by omega)]
      · rw [if_neg h, if_neg (by omega)]
theorem cut_ev {ops : Array Oper} {o : Oper} (h : ∀ t ∈ o.looksAt ops, fr'.get t = fr.get t) : ∀ x ∈ o.op.operands, evV C fr x = evV C fr' x := fun x hx => by
  cases x with
  | tmp t =>
    have : t ∈ o.looksAt ops := List.mem_append_left _ (List.mem_filterMap.2 ⟨.tmp t, by simpa using hx, rfl⟩)
    simp only [evV, h t this]
  | _ => rfl
theorem cut_want {ops : Array Oper} {o : Oper} (h : ∀ t ∈ o.looksAt ops, fr'.get t = fr.get t) : wantV ops fr o = wantV ops fr' o := by
  unfold wantV
  split
  · rfl
  · rename_i j b hg
    split
    · rfl
    · rename_i t ht
      rw [h t (List.mem_append_right _ (by simp [hg, ht]))]
end
end Go.Proofs.YtmlemnbhjbaedaaGreatDoor

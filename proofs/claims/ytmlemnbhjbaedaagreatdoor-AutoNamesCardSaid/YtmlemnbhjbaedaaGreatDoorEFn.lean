/-
  The plain machine's run of functions, rounds, loops and jumps, sound. Nothing here speaks of a program.
-/
import Derived.Test.YtmlemnbhjbaedaaGreatDoorERgn
namespace Go.Proofs.YtmlemnbhjbaedaaGreatDoor
open Go.RowKit
set_option linter.unusedSimpArgs false
set_option linter.unusedVariables false

/-- the functions that the plain machine knows -/
noncomputable def FnsOK (P : Program) (C : Cfg) : Prop := ∀ f fn, C.fn f = some fn → P.funcs[f]? = some fn ∧ (∀ args w, (callFunc f args).run P w = .ok (.enter f args) w) ∧ ∀ c, fn.body = some c → codeOK fn.ntmps c = true
theorem argsT_get : ∀ (vs : List V) (i : Nat) (t : Tr V) (k : Nat), (argsT i vs t).get k = if i ≤ k ∧ k < i + vs.length then vs[k - i]? else t.get k
  | [], i, t, k => by simp only [argsT, List.length_nil]; rw [if_neg (by omega)]
  | v :: vs, i, t, k => by
    simp only [argsT]
    rw [argsT_get vs (i + 1) _ k, Tr.get_set]
    simp only [List.length_cons]
    by_cases h : k = i
    · subst h
      rw [if_neg (by omega), if_pos rfl, if_pos (by omega)]; simp
    · by_cases h2 : i + 1 ≤ k ∧ k < i + 1 + vs.length
      · rw [if_pos h2, if_pos (by omega), show k - i = (k - (i + 1)) + 1 by omega]; simp
      · rw [if_neg h2, if_neg h, if_neg (by omega)]
theorem findLabel_ok {N : Nat} : ∀ (c : Code) (l : Nat) (rest : Code), findLabel c l = some rest → codeOK N c = true → codeOK N rest = true
  | .seq a b, l, rest, h, hok => by
    simp only [codeOK, Bool.and_eq_true] at hok
    simp only [findLabel] at h
    split at h
    · rename_i r hr
      cases h
      simp only [codeOK, Bool.and_eq_true]
      exact ⟨findLabel_ok a l r hr hok.1, hok.2⟩
    · exact findLabel_ok b l rest h hok.2
  | .label l', l, rest, h, _ => by
    simp only [findLabel] at h
    split at h
    · cases h; rfl
    · cases h
  | .skip, _, _, h, _ => by simp [findLabel] at h
  | .region _ _ _, _, _, h, _ => by simp [findLabel] at h
  | .cond _ _ _, _, _, h, _ => by simp [findLabel] at h
  | .block _ _, _, _, h, _ => by simp [findLabel] at h
  | .loop _, _, _, h, _ => by simp [findLabel] at h
  | .rangeFunc _ _ _ _, _, _, h, _ => by simp [findLabel] at h
  | .exit _, _, _, h, _ => by simp [findLabel] at h
  | .scope _, _, _, h, _ => by simp [findLabel] at h
  | .goto _, _, _, h, _ => by simp [findLabel] at h
  | .ret, _, _, h, _ => by simp [findLabel] at h
  | .refuse _, _, _, h, _ => by simp [findLabel] at h
theorem setPs_spec {ρ : Env} {D : Nat → Nat → Prop} : ∀ (ps : List Tmp) (vs : List V) (fr : Tr V) (tmps : Array Value), (∀ t v, fr.get t = some v → tmps[t]? = some (conc ρ v) ∧ InD D v) → InDL D vs → (∀ p ∈ ps, p < tmps.size) →
    (∀ t v, (setPs fr ps vs).get t = some v → ((ps.zip (concL ρ vs)).foldl (fun t (p : Tmp × Value) => t.setIfInBounds p.1 p.2) tmps)[t]? = some (conc ρ v) ∧ InD D v) ∧
    ((ps.zip (concL ρ vs)).foldl (fun t (p : Tmp × Value) => t.setIfInBounds p.1 p.2) tmps).size = tmps.size
  | [], _, fr, tmps, h, _, _ => ⟨by simpa [setPs] using h, by simp⟩
  | p :: ps, [], fr, tmps, h, _, _ => ⟨by simpa [setPs, concL] using h, by simp [concL]⟩
  | p :: ps, v :: vs, fr, tmps, h, hv, hp => by
    have ih := setPs_spec (ρ := ρ) (D := D) ps vs (fr.set p (some v)) (tmps.setIfInBounds p (conc ρ v)) (fun t x hx => by
      rw [Tr.get_set] at hx
      rw [Array.getElem?_setIfInBounds]
      by_cases e : t = p
      · subst e
        rw [if_pos rfl] at hx; cases hx
        exact ⟨by simp [hp t (by simp)], hv.1⟩
      · rw [if_neg e] at hx
        rw [if_neg (fun e' => e e'.symm)]
        exact h t x hx) hv.2 (fun q hq => by simp [hp q (by simp [hq])])
    simp only [setPs, concL, List.zip_cons_cons, List.foldl_cons]
    exact ⟨ih.1, by rw [ih.2]; simp⟩

/-! ### what only grows, whatever is run -/
structure SelfM (S : Self) : Prop where
  fn : ∀ f vs h v h', S.fn f vs h = some (v, h') → Mono h h'
  yield : ∀ l vs h v h', S.yield l vs h = some (v, h') → Mono h h'
structure FlowM (F : Flow) : Prop where
  loop : ∀ c st x st', F.loop c st = some (x, st') → Mono st.h st'.h
  scope : ∀ c l st x st', F.scope c l st = some (x, st') → Mono st.h st'.h
section
variable {C : Cfg} {S : Self} {F : Flow}
theorem opM (hS : SelfM S) {o : Oper} {fr : Tr V} {h h' : Heap} {v : V} (ho : opV S C fr h o = some (v, h')) : Mono h h' := by
  unfold opV at ho
  split at ho
  · cases ho; exact Mono.refl _
  · split at ho
    · rename_i r hr
      cases ho
      exact mono_opH hr
    · unfold callV at ho
      split at ho
      · split at ho
        · split at ho
          · split at ho
            · cases ho; exact Mono.refl _
            · cases ho
          · exact hS.fn _ _ _ _ _ ho
        · exact hS.yield _ _ _ _ _ ho
        · cases ho
      · split at ho
        · split at ho
          · split at ho
            · cases ho
            · exact hS.fn _ _ _ _ _ ho
          · cases ho
        · cases ho
      · cases ho
theorem opsM (hS : SelfM S) {ops : Array Oper} : ∀ (l : List Oper) (fr : Tr V) (h : Heap) (fr' : Tr V) (h' : Heap), evalOps S C ops l fr h = some (fr', h') → Mono h h'
  | [], fr, h, fr', h', he => by
    simp only [evalOps, Option.some.injEq, Prod.mk.injEq] at he
    rw [← he.2]; exact Mono.refl _
  | o :: l, fr, h, fr', h', he => by
    simp only [evalOps] at he
    split at he
    · split at he
      · rename_i v h1 ho
        exact (opM hS ho).trans (opsM hS l _ _ _ _ he)
      · cases he
    · exact opsM hS l _ _ _ _ he
    · cases he
theorem stepM (hS : SelfM S) {o : Oper} {fr : Tr V} {h h' : Heap} {v : V} {x : Option Ev} (hs : stepF S C fr h o = some (v, h', x)) : Mono h h' := by
  rcases stepF_cases hs with ⟨_, rfl, _⟩ | ⟨h1, _, ho, rfl, _⟩
  · exact Mono.refl _
  · have := minN_le h.wmin h1.wmin
    exact mono_wmin (opM hS ho) this.1 this.2
theorem flowM (hS : SelfM S) {ops : Array Oper} : ∀ (l : List Oper) (i : Nat) (es : List (Nat × Ev)) (fr : Tr V) (h : Heap) (fr' : Tr V) (h' : Heap), evalFlow S C ops l i es fr h = some (fr', h') → Mono h h'
  | [], _, _, fr, h, fr', h', he => by
    simp only [evalFlow, Option.some.injEq, Prod.mk.injEq] at he
    rw [← he.2]; exact Mono.refl _
  | o :: l, i, es, fr, h, fr', h', he => by
    simp only [evalFlow] at he
    split at he
    · split at he
      · rename_i v h1 x hst
        split at he
        · exact (stepM hS hst).trans (flowM hS l _ _ _ _ _ _ he)
        · cases he
      · rename_i v h1 hst
        exact (stepM hS hst).trans (flowM hS l _ _ _ _ _ _ he)
      · cases he
    · exact flowM hS l _ _ _ _ _ _ he
    · cases he
theorem codeM (hS : SelfM S) (hF : FlowM F) : ∀ (c : Code) (st : St) (x : Exit) (st' : St), evalCode S F C c st = some (x, st') → Mono st.h st'.h
  | .skip, st, x, st', he => by simp only [evalCode, Option.some.injEq, Prod.mk.injEq] at he; rw [← he.2]; exact Mono.refl _
  | .label _, st, x, st', he => by simp only [evalCode, Option.some.injEq, Prod.mk.injEq] at he; rw [← he.2]; exact Mono.refl _
  | .exit _, st, x, st', he => by simp only [evalCode, Option.some.injEq, Prod.mk.injEq] at he; rw [← he.2]; exact Mono.refl _
  | .goto _, st, x, st', he => by simp only [evalCode, Option.some.injEq, Prod.mk.injEq] at he; rw [← he.2]; exact Mono.refl _
  | .ret, st, x, st', he => by simp only [evalCode, Option.some.injEq, Prod.mk.injEq] at he; rw [← he.2]; exact Mono.refl _
  | .refuse _, st, x, st', he => by simp [evalCode] at he
  | .loop c, st, x, st', he => hF.loop c st x st' he
  | .seq c d, st, x, st', he => by
    simp only [evalCode] at he
    split at he
    · rename_i st1 h1
      exact (codeM hS hF c _ _ _ h1).trans (codeM hS hF d _ _ _ he)
    · exact codeM hS hF c _ _ _ he
  | .cond _ c d, st, x, st', he => by
    simp only [evalCode] at he
    split at he
    · exact codeM hS hF c _ _ _ he
    · exact codeM hS hF d _ _ _ he
    · cases he
  | .block _ c, st, x, st', he => by
    simp only [evalCode] at he
    split at he
    · rename_i id' st1 h1
      have := codeM hS hF c _ _ _ h1
      split at he <;> (cases he; exact this)
    · exact codeM hS hF c _ _ _ he
  | .scope c, st, x, st', he => by
    simp only [evalCode] at he
    split at he
    · rename_i l st1 h1
      exact (codeM hS hF c _ _ _ h1).trans (hF.scope _ _ _ _ _ he)
    · exact codeM hS hF c _ _ _ he
  | .region _ ops dr, st, x, st', he => by
    cases dr <;> simp only [evalCode] at he <;> split at he
    · rename_i he1; cases he; exact opsM hS _ _ _ _ _ he1
    · cases he
    · rename_i he1; cases he; exact flowM hS _ _ _ _ _ _ _ he1
    · cases he
  | .rangeFunc _ _ _ _, st, x, st', he => by
    simp only [evalCode] at he
    split at he
    · split at he
      · rename_i u h3 hcall
        exact ((mono_push _ _).trans (mono_push _ _)).trans ((hS.fn _ _ _ _ _ hcall).trans (endRange_mono he))
      · cases he
    · cases he
end
theorem takeAll_mono : ∀ (ds : List Nat) (h h1 : Heap), takeAll ds h = some h1 → Mono h h1
  | [], h, h1, e => by simp only [takeAll, Option.some.injEq] at e; subst e; exact Mono.refl _
  | d :: ds, h, h1, e => by
    simp only [takeAll] at e
    split at e
    · rename_i hg; exact (mono_put hg).trans (takeAll_mono ds _ _ e)
    · cases e
theorem finV_mono {C : Cfg} {fn : Func} {st : St} {v : V} {h' : Heap} (hf : finV C fn st = some (v, h')) : Mono st.h h' := by
  unfold finV at hf
  split at hf
  · cases hf
  · rename_i h1 ht
    have := takeAll_mono _ _ _ ht
    split at hf <;> first | (cases hf; done) | (cases hf; exact this)
theorem runM (C : Cfg) (hK : ∀ f k, C.known f = some k → ∀ vs h v h', k vs h = some (v, h') → Mono h h') : ∀ n, SelfM ⟨runFn C n, runYield C n⟩ ∧ FlowM ⟨runLoop C n, runScope C n⟩
  | 0 => ⟨⟨fun f vs h v h' he => by simp [runFn] at he, fun l vs h v h' he => by simp [runYield] at he⟩, ⟨fun c st x st' he => by simp [runLoop] at he, fun c l st x st' he => by simp [runScope] at he⟩⟩
  | n + 1 => by
    obtain ⟨hS, hF⟩ := runM C hK n
    have cm := codeM (C := C) hS hF
    refine ⟨⟨fun f vs h v h' he => ?_, fun l vs h v h' he => ?_⟩, ⟨fun c st x st' he => ?_, fun c l st x st' he => ?_⟩⟩
    · simp only [runFn] at he
      split at he
      · rename_i k hk; exact hK f k hk _ _ _ _ he
      · split at he
        · cases he
        · split at he
          · split at he
            · rename_i st h1; exact (cm _ _ _ _ h1).trans (finV_mono he)
            · rename_i st h1; exact (cm _ _ _ _ h1).trans (finV_mono he)
            · cases he
          · cases he
    · simp only [runYield] at he
      split at he
      · split at he
        · cases he
        · split at he
          · rename_i st1 h1
            split at he
            · rename_i hget1
              split at he
              · rename_i x st2 h2
                split at he
                · rename_i hget2
                  have m := ((cm _ _ _ _ h1).trans (mono_put hget1)).trans (cm _ _ _ _ h2)
                  split at he <;> first | (cases he; done) | (cases he; exact m.trans (mono_put hget2))
                · cases he
              · cases he
            · cases he
          · cases he
      · cases he
    · simp only [runLoop] at he
      split at he
      · rename_i st1 h1; exact (cm _ _ _ _ h1).trans (hF.loop _ _ _ _ he)
      · exact cm _ _ _ _ he
    · simp only [runScope] at he
      split at he
      · split at he
        · rename_i l' st1 h1; exact (cm _ _ _ _ h1).trans (hF.scope _ _ _ _ _ he)
        · exact cm _ _ _ _ he
      · cases he

section
variable {P : Program} {C : Cfg} {s0 : World} {U N : Nat} {D : Nat → Prop} {ρ : Env} {h h' : Heap} {w : World} {a : Act}
/-! ### the end of a function -/
theorem leaves_take {fn : Func} {tmps : Array Value} {R : Ending → World → Prop} : ∀ (ds : List Nat) (h h1 : Heap) (w : World), takeAll ds h = some h1 → h1.next ≤ U → Rel s0 U D ρ h w → (∀ d ∈ ds, D d) →
    (∀ w', Rel s0 U D ρ h1 w' → Nxt D ρ h w D ρ h1 w' → LeavesInM Fence.wide 0 P fn tmps R [] .returning w') → LeavesInM Fence.wide 0 P fn tmps R (ds.map (mkD ρ)) .returning w
  | [], h, h1, w, e, _, rel, _, k => by
    simp only [takeAll, Option.some.injEq] at e
    subst e
    exact k w rel (Nxt.refl _ _ _ _)
  | d :: ds, h, h1, w, e, hU, rel, hd, k => by
    simp only [takeAll] at e
    split at e
    · rename_i hg
      have hD := hd d (by simp)
      obtain ⟨o, q1, q2⟩ := rel.has d _ hD hg
      have q2 : o = .deferred (some []) := q2
      subst q2
      refine ⟨by simp, .inl ⟨ρ.b d, _, rfl, run_takeDeferred q1, ?_⟩⟩
      have ht := turned_putObj (w := w) (b := ρ.b d) (.deferred none) (Array.getElem?_eq_some_iff.1 q1).1
      obtain ⟨r2, n2⟩ := rel.put (b' := .dfr true) hD hg rfl rfl ht rfl trivial
      have hU2 := Nat.le_trans (takeAll_mono ds _ _ e).nxt hU
      exact leaves_take ds _ h1 _ e hU r2 (fun x hx => hd x (by simp [hx])) fun w' r3 n3 => k w' r3 (n2.trans rel.lt hU n3)
    · cases e
theorem resV_spec (hC : CfgOK P C) {fr : Tr V} (g : FrE C D ρ fr a) (rel : Rel s0 U D ρ h w) {r : ResultVar} {v : V} (hr : resV C fr h r = some v) : resRun P a.tmps w r (conc ρ v) ∧ InD (DD D ρ) v := by
  cases r with
  | tmp t =>
    have := g.at_ t v hr
    exact ⟨by simp [resRun, Array.getD_eq_getD_getElem?, this], g.in_ t v hr⟩
  | cell p T =>
    simp only [resV] at hr
    split at hr
    · rename_i b off i hp hT
      split at hr
      · rename_i u hu
        have hb := g.in_ p _ hp
        have := g.at_ p _ hp
        obtain ⟨l1, l2⟩ := load_sound hC rel hT hb.1 hu hr
        exact ⟨⟨_, by simp [Array.getD_eq_getD_getElem?, this, conc], l1⟩, l2⟩
      · cases hr
    · cases hr
theorem resL_spec (hC : CfgOK P C) {fr : Tr V} (g : FrE C D ρ fr a) (rel : Rel s0 U D ρ h w) : ∀ (l : List ResultVar) (vs : List V), resL C fr h l = some vs → All2 (resRun P a.tmps w) l (concL ρ vs) ∧ InDL (DD D ρ) vs
  | [], vs, e => by
    simp only [resL, Option.some.injEq] at e
    subst e
    exact ⟨trivial, trivial⟩
  | r :: l, vs, e => by
    simp only [resL] at e
    split at e
    · rename_i v vs' h1 h2
      cases e
      obtain ⟨q1, q2⟩ := resV_spec hC g rel h1
      obtain ⟨q3, q4⟩ := resL_spec hC g rel l vs' h2
      exact ⟨⟨q1, q3⟩, q2, q4⟩
    · cases e
theorem concL_length (ρ : Env) (l : List V) : (concL ρ l).length = l.length := by rw [concL_eq]; simp
theorem fin_sound (hC : CfgOK P C) {fn : Func} {st : St} {v : V} (hf : finV C fn st = some (v, h')) (hU : h'.next ≤ U) {r : Option Nat} (g : StR C s0 U N r [] D ρ st a w) {R : Ending → World → Prop} (k : ∀ w', Rel s0 U D ρ h' w' → Nxt D ρ st.h w D ρ h' w' → InD (DD D ρ) v → R (.returned (conc ρ v)) w') :
    LeavesInM Fence.wide 0 P fn a.tmps R a.defers .returning w := by
  unfold finV at hf
  split at hf
  · cases hf
  · rename_i h1 ht
    rw [g.defs, List.append_nil]
    split at hf
    · rename_i u hr
      cases hf
      refine leaves_take _ _ _ _ ht hU g.rel g.din fun w' r' n' => ?_
      have g' : FrE C D ρ st.fr a := g.fr
      obtain ⟨q1, q2⟩ := resL_spec hC g' r' _ _ hr
      have hrl : ∃ rv, fn.results.toList = [rv] := by
        cases hl : fn.results.toList with
        | nil => rw [hl] at q1; exact q1.elim
        | cons rv l => cases l with
          | nil => exact ⟨rv, rfl⟩
          | cons _ _ => rw [hl] at q1; exact q1.2.elim
      obtain ⟨rv, hrv⟩ := hrl
      rw [hrv] at q1
      exact ⟨_, results1 (by apply Array.toList_inj.1; simpa using hrv) q1.1, k w' r' n' q2.1⟩
    · rename_i us hne hr
      cases hf
      refine leaves_take _ _ _ _ ht hU g.rel g.din fun w' r' n' => ?_
      obtain ⟨q1, q2⟩ := resL_spec hC g.fr r' _ _ hr
      refine ⟨_, resultsN (rvs := fn.results.toList) (by simp) (fun e => ?_) q1, by
        have := k w' r' n' q2
        simpa [conc] using this⟩
      rw [concL_length] at e
      cases us with
      | nil => cases e
      | cons u us => cases us with
        | nil => exact hne u rfl
        | cons _ _ => cases e
    · cases hf
end

/-! ### the whole -/
/-- a function that is known by what it does -/
noncomputable def KnownFn (P : Program) (C : Cfg) (f : FuncId) (k : List V → Heap → Option (V × Heap)) : Prop := ∀ vs h v h', k vs h = some (v, h') →
  Mono h h' ∧ (∀ args w, (callFunc f args).run P w = .ok (.enter f args) w) ∧ ∀ s0 U D ρ w, h'.next ≤ U → GlobOK C (DD D ρ) ρ → InDL (DD D ρ) vs → Rel s0 U D ρ h w → Calls P f (concL ρ vs).toArray w (FnPost s0 U D ρ h w v h')
noncomputable def KnownOK (P : Program) (C : Cfg) : Prop := ∀ f k, C.known f = some k → KnownFn P C f k
structure RunOK (P : Program) (C : Cfg) (n : Nat) : Prop where
  self : SelfOK P C ⟨runFn C n, runYield C n⟩
  loop : ∀ N c, codeOK N c = true → CodeSound P C N (runLoop C n c) (fun r Q a w => Code.roundsIn (FF r) 0 P c Q n a w)
  scope : ∀ N c l, codeOK N c = true → CodeSound P C N (runScope C n c l) (fun r Q a w => scopeIn (FF r) 0 P c Q n l a w)
section
variable {P : Program} {C : Cfg}
theorem run_code (hmx : P.follows .mixedOrders = true) (hC : CfgOK P C) {n : Nat} (ih : RunOK P C n) {N : Nat} {c : Code} (hok : codeOK N c = true) :
    CodeSound P C N (evalCode ⟨runFn C n, runYield C n⟩ ⟨runLoop C n, runScope C n⟩ C c) (fun r Q a w => c.wpIn (FF r) 0 P Q a w) :=
  code_sound hC ih.self ⟨n, ih.loop, ih.scope⟩ (region_sound hmx hC ih.self) c hok
theorem run_loop (hmx : P.follows .mixedOrders = true) (hC : CfgOK P C) {n : Nat} (ih : RunOK P C n) (N : Nat) (c : Code) (hok : codeOK N c = true) : CodeSound P C N (runLoop C (n + 1) c) (fun r Q a w => Code.roundsIn (FF r) 0 P c Q (n + 1) a w) := by
  intro st x st' he
  have cs := run_code hmx hC ih hok
  simp only [runLoop] at he
  split at he
  · rename_i st1 h1
    obtain ⟨m1, k1⟩ := cs _ _ _ h1
    obtain ⟨m2, k2⟩ := ih.loop N c hok _ _ _ he
    refine ⟨m1.trans m2, fun s0 U r tl D ρ a w Q hU g k => k1 s0 U r tl D ρ a w _ (Nat.le_trans m2.nxt hU) g fun D1 ρ1 a1 w1 g1 n1 => ?_⟩
    exact k2 s0 U r tl D1 ρ1 a1 w1 Q hU g1 fun D2 ρ2 a2 w2 g2 n2 => k D2 ρ2 a2 w2 g2 (n1.trans g.rel.lt hU n2)
  · rename_i hne
    obtain ⟨m1, k1⟩ := cs _ _ _ he
    refine ⟨m1, fun s0 U r tl D ρ a w Q hU g k => k1 s0 U r tl D ρ a w _ hU g fun D1 ρ1 a1 w1 g1 n1 => ?_⟩
    have hq := k D1 ρ1 a1 w1 g1 n1
    cases x with
    | normal => exact absurd he (hne st')
    | _ => exact hq
theorem run_scope (hmx : P.follows .mixedOrders = true) (hC : CfgOK P C) {n : Nat} (ih : RunOK P C n) (N : Nat) (c : Code) (l : Nat) (hok : codeOK N c = true) : CodeSound P C N (runScope C (n + 1) c l) (fun r Q a w => scopeIn (FF r) 0 P c Q (n + 1) l a w) := by
  intro st x st' he
  simp only [runScope] at he
  split at he
  · rename_i rest hrest
    have cs := run_code hmx hC ih (findLabel_ok c l rest hrest hok)
    split at he
    · rename_i l' st1 h1
      obtain ⟨m1, k1⟩ := cs _ _ _ h1
      obtain ⟨m2, k2⟩ := ih.scope N c l' hok _ _ _ he
      refine ⟨m1.trans m2, fun s0 U r tl D ρ a w Q hU g k => ⟨rest, hrest, k1 s0 U r tl D ρ a w _ (Nat.le_trans m2.nxt hU) g fun D1 ρ1 a1 w1 g1 n1 => ?_⟩⟩
      exact k2 s0 U r tl D1 ρ1 a1 w1 Q hU g1 fun D2 ρ2 a2 w2 g2 n2 => k D2 ρ2 a2 w2 g2 (n1.trans g.rel.lt hU n2)
    · rename_i hne
      obtain ⟨m1, k1⟩ := cs _ _ _ he
      refine ⟨m1, fun s0 U r tl D ρ a w Q hU g k => ⟨rest, hrest, k1 s0 U r tl D ρ a w _ hU g fun D1 ρ1 a1 w1 g1 n1 => ?_⟩⟩
      have hq := k D1 ρ1 a1 w1 g1 n1
      cases x with
      | goto l => exact absurd he (hne l st')
      | _ => exact hq
  · cases he
theorem run_fn (hmx : P.follows .mixedOrders = true) (hC : CfgOK P C) (hF : FnsOK P C) (hK : KnownOK P C) {n : Nat} (ih : RunOK P C n) {f : FuncId} {vs : List V} {h : Heap} {v : V} {h' : Heap} (hr : runFn C (n + 1) f vs h = some (v, h')) :
    Mono h h' ∧ (∀ args w, (callFunc f args).run P w = .ok (.enter f args) w) ∧ ∀ s0 U D ρ w, h'.next ≤ U → GlobOK C (DD D ρ) ρ → InDL (DD D ρ) vs → Rel s0 U D ρ h w → Calls P f (concL ρ vs).toArray w (FnPost s0 U D ρ h w v h') := by
  simp only [runFn] at hr
  split at hr
  · rename_i k hk
    exact hK f k hk _ _ _ _ hr
  split at hr
  · cases hr
  · rename_i fn hfn
    obtain ⟨hf, he, hok⟩ := hF f fn hfn
    split at hr
    · rename_i c hb hle
      have hle := Nat.le_of_ble_eq_true hle
      have cs := run_code hmx hC ih (hok c hb)
      have key : ∀ x st, (x = .normal ∨ x = .ret) → evalCode ⟨runFn C n, runYield C n⟩ ⟨runLoop C n, runScope C n⟩ C c ⟨argsT 0 vs .nil, h, [], false⟩ = some (x, st) → finV C fn st = some (v, h') →
          Mono h h' ∧ ∀ s0 U D ρ w, h'.next ≤ U → GlobOK C (DD D ρ) ρ → InDL (DD D ρ) vs → Rel s0 U D ρ h w → Calls P f (concL ρ vs).toArray w (FnPost s0 U D ρ h w v h') := fun x st hx h1 h2 => by
        obtain ⟨m1, k1⟩ := cs _ _ _ h1
        have m2 := finV_mono h2
        refine ⟨m1.trans m2, fun s0 U D ρ w hU gl hin rel => ?_⟩
        refine callsIn_wide.1 (callsIn_of_wp_marks (F := Fence.wide) (n := 0) hf hb trivial ?_)
        have harg : ∀ t u, (argsT 0 vs .nil).get t = some u → ((concL ρ vs).toArray ++ Array.replicate (fn.ntmps - (concL ρ vs).toArray.size) undef)[t]? = some (conc ρ u) ∧ InD (DD D ρ) u := fun t u hu => by
          rw [argsT_get] at hu
          split at hu
          · rename_i hlt
            simp only [Nat.sub_zero, Nat.zero_add] at hu hlt
            refine ⟨?_, InDL.at_ hin hu⟩
            rw [Array.getElem?_append_left (by simp [concL_length]; exact hlt.2), concL_eq]
            simp [hu]
          · simp [Tr.get_nil] at hu
        refine k1 s0 U none [] D ρ _ w _ (Nat.le_trans m2.nxt hU) ⟨⟨⟨fun t u hu => (harg t u hu).1, fun t u hu => (harg t u hu).2, gl⟩⟩, rel, ?_, rfl, (fun d hd => by cases hd), rfl⟩ fun D1 ρ1 a1 w1 g1 n1 => ?_
        · simp only [Array.size_append, Array.size_replicate, List.size_toArray, concL_length]; omega
        · have fin := fin_sound (P := P) hC h2 hU g1 (R := FnPost s0 U D ρ h w v h') fun w' r' n' i' => ⟨D1, ρ1, rfl, r', n1.trans rel.lt hU n', i'⟩
          rcases hx with rfl | rfl <;> exact fin
      split at hr
      · rename_i st h1
        obtain ⟨q1, q2⟩ := key _ _ (.inl rfl) h1 hr
        exact ⟨q1, he, q2⟩
      · rename_i st h1
        obtain ⟨q1, q2⟩ := key _ _ (.inr rfl) h1 hr
        exact ⟨q1, he, q2⟩
      · cases hr
    · cases hr
theorem run_yld (hmx : P.follows .mixedOrders = true) (hC : CfgOK P C) {n : Nat} (ih : RunOK P C n) {l : Nat} {vs : List V} {h : Heap} {v : V} {h' : Heap} (hr : runYield C (n + 1) l vs h = some (v, h')) :
    ∀ s0 U D ρ w, h'.next ≤ U → GlobOK C (DD D ρ) ρ → D l → InDL (DD D ρ) vs → Rel s0 U D ρ h w → YieldAt Fence.wide 0 P (ρ.l l) (concL ρ vs).toArray w (FnPost s0 U D ρ h w v h') := by
  simp only [runYield] at hr
  split at hr
  · rename_i fr ps asg bd d hget
    split at hr
    · cases hr
    · rename_i hlen
      have hlen : vs.length = ps.size := Nat.eq_of_beq_eq_true hlen
      split at hr
      · rename_i st1 h1
        split at hr
        · rename_i fr1 ps1 asg1 bd1 d1 hget1
          split at hr
          · rename_i x st2 h2
            split at hr
            · rename_i fr2 ps2 asg2 bd2 d2 hget2
              -- the end of a round
              obtain ⟨b, stt, pe, hb, hst, hv, hh⟩ : ∃ (b : Bool) (stt : LoopState) (pe : Option Code), (pe.isNone = b ∧ stt = (if pe.isNone then .ready else .done)) ∧ ((x = .normal ∧ pe = none) ∨ (x = .ret ∧ pe = some .ret) ∨ (∃ id, x = .exit id ∧ pe = some (.exit id)) ∨ (∃ id, x = .goto id ∧ pe = some (.goto id))) ∧ v = .bool b ∧ h' = st2.h.put l (.loop stt pe fr2 ps2 asg2 bd2 d2) := by
                split at hr
                · cases hr; exact ⟨true, .ready, none, ⟨rfl, rfl⟩, .inl ⟨rfl, rfl⟩, rfl, rfl⟩
                · cases hr; exact ⟨false, .done, _, ⟨rfl, rfl⟩, .inr (.inl ⟨rfl, rfl⟩), rfl, rfl⟩
                · cases hr; exact ⟨false, .done, _, ⟨rfl, rfl⟩, .inr (.inr (.inl ⟨_, rfl, rfl⟩)), rfl, rfl⟩
                · cases hr; exact ⟨false, .done, _, ⟨rfl, rfl⟩, .inr (.inr (.inr ⟨_, rfl, rfl⟩)), rfl, rfl⟩
                · cases hr
              subst hv; subst hh
              clear hr
              obtain ⟨hb1, hb2⟩ := hb
              intro s0 U D ρ w hU gl hl hin rel
              have hU2 : st2.h.next ≤ U := hU
              obtain ⟨o, q1, q2⟩ := rel.has l _ hl hget
              obtain ⟨fnM, tmps, rfl, qt, ql, qp, qa, qb⟩ := q2
              have hcl := rel.clo l _ hl hget
              have hlh := rel.blt hget
              have hy := run_yield (P := P) (args := (concL ρ vs).toArray) q1 (by simp [concL_length, hlen])
              rw [ql]
              refine ⟨fnM, _, asg, bd, hy, roundIn_FF (r := none) (n := 0) (roundIn_of_wpIn (F := Fence.wide) trivial ?_)⟩
              clear hy
              obtain ⟨g1, g2⟩ := setPs_spec (ρ := ρ) (D := DD D ρ) ps.toList vs fr tmps (fun t u hu => ⟨qt t u hu, hcl.1 t u hu⟩) hin qp
              have hT : (ps.zip (concL ρ vs).toArray).foldl (fun tmps (t, a) => tmps.setIfInBounds t a) tmps = (ps.toList.zip (concL ρ vs)).foldl (fun t (p : Tmp × Value) => t.setIfInBounds p.1 p.2) tmps := by
                rw [← Array.foldl_toList, Array.toList_zip]
              simp only [hT]
              obtain ⟨m1, k1⟩ := run_code hmx hC ih qa _ _ _ h1
              obtain ⟨m2, k2⟩ := run_code hmx hC ih qb _ _ _ h2
              have hU1 : st1.h.next ≤ U := Nat.le_trans m2.nxt hU2
              refine k1 s0 U (some (ρ.b l)) [] D ρ _ w _ hU1 ⟨⟨⟨fun t u hu => (g1 t u hu).1, fun t u hu => (g1 t u hu).2, gl⟩⟩, rel, g2, rfl, (fun d hd => by cases hd), rfl⟩ fun D1 ρ1 a1 w1 s1 n1 => ?_
              have hl1 : D1 l := n1.sub l hl
              have eb1 : ρ1.b l = ρ.b l := (n1.env l (.inl hlh)).1
              obtain ⟨o1, p1, p2⟩ := s1.rel.has l _ hl1 hget1
              obtain ⟨fn1, tmps1, rfl, pt, pl, pp, pa, pb⟩ := p2
              have hcl1 := s1.rel.clo l _ hl1 hget1
              have hlh1 := s1.rel.blt hget1
              have p1' := p1
              rw [eb1] at p1'
              refine ⟨_, run_beginRound p1' rfl, ?_⟩
              have ht := turned_putObj (w := w1) (b := ρ1.b l) (.loop { state := .busy, pending := none, fn := fn1, tmps := tmps1, params := ps1, assign := asg1, body := bd1, defers := ρ1.b d1 }) (Array.getElem?_eq_some_iff.1 p1).1
              obtain ⟨r2, n2⟩ := s1.rel.put (b' := .loop .busy none fr1 ps1 asg1 bd1 d1) hl1 hget1 rfl rfl ht ⟨fn1, tmps1, rfl, pt, pl, pp, pa, pb⟩ hcl1
              rw [eb1] at r2 n2
              have n12 := n1.trans rel.lt (by exact hU1) n2
              refine k2 s0 U (some (ρ.b l)) [] D1 ρ1 a1 _ _ hU2 (s1.next hU1 n2 r2) fun D3 ρ3 a3 w3 s3 n3 => ?_
              have hl3 : D3 l := n3.sub l hl1
              have eb3 : ρ3.b l = ρ.b l := ((n3.env l (.inl hlh1)).1).trans eb1
              obtain ⟨o3, t1, t2⟩ := s3.rel.has l _ hl3 hget2
              obtain ⟨fn3, tmps3, rfl, tt, tl, tp, ta, tb⟩ := t2
              have hcl3 := s3.rel.clo l _ hl3 hget2
              have t1' := t1
              rw [eb3] at t1'
              have ht3 := turned_putObj (w := w3) (b := ρ3.b l) (.loop { state := stt, pending := pe, fn := fn3, tmps := tmps3, params := ps2, assign := asg2, body := bd2, defers := ρ3.b d2 }) (Array.getElem?_eq_some_iff.1 t1).1
              obtain ⟨r4, n4⟩ := s3.rel.put (b' := .loop stt pe fr2 ps2 asg2 bd2 d2) hl3 hget2 rfl rfl ht3 ⟨fn3, tmps3, rfl, tt, tl, tp, ta, tb⟩ hcl3
              rw [eb3] at r4 n4
              have n14 := (n12.trans rel.lt hU2 n3).trans rel.lt hU n4
              have hrun := run_endRound (P := P) pe t1'
              have fin : ∃ v w', (Instr.endRound (ρ.b l) pe).run P w3 = .ok v w' ∧ FnPost s0 U D ρ h w (.bool b) (st2.h.put l (.loop stt pe fr2 ps2 asg2 bd2 d2)) (.returned v) w' := by
                refine ⟨_, _, hrun, D3, ρ3, ?_, ?_, ?_, trivial⟩
                · rw [hb1]; rfl
                · rw [← hb2]; exact r4
                · rw [← hb2]; exact n14
              rcases hst with ⟨rfl, rfl⟩ | ⟨rfl, rfl⟩ | ⟨id, rfl, rfl⟩ | ⟨id, rfl, rfl⟩ <;> exact fin
            · cases hr
          · cases hr
        · cases hr
      · cases hr
  · cases hr
/-- **the plain machine's run is the model's** -/
theorem run_ok (hmx : P.follows .mixedOrders = true) (hC : CfgOK P C) (hF : FnsOK P C) (hK : KnownOK P C) : ∀ n, RunOK P C n
  | 0 => ⟨⟨(runM C (fun f k hk vs h v h' he => (hK f k hk vs h v h' he).1) 0).1.fn, fun f vs h v h' he => by simp [runFn] at he, fun f vs h v h' he => by simp [runFn] at he, (runM C (fun f k hk vs h v h' he => (hK f k hk vs h v h' he).1) 0).1.yield, fun l vs h v h' he => by simp [runYield] at he⟩,
      fun N c _ st x st' he => by simp [runLoop] at he, fun N c l _ st x st' he => by simp [runScope] at he⟩
  | n + 1 => by
    have ih := run_ok hmx hC hF hK n
    have m := runM C (fun f k hk vs h v h' he => (hK f k hk vs h v h' he).1) (n + 1)
    exact ⟨⟨m.1.fn, fun f vs h v h' he => (run_fn hmx hC hF hK ih he).2.1, fun f vs h v h' he => (run_fn hmx hC hF hK ih he).2.2, m.1.yield, fun l vs h v h' he => run_yld hmx hC ih he⟩,
      run_loop hmx hC ih, run_scope hmx hC ih⟩
/-- a function whose run is known -/
theorem known_of (hmx : P.follows .mixedOrders = true) (hC : CfgOK P C) (hF : FnsOK P C) (hK : KnownOK P C) {f : FuncId} {k : List V → Heap → Option (V × Heap)} (hk : ∀ vs h v h', k vs h = some (v, h') → ∃ n, runFn C n f vs h = some (v, h')) : KnownFn P C f k := fun vs h v h' he => by
  obtain ⟨n, hn⟩ := hk vs h v h' he
  have s := (run_ok hmx hC hF hK n).self
  exact ⟨s.fnMono f vs h v h' hn, s.fnEnter f vs h v h' hn, s.fn f vs h v h' hn⟩
/-- a function's run on memory of its own alone -/
theorem run_calls (hmx : P.follows .mixedOrders = true) (hC : CfgOK P C) (hF : FnsOK P C) (hK : KnownOK P C) {n : Nat} {f : FuncId} {vs : List V} {h : Heap} {v : V} {h' : Heap} (hr : runFn C n f vs h = some (v, h')) {D : Nat → Prop} {ρ : Env} {w : World} (gl : GlobOK C (DD D ρ) ρ) (hin : InDL (DD D ρ) vs) (rel : Rel w h'.next D ρ h w) :
    Calls P f (concL ρ vs).toArray w fun e w' => ∃ D' ρ', e = .returned (conc ρ' v) ∧ Below w.heap.size w w' ∧ Rel w h'.next D' ρ' h' w' ∧ Nxt D ρ h w D' ρ' h' w' :=
  ((run_ok hmx hC hF hK n).self.fn f vs h v h' hr w h'.next D ρ w (Nat.le_refl _) gl hin rel).mono fun e w' => by
    rintro ⟨D', ρ', rfl, q1, q2, _⟩
    exact ⟨D', ρ', rfl, q1.base, q1, q2⟩
end
end Go.Proofs.YtmlemnbhjbaedaaGreatDoor

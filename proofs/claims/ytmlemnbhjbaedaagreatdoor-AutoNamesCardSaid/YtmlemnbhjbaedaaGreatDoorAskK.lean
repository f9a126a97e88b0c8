/-
  A function that defers the call of one closure, told by the plain machine. Nothing here speaks of a program.
-/
import Derived.Test.YtmlemnbhjbaedaaGreatDoorEFn
import Derived.Test.YtmlemnbhjbaedaaGreatDoorEFast
import Derived.Test.YtmlemnbhjbaedaaGreatDoorJoinK
namespace Go.Proofs.YtmlemnbhjbaedaaGreatDoor
open Go.RowKit
set_option linter.unusedSimpArgs false
set_option linter.unusedVariables false
/-- a region that makes a closure and defers its call -/
noncomputable def dferOf : Code → Option (Tmp × FuncId × List Operand)
  | .region _ ops false => match ops.toList with
    | [⟨some t, .makeFunc (.func g) first caps, _, _, _, none⟩, ⟨none, .defer ⟨.value (.tmp u), args, _⟩, _, _, _, none⟩] => match Nat.beq t u, first.toList, args.toList with
      | true, [], [] => some (t, g, caps.toList)
      | _, _, _ => none
    | _ => none
  | _ => none
theorem dferOf_spec {c : Code} {t : Tmp} {g : FuncId} {caps : List Operand} (h : dferOf c = some (t, g, caps)) : ∃ id ty1 p1 a1 ats ty2 p2 a2, c = .region id #[⟨some t, .makeFunc (.func g) #[] caps.toArray, ty1, p1, a1, none⟩, ⟨none, .defer ⟨.value (.tmp t), #[], ats⟩, ty2, p2, a2, none⟩] false := by
  unfold dferOf at h
  split at h
  · rename_i id ops
    split at h
    · rename_i t' g' first caps' ty1 p1 a1 u args ats ty2 p2 a2 hops
      split at h
      · rename_i htu hf ha
        cases h
        have htu := Nat.eq_of_beq_eq_true htu
        subst htu
        have hf : first = #[] := by apply Array.toList_inj.1; simpa using hf
        have ha : args = #[] := by apply Array.toList_inj.1; simpa using ha
        subst hf; subst ha
        refine ⟨id, ty1, p1, a1, ats, ty2, p2, a2, ?_⟩
        have : ops = #[⟨some t, .makeFunc (.func g) #[] caps', ty1, p1, a1, none⟩, ⟨none, .defer ⟨.value (.tmp t), #[], ats⟩, ty2, p2, a2, none⟩] := by
          apply Array.toList_inj.1; simpa using hops
        rw [this]
      · cases h
    · cases h
  · cases h
/-- the run of a body that may defer one call: where it ends, and what was deferred -/
noncomputable def preD (S : Self) (F : Flow) (C : Cfg) : Code → St → Option ((Exit × St) × Option (FuncId × List V))
  | .seq x y, st => match dferOf x with
    | some (t, g, caps) => match st.ds, evL C st.fr caps with
      | [], some vs => match evalCode S F C y ⟨putT st.fr (some t) (.fn g [] vs), st.h, [], st.rd⟩ with
        | some r => some (r, some (g, vs))
        | none => none
      | _, _ => none
    | none => match evalCode S F C x st with
      | some (.normal, st') => preD S F C y st'
      | some r => some (r, none)
      | none => none
  | c, st => match evalCode S F C c st with
    | some r => some (r, none)
    | none => none
noncomputable def codeOKD (N : Nat) : Code → Bool
  | .seq x y => match dferOf x with
    | some (t, _, _) => Nat.blt t N && codeOK N y
    | none => codeOK N x && codeOKD N y
  | c => codeOK N c
noncomputable def dTl (ρ : Env) : Option (FuncId × List V) → List Deferred
  | none => []
  | some (g, vs) => [{ target := .fn (.func g) (concL ρ vs).toArray, args := #[] }]
noncomputable def dIn (D : Nat → Nat → Prop) : Option (FuncId × List V) → Prop
  | none => True
  | some (_, vs) => InDL D vs
noncomputable def resD (C : Cfg) (fn : Func) (fr : Tr V) (h : Heap) : Option (V × Heap) := match resL C fr h fn.results.toList with
  | some [v] => some (v, h)
  | some vs => some (.tup vs, h)
  | none => none
noncomputable def closD (C : Cfg) (n : Nat) (g : FuncId) (ws : List V) (h : Heap) : Option Heap := match C.fn g with
  | some fg => match fg.body, fg.results.toList, Nat.ble ws.length fg.ntmps with
    | some cg, [], true => match evalCode ⟨runFn C n, runYield C n⟩ ⟨runLoop C n, runScope C n⟩ C cg ⟨argsT 0 ws .nil, h, [], false⟩ with
      | some (.normal, s2) => match s2.ds with
        | [] => some s2.h
        | _ => none
      | some (.ret, s2) => match s2.ds with
        | [] => some s2.h
        | _ => none
      | _ => none
    | _, _, _ => none
  | none => none
noncomputable def endD (C : Cfg) (n : Nat) (fn : Func) (st : St) : Option (FuncId × List V) → Option (V × Heap)
  | none => finV C fn st
  | some (g, ws) => match takeAll st.ds st.h with
    | some h1 => match closD C n g ws h1 with
      | some h2 => resD C fn st.fr h2
      | none => none
    | none => none
/-- the run of a function that may defer one call -/
noncomputable def runD (C : Cfg) (n : Nat) (fn : Func) (c : Code) (vs : List V) (h : Heap) : Option (V × Heap) := match Nat.ble vs.length fn.ntmps, preD ⟨runFn C n, runYield C n⟩ ⟨runLoop C n, runScope C n⟩ C c ⟨argsT 0 vs .nil, h, [], false⟩ with
  | true, some ((.normal, st), d) => endD C n fn st d
  | true, some ((.ret, st), d) => endD C n fn st d
  | _, _ => none
section
variable {P : Program} {C : Cfg} {s0 : World} {U : Nat} {D : Nat → Prop} {ρ : Env} {fr : Tr V} {a : Act} {w : World} {h : Heap}
theorem leaves_takeT {fn : Func} {tmps : Array Value} {R : Ending → World → Prop} {tl : List Deferred} : ∀ (ds : List Nat) (h h1 : Heap) (w : World), takeAll ds h = some h1 → h1.next ≤ U → Rel s0 U D ρ h w → (∀ d ∈ ds, D d) →
    (∀ w', Rel s0 U D ρ h1 w' → Nxt D ρ h w D ρ h1 w' → LeavesInM Fence.wide 0 P fn tmps R tl .returning w') → LeavesInM Fence.wide 0 P fn tmps R (ds.map (mkD ρ) ++ tl) .returning w
  | [], h, h1, w, e, _, rel, _, k => by
    simp only [takeAll, Option.some.injEq] at e
    subst e
    exact k w rel (Nxt.refl _ _ _ _)
  | d :: ds, h, h1, w, e, hU, rel, hd, k => by
    simp only [takeAll] at e
    split at e
    · rename_i hg
      have hD := hd d (by simp)
      obtain ⟨o, q1, q2⟩ := rel.has d _ hD hg
      have q2 : o = .deferred (some []) := q2
      subst q2
      refine ⟨by simp, .inl ⟨ρ.b d, _, rfl, run_takeDeferred q1, ?_⟩⟩
      have ht := turned_putObj (w := w) (b := ρ.b d) (.deferred none) (Array.getElem?_eq_some_iff.1 q1).1
      obtain ⟨r2, n2⟩ := rel.put (b' := .dfr true) hD hg rfl rfl ht rfl trivial
      have hU2 := Nat.le_trans (takeAll_mono ds _ _ e).nxt hU
      exact leaves_takeT ds _ h1 _ e hU r2 (fun x hx => hd x (by simp [hx])) fun w' r3 n3 => k w' r3 (n2.trans rel.lt hU n3)
    · cases e
theorem defer_region (hC : CfgOK P C) (g : FrE C D ρ fr a) {id : Nat} {t : Tmp} {f : FuncId} {caps : Array Operand} {ty1 ty2 : TypeId} {p1 p2 : String} {a1 a2 : Array Edge} {ats : Array TypeId} {vs : List V} (ht : t < a.tmps.size) (hv : evL C fr caps.toList = some vs) {Q : Exit → Act → World → Prop}
    (k : Q .normal (({ a.put (some t) (conc ρ (.fn f [] vs)) with defers := { target := .fn (.func f) (concL ρ vs).toArray, args := #[] } :: a.defers } : Act).put none undef) w) :
    (Code.region id #[⟨some t, .makeFunc (.func f) #[] caps, ty1, p1, a1, none⟩, ⟨none, .defer ⟨.value (.tmp t), #[], ats⟩, ty2, p2, a2, none⟩] false).wpIn (FF none) 0 P Q a w := by
  have hp : pureV C fr ty1 (.makeFunc (.func f) #[] caps) = some (.fn f [] vs) := by simp [pureV, pvMakefunc, evL, hv]
  obtain ⟨h1, h2⟩ := pure_sound hC g (o := ⟨some t, .makeFunc (.func f) #[] caps, ty1, p1, a1, none⟩) hp w
  have g1 : FrE C D ρ (putT fr (some t) (.fn f [] vs)) (a.put (some t) (conc ρ (.fn f [] vs))) := g.put (by simpa [dstOk] using ht) h2
  have hev := (g1.ev (x := .tmp t) (v := .fn f [] vs) (by simp [evV, putT, Tr.get_set])).1
  refine wpIn_region_list ?_
  show wpListIn _ _ _ _ _ [_, _] a w
  unfold wpListIn
  rw [show Region.wanted _ _ = true from rfl, if_pos rfl]
  refine op1_wpIn rfl (.inl h1) ?_
  unfold wpListIn
  rw [show Region.wanted _ _ = true from rfl, if_pos rfl]
  refine ⟨fun f _ => FF_fn none f, ?_⟩
  have hr : ((⟨none, .defer ⟨.value (.tmp t), #[], ats⟩, ty2, p2, a2, none⟩ : Oper).semAt (FF none).round (a.put (some t) (conc ρ (.fn f [] vs))).eval).run P w = .ok (.defer { target := .fn (.func f) (concL ρ vs).toArray, args := #[] }) w := by
    show (Oper.semAt none _ _).run P w = _
    rw [Oper.semAt_none]
    simp only [execOp, resolve, hev]
    simp [conc, concL, Deferred.ofValue]
  rw [hr, Oper.uponIn_defer]
  unfold wpListIn
  exact k
theorem preD_sound (hmx : P.follows .mixedOrders = true) (hC : CfgOK P C) {n : Nat} (ih : RunOK P C n) {N : Nat} : ∀ c : Code, codeOKD N c = true → ∀ st r d, preD ⟨runFn C n, runYield C n⟩ ⟨runLoop C n, runScope C n⟩ C c st = some (r, d) →
    Mono st.h r.2.h ∧ ∀ s0 U D ρ a w Q, r.2.h.next ≤ U → StR C s0 U N none [] D ρ st a w →
      (∀ D' ρ' a' w', StR C s0 U N none (dTl ρ' d) D' ρ' r.2 a' w' → Nxt D ρ st.h w D' ρ' r.2.h w' → dIn (DD D' ρ') d → Q r.1 a' w') → c.wpIn (FF none) 0 P Q a w := by
  have plain : ∀ c : Code, codeOK N c = true → ∀ st r d, (match evalCode ⟨runFn C n, runYield C n⟩ ⟨runLoop C n, runScope C n⟩ C c st with
      | some r => some (r, none)
      | none => none) = some (r, d) → Mono st.h r.2.h ∧ ∀ s0 U D ρ a w Q, r.2.h.next ≤ U → StR C s0 U N none [] D ρ st a w →
      (∀ D' ρ' a' w', StR C s0 U N none (dTl ρ' d) D' ρ' r.2 a' w' → Nxt D ρ st.h w D' ρ' r.2.h w' → dIn (DD D' ρ') d → Q r.1 a' w') → c.wpIn (FF none) 0 P Q a w := fun c hok st r d he => by
    split at he
    · rename_i r' h1
      cases he
      obtain ⟨x, st'⟩ := r
      obtain ⟨m1, k1⟩ := run_code hmx hC ih hok _ _ _ h1
      exact ⟨m1, fun s0 U D ρ a w Q hU g k => k1 s0 U none [] D ρ a w Q hU g fun D' ρ' a' w' g' n' => k D' ρ' a' w' g' n' trivial⟩
    · cases he
  intro c
  induction c with
  | seq x y _ ihy =>
    intro hok st r d he
    simp only [codeOKD] at hok
    simp only [preD] at he
    cases hd : dferOf x with
    | some p =>
      obtain ⟨t, f, caps⟩ := p
      rw [hd] at he hok
      simp only [Bool.and_eq_true] at hok he
      have htN : t < N := by simpa using hok.1
      obtain ⟨id, ty1, p1, a1, ats, ty2, p2, a2, rfl⟩ := dferOf_spec hd
      split at he
      · rename_i vs hds hv
        split at he
        · rename_i r' h1
          cases he
          obtain ⟨x, st'⟩ := r
          obtain ⟨m1, k1⟩ := run_code hmx hC ih hok.2 _ _ _ h1
          refine ⟨m1, fun s0 U D ρ a w Q hU g k => wpIn_seq (defer_region hC g.fr (by rw [g.size]; exact htN) (by simpa using hv) ?_)⟩
          have hin : InDL (DD D ρ) vs := (g.fr.evs hv).2
          have hdst : dstOk a.tmps.size (some t) = true := by rw [g.size]; simpa [dstOk] using htN
          have gp := g.fr.put (d := some t) (v := .fn f [] vs) hdst ⟨trivial, hin⟩
          have hdf : a.defers = [] := by have := g.defs; rw [hds] at this; simpa using this
          refine k1 s0 U none (dTl ρ (some (f, vs))) D ρ _ w Q hU ⟨⟨⟨gp.at_, gp.in_, gp.gl⟩⟩, g.rel, ?_, ?_, (fun d hd => by cases hd), g.rd⟩ fun D' ρ' a' w' g' n' => ?_
          · simp [Act.put, g.size]
          · simp [Act.put, dTl, hdf]
          · have hag := n'.agree g.rel.lt hU
            have e : dTl ρ' (some (f, vs)) = dTl ρ (some (f, vs)) := by simp only [dTl, concL_agree hag hin]
            refine k D' ρ' a' w' (by rw [e]; exact g') n' (hin.mono (n'.dd g.rel.lt hU))
        · cases he
      · cases he
    | none =>
      rw [hd] at he hok
      simp only [Bool.and_eq_true] at hok he
      split at he
      · rename_i st1 h1
        obtain ⟨m1, k1⟩ := run_code hmx hC ih hok.1 _ _ _ h1
        obtain ⟨m2, k2⟩ := ihy hok.2 _ _ _ he
        refine ⟨m1.trans m2, fun s0 U D ρ a w Q hU g k => wpIn_seq (k1 s0 U none [] D ρ a w _ (Nat.le_trans m2.nxt hU) g fun D1 ρ1 a1 w1 g1 n1 => ?_)⟩
        exact k2 s0 U D1 ρ1 a1 w1 Q hU g1 fun D2 ρ2 a2 w2 g2 n2 hi => k D2 ρ2 a2 w2 g2 (n1.trans g.rel.lt hU n2) hi
      · rename_i r' hne h1
        cases he
        obtain ⟨e, st'⟩ := r
        obtain ⟨m1, k1⟩ := run_code hmx hC ih hok.1 _ _ _ h1
        refine ⟨m1, fun s0 U D ρ a w Q hU g k => wpIn_seq (k1 s0 U none [] D ρ a w _ hU g fun D1 ρ1 a1 w1 g1 n1 => ?_)⟩
        have := k D1 ρ1 a1 w1 g1 n1 trivial
        cases e <;> first | exact this | exact absurd rfl (hne _)
      · cases he
  | _ => exact fun hok st r d he => plain _ hok st r d he
theorem resD_spec (hC : CfgOK P C) {fn : Func} {v : V} {h h' : Heap} (hr : resD C fn fr h = some (v, h')) (g : FrE C D ρ fr a) (rel : Rel s0 U D ρ h w) : h' = h ∧ ∃ x, (results fn a.tmps).run P w = .ok x w ∧ x = conc ρ v ∧ InD (DD D ρ) v := by
  unfold resD at hr
  split at hr
  · rename_i u hu
    cases hr
    obtain ⟨q1, q2⟩ := resL_spec hC g rel _ _ hu
    have hrl : ∃ rv, fn.results.toList = [rv] := by
      cases hl : fn.results.toList with
      | nil => rw [hl] at q1; exact q1.elim
      | cons rv l => cases l with
        | nil => exact ⟨rv, rfl⟩
        | cons _ _ => rw [hl] at q1; exact q1.2.elim
    obtain ⟨rv, hrv⟩ := hrl
    rw [hrv] at q1
    exact ⟨rfl, _, results1 (by apply Array.toList_inj.1; simpa using hrv) q1.1, rfl, q2.1⟩
  · rename_i us hne hu
    cases hr
    obtain ⟨q1, q2⟩ := resL_spec hC g rel _ _ hu
    refine ⟨rfl, _, resultsN (rvs := fn.results.toList) (by simp) (fun e => ?_) q1, by simp [conc], q2⟩
    rw [concL_length] at e
    cases us with
    | nil => cases e
    | cons u us => cases us with
      | nil => exact hne _ rfl
      | cons _ _ => cases e
  · cases hr
/-- a function that may defer one call is known by its run -/
theorem known_defer (hmx : P.follows .mixedOrders = true) (hC : CfgOK P C) (hF : FnsOK P C) (hK : KnownOK P C) {n : Nat} {f : FuncId} {fn : Func} {c : Code} (hf : P.funcs[f]? = some fn) (hb : fn.body = some c) (hent : ∀ args w, (callFunc f args).run P w = .ok (.enter f args) w) (hok : codeOKD fn.ntmps c = true) :
    KnownFn P C f (runD C n fn c) := fun vs h v h' he => by
  have ih := run_ok hmx hC hF hK n
  unfold runD at he
  have key : ∀ x st d, (x = .normal ∨ x = .ret) → Nat.ble vs.length fn.ntmps = true → preD ⟨runFn C n, runYield C n⟩ ⟨runLoop C n, runScope C n⟩ C c ⟨argsT 0 vs .nil, h, [], false⟩ = some ((x, st), d) → endD C n fn st d = some (v, h') →
      Mono h h' ∧ ∀ s0 U D ρ w, h'.next ≤ U → GlobOK C (DD D ρ) ρ → InDL (DD D ρ) vs → Rel s0 U D ρ h w → Calls P f (concL ρ vs).toArray w (FnPost s0 U D ρ h w v h') := fun x st d hx hle h1 h2 => by
    have hle := Nat.le_of_ble_eq_true hle
    obtain ⟨m1, k1⟩ := preD_sound hmx hC ih c hok _ _ _ h1
    have harg : ∀ (vs : List V) (m : Nat) (D : Nat → Prop) (ρ : Env), InDL (DD D ρ) vs → vs.length ≤ m → ∀ t u, (argsT 0 vs .nil).get t = some u → ((concL ρ vs).toArray ++ Array.replicate (m - (concL ρ vs).toArray.size) undef)[t]? = some (conc ρ u) ∧ InD (DD D ρ) u := fun vs m D ρ hin hle t u hu => by
      rw [argsT_get] at hu
      split at hu
      · rename_i hlt
        simp only [Nat.sub_zero, Nat.zero_add] at hu hlt
        refine ⟨?_, InDL.at_ hin hu⟩
        rw [Array.getElem?_append_left (by simp [concL_length]; exact hlt.2), concL_eq]
        simp [hu]
      · simp [Tr.get_nil] at hu
    have hsz : ∀ (vs : List V) (m : Nat) (ρ : Env), vs.length ≤ m → ((concL ρ vs).toArray ++ Array.replicate (m - (concL ρ vs).toArray.size) undef).size = m := fun vs m ρ hle => by
      simp only [Array.size_append, Array.size_replicate, List.size_toArray, concL_length]; omega
    cases d with
    | none =>
      have m2 := finV_mono h2
      refine ⟨m1.trans m2, fun s0 U D ρ w hU gl hin rel => ?_⟩
      refine callsIn_wide.1 (callsIn_of_wp_marks (F := Fence.wide) (n := 0) hf hb trivial ?_)
      refine k1 s0 U D ρ _ w _ (Nat.le_trans m2.nxt hU) ⟨⟨⟨fun t u hu => (harg vs _ D ρ hin hle t u hu).1, fun t u hu => (harg vs _ D ρ hin hle t u hu).2, gl⟩⟩, rel, hsz _ _ _ hle, rfl, (fun d hd => by cases hd), rfl⟩ fun D1 ρ1 a1 w1 g1 n1 _ => ?_
      have fin := fin_sound (P := P) hC h2 hU g1 (R := FnPost s0 U D ρ h w v h') fun w' r' n' i' => ⟨D1, ρ1, rfl, r', n1.trans rel.lt hU n', i'⟩
      rcases hx with rfl | rfl <;> exact fin
    | some p =>
      obtain ⟨g, ws⟩ := p
      simp only [endD] at h2
      split at h2
      · rename_i hh1 htake
        split at h2
        · rename_i hh2 hclos
          have mt := takeAll_mono _ _ _ htake
          unfold closD at hclos
          split at hclos
          · rename_i fg hfg
            obtain ⟨hgf, hge, hgok⟩ := hF g fg hfg
            split at hclos
            · rename_i cg hgb hgr hgle
              have hgle := Nat.le_of_ble_eq_true hgle
              have hgres : fg.results = #[] := by apply Array.toList_inj.1; simpa using hgr
              have key2 : ∃ x2 s2, (x2 = .normal ∨ x2 = .ret) ∧ evalCode ⟨runFn C n, runYield C n⟩ ⟨runLoop C n, runScope C n⟩ C cg ⟨argsT 0 ws .nil, hh1, [], false⟩ = some (x2, s2) ∧ s2.ds = [] ∧ s2.h = hh2 := by
                split at hclos
                · rename_i s2 e2
                  split at hclos
                  · rename_i hds; cases hclos; exact ⟨_, _, .inl rfl, e2, hds, rfl⟩
                  · cases hclos
                · rename_i s2 e2
                  split at hclos
                  · rename_i hds; cases hclos; exact ⟨_, _, .inr rfl, e2, hds, rfl⟩
                  · cases hclos
                · cases hclos
              obtain ⟨x2, s2, hx2, e2, hds2, rfl⟩ := key2
              obtain ⟨m3, k3⟩ := run_code hmx hC ih (hgok cg hgb) _ _ _ e2
              have hh' : h' = s2.h := by
                unfold resD at h2
                split at h2 <;> first | (cases h2; rfl) | cases h2
              subst hh'
              refine ⟨(m1.trans mt).trans m3, fun s0 U D ρ w hU gl hin rel => ?_⟩
              have hU1 : hh1.next ≤ U := Nat.le_trans m3.nxt hU
              refine callsIn_wide.1 (callsIn_of_wp_marks (F := Fence.wide) (n := 0) hf hb trivial ?_)
              refine k1 s0 U D ρ _ w _ (Nat.le_trans mt.nxt hU1) ⟨⟨⟨fun t u hu => (harg vs _ D ρ hin hle t u hu).1, fun t u hu => (harg vs _ D ρ hin hle t u hu).2, gl⟩⟩, rel, hsz _ _ _ hle, rfl, (fun d hd => by cases hd), rfl⟩ fun D1 ρ1 a1 w1 g1 n1 hi1 => ?_
              have leave : LeavesInM Fence.wide 0 P fn a1.tmps (FnPost s0 U D ρ h w v s2.h) a1.defers .returning w1 := by
                rw [g1.defs]
                refine leaves_takeT _ _ _ _ htake hU1 g1.rel g1.din fun w2 r2 n2 => ?_
                have hag2 := n2.agree g1.rel.lt hU1
                have hws : InDL (DD D1 ρ1) ws := hi1
                have ginit := GlobOK.next g1.fr.gl g1.rel.lt hU1 n2
                show LeavesInM Fence.wide 0 P fn a1.tmps (FnPost s0 U D ρ h w v s2.h) ({ target := .fn (.func g) (concL ρ1 ws).toArray, args := #[] } :: []) .returning w2
                refine ⟨by simp, .inr ⟨fun h => (by cases h), .func g, (concL ρ1 ws).toArray, g, (concL ρ1 ws).toArray, rfl, ?_, fun _ _ => trivial, ?_⟩⟩
                · show (invoke (.fn (.func g) (concL ρ1 ws).toArray) #[]).run P w2 = _
                  have := hge (concL ρ1 ws).toArray w2
                  simpa [invoke] using this
                · have cd := callsDIn_of_wp (F := Fence.wide) (n := 0 - 1) (P := P) (args := (concL ρ1 ws).toArray) (u := .returning) (w := w2) (R := fun e w' => (∃ x, e = .returned x) ∧ ∃ D3 ρ3, Rel s0 U D3 ρ3 s2.h w' ∧ Nxt D1 ρ1 hh1 w2 D3 ρ3 s2.h w') hgf hgb trivial (by
                    refine k3 s0 U none [] D1 ρ1 _ w2 _ hU ⟨⟨⟨fun t u hu => (harg ws _ D1 ρ1 hws hgle t u hu).1, fun t u hu => (harg ws _ D1 ρ1 hws hgle t u hu).2, ginit⟩⟩, r2, hsz _ _ _ hgle, rfl, (fun d hd => by cases hd), rfl⟩ fun D3 ρ3 a3 w3 g3 n3 => ?_
                    have hd3 : a3.defers = [] := by have := g3.defs; rw [hds2] at this; simpa using this
                    have hres : ∃ x, (results fg a3.tmps).run P w3 = .ok x w3 := ⟨.tuple #[], by simp [results, hgres]⟩
                    obtain ⟨x, hx⟩ := hres
                    have : a3.defers = [] ∧ ∃ x, (results fg a3.tmps).run P w3 = .ok x w3 ∧ ((∃ y, Ending.returned x = .returned y) ∧ ∃ D3 ρ3, Rel s0 U D3 ρ3 s2.h w3 ∧ Nxt D1 ρ1 hh1 w2 D3 ρ3 s2.h w3) := ⟨hd3, x, hx, ⟨x, rfl⟩, D3, ρ3, g3.rel, n3⟩
                    rcases hx2 with rfl | rfl <;> exact this)
                  refine cd.mono ?_
                  rintro e u' w3 ⟨rfl, ⟨x, rfl⟩, D3, ρ3, r3, n3⟩
                  have n23 := n2.trans g1.rel.lt hU n3
                  have gfr := g1.fr.next g1.rel.lt hU n23
                  obtain ⟨_, y, y1, y2, y3⟩ := resD_spec hC h2 gfr r3
                  exact ⟨y, y1, D3, ρ3, by rw [y2], r3, n1.trans rel.lt hU n23, y3⟩
              rcases hx with rfl | rfl <;> exact leave
            · cases hclos
          · cases hclos
        · cases h2
      · cases h2
  split at he
  · rename_i st d h1 h2
    obtain ⟨q1, q2⟩ := key _ _ _ (.inl rfl) h1 h2 he
    exact ⟨q1, hent, q2⟩
  · rename_i st d h1 h2
    obtain ⟨q1, q2⟩ := key _ _ _ (.inr rfl) h1 h2 he
    exact ⟨q1, hent, q2⟩
  · cases he
end
end Go.Proofs.YtmlemnbhjbaedaaGreatDoor
/-
  A function that may defer one call, reckoned fast. Nothing here speaks of a program.
-/
namespace Go.Proofs.YtmlemnbhjbaedaaGreatDoor
open Go.RowKit
set_option linter.unusedSimpArgs false
set_option linter.unusedVariables false
noncomputable def preDF (S : Self) (F : Flow) (C : Cfg) : Code → St → Option ((Exit × St) × Option (FuncId × List V))
  | .seq x y, st => match dferOf x with
    | some (t, g, caps) => match st.ds, evL C st.fr caps with
      | [], some vs => match evalCodeF S F C y ⟨putT st.fr (some t) (.fn g [] vs), st.h, [], st.rd⟩ with
        | some r => some (r, some (g, vs))
        | none => none
      | _, _ => none
    | none => match evalCodeF S F C x st with
      | some (.normal, st') => preDF S F C y st'
      | some r => some (r, none)
      | none => none
  | c, st => match evalCodeF S F C c st with
    | some r => some (r, none)
    | none => none
theorem preDF_eq (S : Self) (F : Flow) (C : Cfg) : ∀ c, preDF S F C c = preD S F C c := by
  intro c
  induction c with
  | seq x y _ ih =>
    funext st
    simp only [preDF, preD, evalCodeF_eq, ih]
    try rfl
  | _ =>
    funext st
    simp only [preDF, preD, evalCodeF_eq]
    try rfl
noncomputable def closDF (C : Cfg) (r : Four) (g : FuncId) (ws : List V) (h : Heap) : Option Heap := match C.fn g with
  | some fg => match fg.body, fg.results.toList, Nat.ble ws.length fg.ntmps with
    | some cg, [], true => match evalCodeF ⟨r.fn, r.yield⟩ ⟨r.loop, r.scope⟩ C cg ⟨argsT 0 ws .nil, h, [], false⟩ with
      | some (.normal, s2) => match s2.ds with
        | [] => some s2.h
        | _ => none
      | some (.ret, s2) => match s2.ds with
        | [] => some s2.h
        | _ => none
      | _ => none
    | _, _, _ => none
  | none => none
noncomputable def endDF (C : Cfg) (r : Four) (fn : Func) (st : St) : Option (FuncId × List V) → Option (V × Heap)
  | none => finV C fn st
  | some (g, ws) => match takeAll st.ds st.h with
    | some h1 => match closDF C r g ws h1 with
      | some h2 => resD C fn st.fr h2
      | none => none
    | none => none
noncomputable def runDF (C : Cfg) (n : Nat) (fn : Func) (c : Code) (vs : List V) (h : Heap) : Option (V × Heap) := match Nat.ble vs.length fn.ntmps, preDF ⟨(four C n).fn, (four C n).yield⟩ ⟨(four C n).loop, (four C n).scope⟩ C c ⟨argsT 0 vs .nil, h, [], false⟩ with
  | true, some ((.normal, st), d) => endDF C (four C n) fn st d
  | true, some ((.ret, st), d) => endDF C (four C n) fn st d
  | _, _ => none
theorem closDF_eq (C : Cfg) (n : Nat) (g : FuncId) (ws : List V) (h : Heap) : closDF C (four C n) g ws h = closD C n g ws h := by
  unfold closDF closD
  simp only [evalCodeF_eq, four_eq]
  try rfl
theorem endDF_eq (C : Cfg) (n : Nat) (fn : Func) (st : St) (d : Option (FuncId × List V)) : endDF C (four C n) fn st d = endD C n fn st d := by
  cases d with
  | none => rfl
  | some p =>
    obtain ⟨g, ws⟩ := p
    simp only [endDF, endD, closDF_eq]
    try rfl
theorem runDF_eq (C : Cfg) (n : Nat) (fn : Func) (c : Code) : runDF C n fn c = runD C n fn c := by
  funext vs h
  unfold runDF runD
  simp only [preDF_eq, endDF_eq]
  simp only [four_eq]
  try rfl
end Go.Proofs.YtmlemnbhjbaedaaGreatDoor
/-
  auto's ask: it defers one closure; known by its run.
-/
namespace Go.Proofs.YtmlemnbhjbaedaaGreatDoor
open Go.RowKit
noncomputable def askBody : Code := match Tryz.f46.body with
  | some c => c
  | none => .skip
noncomputable def askK : List V → Heap → Option (V × Heap) := runDF cfg2 3000 Tryz.f46 askBody
theorem askOK : KnownFn Tryz.prog cfg2 46 askK := by
  unfold askK
  rw [runDF_eq]
  exact known_defer mixed cfg2OK fns2OK known2OK Tryz.func46 (by kernel_rfl) (Go.Proofs.enters_of Tryz.func46 (by kernel_rfl) rfl) (by kernel_rfl)
noncomputable def known3T : Tr (List V → Heap → Option (V × Heap)) := known2T.set 46 (some askK)
noncomputable def cfg3 : Cfg := { cfg with known := fun f => known3T.get f }
theorem cfg3OK : CfgOK Tryz.prog cfg3 := ⟨cfgOK.ty, cfgOK.ext, cfgOK.mp, cfgOK.mt⟩
theorem fns3OK : FnsOK Tryz.prog cfg3 := fnsOK
theorem known3OK : KnownOK Tryz.prog cfg3 := fun f k hk => by
  have e : known3T.get f = if f = 46 then some askK else known2T.get f := by
    unfold known3T
    rw [Tr.get_set]
  have hk : known3T.get f = some k := hk
  rw [e] at hk
  split at hk
  · rename_i hf
    cases hk
    subst hf
    exact askOK
  · exact known2OK f k hk
end Go.Proofs.YtmlemnbhjbaedaaGreatDoor

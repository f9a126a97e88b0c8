/-
  The plain machine's tables, and the state from which a law's run starts. Nothing here speaks of a program.
-/
import Derived.Test.YtmlemnbhjbaedaaGreatDoorEFn
import Derived.Laws.Externs
import Derived.Shelf.Abstract
import Derived.MakeChecks
import Derived.OpenShut
import Derived.FnData
import Derived.KernelRfl
namespace Go.Proofs.YtmlemnbhjbaedaaGreatDoor
open Go.RowKit
set_option linter.unusedSimpArgs false
set_option linter.unusedVariables false

/-! ### values that name no block -/
mutual
noncomputable def bare : V → Bool
  | .ptr _ _ => false
  | .sl _ _ _ _ _ _ => false
  | .map _ => false
  | .yield _ => false
  | .fn _ a c => bareL a && bareL c
  | .iface _ v => bare v
  | .agg _ l => bareL l
  | .arr _ _ l => bareL l
  | .tup l => bareL l
  | .undef => true
  | .bool _ => true
  | .int _ _ => true
  | .str _ => true
  | .nilp => true
  | .nils => true
  | .nilm => true
  | .nilf => true
  | .nili => true
noncomputable def bareL : List V → Bool
  | [] => true
  | v :: l => bare v && bareL l
end
mutual
theorem bare_in {D : Nat → Nat → Prop} : ∀ {v : V}, bare v = true → InD D v
  | .ptr _ _, h => by simp [bare] at h
  | .sl _ _ _ _ _ _, h => by simp [bare] at h
  | .map _, h => by simp [bare] at h
  | .yield _, h => by simp [bare] at h
  | .fn _ a c, h => by simp only [bare, Bool.and_eq_true] at h; exact ⟨bareL_in h.1, bareL_in h.2⟩
  | .iface _ v, h => bare_in (v := v) h
  | .agg _ l, h => bareL_in (l := l) h
  | .arr _ _ l, h => bareL_in (l := l) h
  | .tup l, h => bareL_in (l := l) h
  | .undef, _ => trivial
  | .bool _, _ => trivial
  | .int _ _, _ => trivial
  | .str _, _ => trivial
  | .nilp, _ => trivial
  | .nils, _ => trivial
  | .nilm, _ => trivial
  | .nilf, _ => trivial
  | .nili, _ => trivial
theorem bareL_in {D : Nat → Nat → Prop} : ∀ {l : List V}, bareL l = true → InDL D l
  | [], _ => trivial
  | v :: l, h => by simp only [bareL, Bool.and_eq_true] at h; exact ⟨bare_in h.1, bareL_in h.2⟩
end
theorem zin_of {v : V} (h : bare v = true) : InD (fun _ _ => False) v := bare_in h

/-! ### tables -/
theorem other_of {P : Program} {t : TypeId} (h : (P.underlying t).map (fun d => match d with | .struct _ => false | .array _ _ => false | .interface _ => false | _ => true) = some true) : TyD.Is P t .other := by
  unfold TyD.Is
  cases hu : P.underlying t with
  | none => rw [hu] at h; cases h
  | some d => rw [hu] at h; cases d <;> simp_all
theorem iface_of {P : Program} {t : TypeId} (h : (P.underlying t).map (fun d => match d with | .interface _ => true | _ => false) = some true) : TyD.Is P t .iface := by
  unfold TyD.Is
  cases hu : P.underlying t with
  | none => rw [hu] at h; cases h
  | some d => rw [hu] at h; cases d <;> simp_all

structure FnOK (P : Program) (f : FuncId) (fn : Func) : Prop where
  at_ : P.funcs[f]? = some fn
  ent : ∀ args w, (callFunc f args).run P w = .ok (.enter f args) w
  ok : (match fn.body with | some c => codeOK fn.ntmps c | none => true) = true
theorem fnsOK_of {P : Program} {C : Cfg} (h : ∀ f fn, C.fn f = some fn → FnOK P f fn) : FnsOK P C := fun f fn hf => by
  obtain ⟨h1, h2, h3⟩ := h f fn hf
  refine ⟨h1, h2, fun c hc => ?_⟩
  rw [hc] at h3
  exact h3
noncomputable def ExtOK (P : Program) (f : FuncId) (e : List V → Option V) : Prop := ∀ ρ vs v, e vs = some v → (∀ w, (callFunc f (concL ρ vs).toArray).run P w = .ok (.value (conc ρ v)) w) ∧ ∀ D, InDL D vs → InD D v
theorem add64_ok {P : Program} {f : FuncId} (hrun : ∀ args w, (callFunc f args).run P w = ((add64Entry args).run P w).andThen fun v w' => .ok (.value v) w') : ExtOK P f add64V := by
  intro ρ vs v h
  unfold add64V at h
  split at h
  · rename_i x y c
    split at h
    · rename_i hc
      have hc := Nat.le_of_ble_eq_true hc
      cases h
      refine ⟨fun w => ?_, fun D _ => ⟨trivial, trivial, trivial⟩⟩
      rw [hrun]
      simp only [concL, conc]
      rw [run_add64 _ _ _ (by simp) (by simp) (by simp) (by simp only [Int.ofNat_eq_natCast]; omega)]
      simp only [Result.andThen]
      congr 4
    · cases h
  · cases h

/-! ### from where a law's run starts -/
/-- the listed variables where they lie, and nothing else -/
noncomputable def rho0 (K : Nat) : Env := ⟨fun i => i, fun _ => 0, fun _ => K, fun i => i⟩
theorem rel_start {h : Heap} {w : World} {K U : Nat} (hwf : ∀ i, h.next ≤ i → h.get i = none) (hU : h.next ≤ U)
    (hg : ∀ i b, h.get i = some b → ∃ v cs ty fz, b = .ro v ∧ bare v = true ∧ v.size ≤ K ∧ w.heap[i]? = some (.cells cs ty fz) ∧ cs.toList = cellsV (rho0 K) v) : Rel w U (fun i => i < h.next) (rho0 K) h w := by
  refine ⟨fun i hi => .inl hi, hwf, fun i b _ hb => ?_, fun i b _ hb => ?_, fun i j b c _ _ hb _ ho => ?_, fun i b _ hb ho => ?_, fun i j b c _ _ _ hc _ ho => ?_, Below.refl _ _⟩
  · obtain ⟨v, cs, ty, fz, rfl, h1, h2, h3, h4⟩ := hg i b hb
    refine ⟨_, h3, [], [], ty, fz, ?_, rfl, h2⟩
    congr 1
    apply Array.toList_inj.1
    simp [h4]
  · obtain ⟨v, cs, ty, fz, rfl, h1, h2, h3, h4⟩ := hg i b hb
    exact bare_in h1
  · obtain ⟨v, cs, ty, fz, rfl, _⟩ := hg i b hb
    cases ho
  · obtain ⟨v, cs, ty, fz, rfl, _⟩ := hg i b hb
    cases ho
  · obtain ⟨v, cs, ty, fz, rfl, _⟩ := hg j c hc
    cases ho
theorem glob_start {C : Cfg} {h : Heap} {K : Nat} (hc : ∀ g, C.glob g = true → g < h.next) : GlobOK C (DD (fun i => i < h.next) (rho0 K)) (rho0 K) := fun g hg => ⟨⟨hc g hg, Nat.zero_le _⟩, rfl, rfl⟩
/-- the answer is true -/
noncomputable def isT : Option (V × Heap) → Nat
  | some (.bool true, _) => 1
  | _ => 0
/-- **a law without arguments, by its run** -/
theorem law0 {P : Program} {C : Cfg} (hmx : P.follows .mixedOrders = true) (hC : CfgOK P C) (hF : FnsOK P C) (hK : KnownOK P C) {n : Nat} {f : FuncId} {h : Heap} {K : Nat} (hr : isT (runFn C n f [] h) = 1) (hc : ∀ g, C.glob g = true → g < h.next) {w : World} (hrel : ∀ U, h.next ≤ U → Rel w U (fun i => i < h.next) (rho0 K) h w) :
    Calls P f #[] w fun e w' => e = .returned (.bool true) ∧ Below w.heap.size w w' := by
  unfold isT at hr
  split at hr
  · rename_i h' he
    have hm := (run_ok hmx hC hF hK n).self.fnMono _ _ _ _ _ he
    have := run_calls hmx hC hF hK he (glob_start hc) trivial (hrel _ hm.nxt)
    refine this.mono fun e w' => ?_
    rintro ⟨D', ρ', rfl, hb, _⟩
    exact ⟨rfl, hb⟩
  · cases hr
/-- a listed table of numbers -/
theorem trod_tab {H : Type} {enc : TypeId × Value → H} {P : Program} {w : World} {base : Nat} {spare : Nat → Bool} {held : Bool} {fuel : Nat} {t e : TypeId} {n : Nat} {k : IntKind} {cs : List Value} {ns : List Int} {p : List MemPlace}
    (ht : P.underlying t = some (.array n e)) (he : P.underlying e = some (.int k)) (hc : P.cellsOf e = 1) (hct : P.cellsOf t = n) (hn : ns.length = n)
    (h : DataW.trod enc P w base spare held fuel t cs = some (.agg (ns.map fun z => .lit (.int k z)), p)) : cs = ns.map fun z => .int k z := by
  obtain ⟨xs, m, rfl, hx, hl, hxl, hel⟩ := DataW.trod_array ht h
  simp only [Prod.mk.injEq, DataW.agg.injEq] at hx
  have hx := hx.1
  rw [hct] at hl
  apply List.ext_getElem?
  intro i
  by_cases hi : i < n
  · have h1 := hel i hi
    rw [hc, Nat.mul_one] at h1
    obtain ⟨x, hxi⟩ : ∃ x, xs[i]? = some x := ⟨_, List.getElem?_eq_getElem (by omega)⟩
    rw [hxi] at h1
    obtain ⟨z, g1, g2, _⟩ := DataW.trod_int he h1
    have h2 : (ns.map fun z => (DataW.lit (.int k z) : DataW H))[i]? = (xs.map (·.1))[i]? := by rw [hx]
    rw [List.getElem?_map, List.getElem?_map, hxi, g2] at h2
    obtain ⟨z', hz'⟩ : ∃ z, ns[i]? = some z := ⟨_, List.getElem?_eq_getElem (by omega)⟩
    rw [hz'] at h2
    simp at h2
    subst h2
    have h3 : cs[i]? = some (.int k z') := by
      have := congrArg (·[0]?) g1
      simp only [List.getElem?_take_of_lt (Nat.zero_lt_one), List.getElem?_drop, Nat.add_zero] at this
      simpa using this
    rw [h3, List.getElem?_map, hz']; rfl
  · rw [List.getElem?_eq_none (by omega), List.getElem?_eq_none (by simp; omega)]
/-- a method of a value that an interface holds: its receiver is the value as it is -/
noncomputable def recvOK (d : Option TypeDesc) (pr : Bool) : Bool := match d with
  | some (.pointer _) => pr
  | some _ => !pr
  | none => false
theorem mt_of {P : Program} {t : TypeId} {m : String} {f : FuncId} {inf : TypeInfo} {M : Method} {pr : Bool} (hi : P.info? t = some inf) (hm : inf.methods.find? (fun x => x.name == m) = some M) (hp : M.path = #[]) (hf : M.func = some (f, pr)) (hu : recvOK (P.underlying t) pr = true) (v : Value) (args : Array Value) (w : World) :
    (callMethod (.iface t v) m args).run P w = (callFunc f (#[v] ++ args)).run P w := by
  have key : ∀ n, (method (n + 1) t v m).run P w = .ok (f, v) w := fun n => by
    unfold method
    cases hd : P.underlying t with
    | none => rw [hd] at hu; cases hu
    | some d =>
      rw [hd] at hu
      have hT : (typeInfo t).run P w = .ok inf w := by simp [typeInfo, hi]
      have hF : (follow M.path.toList t (.val v)).run P w = .ok (t, .val v) w := by rw [hp]; simp [follow]
      have hR : (receiverAt t (.val v) pr (if M.path.isEmpty then some ((m.splitOn ".").getLastD m) else none)).run P w = .ok v w := by
        cases d <;> cases pr <;> simp [recvOK] at hu <;> simp [receiverAt, run_underlying hd, Place.get]
      simp only [Sem.run_bind, hT, Result.andThen_ok, hm, hF, hf, hR, Sem.run_pure]
  have hP : (Go.program : Sem Program).run P w = .ok P w := rfl
  unfold callMethod
  simp only [Sem.run_bind, hP, Result.andThen_ok, Made.depth, key]
theorem mt_of2 {P : Program} {t : TypeId} {m : String} {f : FuncId} {pr : Bool} (h : (((P.info? t).bind fun i => i.methods.find? fun x => x.name == m).bind fun M => match M.path.toList with
      | [] => M.func
      | _ => none) = some (f, pr)) (hu : recvOK (P.underlying t) pr = true) (v : Value) (args : Array Value) (w : World) : (callMethod (.iface t v) m args).run P w = (callFunc f (#[v] ++ args)).run P w := by
  cases hi : P.info? t with
  | none => rw [hi] at h; cases h
  | some inf =>
    rw [hi] at h
    simp only [Option.bind_some] at h
    cases hm : inf.methods.find? fun x => x.name == m with
    | none => rw [hm] at h; cases h
    | some M =>
      rw [hm] at h
      simp only [Option.bind_some] at h
      split at h
      · rename_i hp
        exact mt_of hi hm (by apply Array.toList_inj.1; simpa using hp) h hu v args w
      · cases h
noncomputable def mtLook : List (String × FuncId) → String → Option FuncId
  | [], _ => none
  | p :: l, m => match decide (p.1 = m) with
    | true => some p.2
    | false => mtLook l m
noncomputable def MtOK (P : Program) (t : TypeId) (l : List (String × FuncId)) : Prop := ∀ m f, mtLook l m = some f → ∀ v args w, (callMethod (.iface t v) m args).run P w = (callFunc f (#[v] ++ args)).run P w
theorem mtok_nil {P : Program} {t : TypeId} : MtOK P t [] := fun m f h => by cases h
theorem mtok_cons {P : Program} {t : TypeId} {n : String} {g : FuncId} {l : List (String × FuncId)} (h : ∀ v args w, (callMethod (.iface t v) n args).run P w = (callFunc g (#[v] ++ args)).run P w) (hl : MtOK P t l) : MtOK P t ((n, g) :: l) := fun m f hm => by
  unfold mtLook at hm
  split at hm
  · rename_i e
    have e := of_decide_eq_true e
    cases hm
    rw [← e]; exact h
  · exact hl m f hm
noncomputable def mtOf (T : Tr (List (String × FuncId))) (t : TypeId) (m : String) : Option FuncId := match T.get t with
  | some l => mtLook l m
  | none => none
theorem mtOf_ok {P : Program} {T : Tr (List (String × FuncId))} (h : ∀ t l, T.get t = some l → MtOK P t l) (t : TypeId) (m : String) (f : FuncId) (hm : mtOf T t m = some f) (v : Value) (args : Array Value) (w : World) : (callMethod (.iface t v) m args).run P w = (callFunc f (#[v] ++ args)).run P w := by
  unfold mtOf at hm
  split at hm
  · rename_i l hl; exact h t l hl m f hm v args w
  · cases hm
theorem known_none {P : Program} {C : Cfg} (h : ∀ f, C.known f = none) : KnownOK P C := fun f k hk => by rw [h f] at hk; cases hk
end Go.Proofs.YtmlemnbhjbaedaaGreatDoor

/-
  The engine's laws once more, in the short form in which a walk's text calls them. Nothing here speaks of a program.
-/
import Derived.Test.YtmlemnbhjbaedaaGreatDoorFun
import Derived.KernelRfl
namespace Go.Proofs.YtmlemnbhjbaedaaGreatDoor
open Go.RowKit
set_option linter.unusedSimpArgs false
set_option linter.unusedVariables false

def chk (N : Nat) (ops : Array Oper) (fr : Fr) (o : Oper) : Option Bool := if noDefer o && dstOk N o.dst then gd ops fr o else none
theorem chk_spec {N : Nat} {ops : Array Oper} {fr : Fr} {o : Oper} {c : Bool} (h : chk N ops fr o = some c) : noDefer o = true ∧ dstOk N o.dst = true ∧ gd ops fr o = some c := by
  unfold chk at h
  split at h
  · rename_i hc; simp only [Bool.and_eq_true] at hc; exact ⟨hc.1, hc.2, h⟩
  · cases h
/-- what only hands a value on -/
def pureOp (fr : Fr) : Op → Option Value
  | .move x => ev fr x
  | .assign x => ev fr x
  | .pick c x y => match ev fr c with
    | some (.bool true) => ev fr x
    | some (.bool false) => ev fr y
    | _ => none
  | .extract x i => match ev fr x with
    | some (.tuple vs) => vs[i]?
    | _ => none
  | .unOp .not _ x => match ev fr x with
    | some (.bool b) => some (.bool (!b))
    | _ => none
  | .nilCheck x => match ev fr x with
    | some (.pointer (some a)) => some (.pointer (some a))
    | some (.slice a l c) => some (.slice a l c)
    | _ => none
  | .makeFunc fn fi ca => match fi.toList.mapM (ev fr), ca.toList.mapM (ev fr) with
    | some vf, some vc => some (.func fn vf.toArray vc.toArray)
    | _, _ => none
  | _ => none
theorem pure_rd {P : Program} {fr : Fr} {H : Hp} {S : List World} {o : Oper} {v : Value} (h : pureOp fr o.op = some v) : RD P o fr H S v := by
  obtain ⟨dst, op, ty, pos, aft, g⟩ := o
  simp only at h
  cases op <;> try (simp [pureOp] at h; done)
  case move x => exact rd_move h
  case assign x => exact rd_assign h
  case pick c x y =>
    simp only [pureOp] at h
    split at h
    · rename_i hc; exact rd_pick_true hc h
    · rename_i hc; exact rd_pick_false hc h
    · cases h
  case extract x i =>
    simp only [pureOp] at h
    split at h
    · rename_i vs hx; exact rd_extract hx h
    · cases h
  case unOp u t x =>
    cases u <;> simp only [pureOp] at h <;> try (cases h; done)
    split at h
    · rename_i b hx; simp only [Option.some.injEq] at h; subst h; exact rd_not hx rfl
    · cases h
  case nilCheck x =>
    simp only [pureOp] at h
    split at h
    · rename_i a hx; simp only [Option.some.injEq] at h; subst h; exact rd_nilCheck hx
    · rename_i a l c hx
      simp only [Option.some.injEq] at h; subst h
      exact fun _ _ ac w ha _ => .inl (by simp [execOp, ha.ev hx])
    · cases h
  case makeFunc fn fi ca =>
    simp only [pureOp] at h
    split at h
    · rename_i vf vc hf hc; simp only [Option.some.injEq] at h; subst h; exact rd_makeFunc hf hc
    · cases h
section
variable {P : Program} {r : Option Nat} {N : Nat} {ds : List Deferred} {ops : Array Oper} {Q : Exit → Act → World → Prop} {fr : Fr} {H H' : Hp} {S : List World} {l : List Oper}
variable {t : Tmp} {op : Op} {ty : TypeId} {pos : String} {aft : Array Edge} {g : Option (Nat × Bool)}
theorem o_r {v : Value} (hc : chk N ops fr ⟨some t, op, ty, pos, aft, g⟩ = some true) (h1 : RD P ⟨some t, op, ty, pos, aft, g⟩ fr H S v) (h : OW P r N ds ops l Q ((t, v) :: fr) H S) : OW P r N ds ops (⟨some t, op, ty, pos, aft, g⟩ :: l) Q fr H S :=
  ow_rd (chk_spec hc).2.2 (chk_spec hc).1 (chk_spec hc).2.1 h1 h
theorem o_p {v : Value} (hc : chk N ops fr ⟨some t, op, ty, pos, aft, g⟩ = some true) (hp : pureOp fr op = some v) (h : OW P r N ds ops l Q ((t, v) :: fr) H S) : OW P r N ds ops (⟨some t, op, ty, pos, aft, g⟩ :: l) Q fr H S := o_r hc (pure_rd hp) h
theorem o_k (hc : chk N ops fr ⟨some t, op, ty, pos, aft, g⟩ = some false) (h : OW P r N ds ops l Q ((t, undef) :: fr) H S) : OW P r N ds ops (⟨some t, op, ty, pos, aft, g⟩ :: l) Q fr H S := ow_skip (chk_spec hc).2.2 (chk_spec hc).2.1 h
theorem o_k0 (hc : chk N ops fr ⟨none, op, ty, pos, aft, g⟩ = some false) (h : OW P r N ds ops l Q fr H S) : OW P r N ds ops (⟨none, op, ty, pos, aft, g⟩ :: l) Q fr H S := ow_skip (chk_spec hc).2.2 (chk_spec hc).2.1 h
theorem o_w {v : Value} (hc : chk N ops fr ⟨none, op, ty, pos, aft, g⟩ = some true) (h1 : WR P ⟨none, op, ty, pos, aft, g⟩ fr H S v H') (h : OW P r N ds ops l Q fr H' S) : OW P r N ds ops (⟨none, op, ty, pos, aft, g⟩ :: l) Q fr H S :=
  ow_wr (chk_spec hc).2.2 (chk_spec hc).1 (chk_spec hc).2.1 h1 h
theorem o_a {f : Nat → Value} {ob : Obj} (hc : chk N ops fr ⟨some t, op, ty, pos, aft, g⟩ = some true) (h1 : AL P ⟨some t, op, ty, pos, aft, g⟩ fr H S f ob) (h : ∀ b, Fresh b H S → OW P r N ds ops l Q ((t, f b) :: fr) ((b, ob) :: H) S) : OW P r N ds ops (⟨some t, op, ty, pos, aft, g⟩ :: l) Q fr H S :=
  ow_al (chk_spec hc).2.2 (chk_spec hc).1 (chk_spec hc).2.1 h1 h
theorem o_c {x : Operand} {xs : List Operand} {ats : Array TypeId} {f : FuncId} {fi ca : Array Value} {vs : List Value} {args : Array Value} (hc : chk N ops fr ⟨some t, .call ⟨.value x, xs.toArray, ats⟩, ty, pos, aft, g⟩ = some true)
    (hx : ev fr x = some (.func (.func f) fi ca)) (hxs : xs.mapM (ev fr) = some vs) (he : ∀ args w, (callFunc f args).run P w = .ok (.enter f args) w) (hargs : fi ++ vs.toArray ++ ca = args)
    (h : ∀ w, Kn w H S → Calls P f args w fun e w' => ∃ v H' S', e = .returned v ∧ Kn w' H' S' ∧ OW P r N ds ops l Q ((t, v) :: fr) H' S') :
    OW P r N ds ops (⟨some t, .call ⟨.value x, xs.toArray, ats⟩, ty, pos, aft, g⟩ :: l) Q fr H S :=
  ow_call (chk_spec hc).2.2 (chk_spec hc).2.1 hx hxs he hargs h
end
section
variable {P : Program} {fn : Func} {c : Code} {f : FuncId} {vs : List Value} {fr0 : Fr} {w : World} {R : Ending → World → Prop} {H : Hp} {S : List World}
theorem enter (hf : P.funcs[f]? = some fn) (hb : fn.body = some c) (hN : vs.length ≤ fn.ntmps) (hk : Kn w H S) (hfr : argF 0 vs = fr0) {n : Nat} (hn : fn.ntmps = n) (h : CW P none n [] c (bodyPost P fn R) fr0 H S) : Calls P f vs.toArray w R := by
  subst hfr; subst hn; exact calls_cw hf hb hN hk h
theorem enterM (hf : P.funcs[f]? = some fn) (hb : fn.body = some c) (hN : vs.length ≤ fn.ntmps) (hk : Kn w H S) (hfr : argF 0 vs = fr0) {n : Nat} (hn : fn.ntmps = n) (h : CW P none n [] c (bodyPostM Fence.wide 0 P fn R) fr0 H S) : Calls P f vs.toArray w R := by
  subst hfr; subst hn; exact calls_cwm hf hb hN hk h
variable {N : Nat} {fr : Fr} {e : Exit} (he : e = .ret ∨ e = .normal)
include he
theorem fin0 (h : fn.results = #[]) (hR : ∀ w, Kn w H S → R (.returned (.tuple #[])) w) : QW N [] (bodyPost P fn R) e fr H S :=
  finN he (rvs := []) (vs := []) h (by simp) trivial hR
theorem fin2 {r1 r2 : ResultVar} {v1 v2 : Value} (h : fn.results = #[r1, r2]) (h1 : ResIs P fr H S r1 v1) (h2 : ResIs P fr H S r2 v2) (hR : ∀ w, Kn w H S → R (.returned (.tuple #[v1, v2])) w) : QW N [] (bodyPost P fn R) e fr H S :=
  finN he (rvs := [_, _]) (vs := [_, _]) h (by simp) ⟨h1, h2, trivial⟩ hR
theorem fin3 {r1 r2 r3 : ResultVar} {v1 v2 v3 : Value} (h : fn.results = #[r1, r2, r3]) (h1 : ResIs P fr H S r1 v1) (h2 : ResIs P fr H S r2 v2) (h3 : ResIs P fr H S r3 v3) (hR : ∀ w, Kn w H S → R (.returned (.tuple #[v1, v2, v3])) w) : QW N [] (bodyPost P fn R) e fr H S :=
  finN he (rvs := [_, _, _]) (vs := [_, _, _]) h (by simp) ⟨h1, h2, h3, trivial⟩ hR
theorem fin4 {r1 r2 r3 r4 : ResultVar} {v1 v2 v3 v4 : Value} (h : fn.results = #[r1, r2, r3, r4]) (h1 : ResIs P fr H S r1 v1) (h2 : ResIs P fr H S r2 v2) (h3 : ResIs P fr H S r3 v3) (h4 : ResIs P fr H S r4 v4) (hR : ∀ w, Kn w H S → R (.returned (.tuple #[v1, v2, v3, v4])) w) : QW N [] (bodyPost P fn R) e fr H S :=
  finN he (rvs := [_, _, _, _]) (vs := [_, _, _, _]) h (by simp) ⟨h1, h2, h3, h4, trivial⟩ hR
end
/-! the same within a region that draws -/
def nodupB : List Nat → Bool
  | [] => true
  | x :: l => !l.contains x && nodupB l
theorem nodupB_spec : ∀ l, nodupB l = true → l.Nodup
  | [], _ => List.nodup_nil
  | x :: l, h => by
    simp only [nodupB, Bool.and_eq_true, Bool.not_eq_true', List.contains_eq_mem, decide_eq_false_iff_not] at h
    exact List.nodup_cons.2 ⟨h.1, nodupB_spec l h.2⟩
section
variable {P : Program} {r : Option Nat} {N : Nat} {ds : List Deferred} {ops : Array Oper} {fr : Fr} {H : Hp} {S : List World} {l : List Oper} {K : List Oper → Acc → Prop} {m : Nat} {acc : Acc}
variable {t : Tmp} {op : Op} {ty : TypeId} {pos : String} {aft : Array Edge} {g : Option (Nat × Bool)}
theorem f_r {v : Value} (hc : gd ops (frS ops ⟨some t, op, ty, pos, aft, g⟩ acc fr) ⟨some t, op, ty, pos, aft, g⟩ = some true) (h1 : RD P ⟨some t, op, ty, pos, aft, g⟩ (frS ops ⟨some t, op, ty, pos, aft, g⟩ acc fr) H S v) (h : FW P N ds ops fr H S K m l ((t, .val v) :: acc)) :
    FW P N ds ops fr H S K (m + 1) (⟨some t, op, ty, pos, aft, g⟩ :: l) acc := fw_rd hc h1 h
theorem f_p {v : Value} (hc : gd ops (frS ops ⟨some t, op, ty, pos, aft, g⟩ acc fr) ⟨some t, op, ty, pos, aft, g⟩ = some true) (hp : pureOp (frS ops ⟨some t, op, ty, pos, aft, g⟩ acc fr) op = some v) (h : FW P N ds ops fr H S K m l ((t, .val v) :: acc)) :
    FW P N ds ops fr H S K (m + 1) (⟨some t, op, ty, pos, aft, g⟩ :: l) acc := fw_rd hc (pure_rd hp) h
theorem f_k (hc : gd ops (frS ops ⟨some t, op, ty, pos, aft, g⟩ acc fr) ⟨some t, op, ty, pos, aft, g⟩ = some false) (h : FW P N ds ops fr H S K m l ((t, .val undef) :: acc)) :
    FW P N ds ops fr H S K (m + 1) (⟨some t, op, ty, pos, aft, g⟩ :: l) acc := fw_skip hc h
theorem f_c {x : Operand} {xs : List Operand} {ats : Array TypeId} {f : FuncId} {fi ca : Array Value} {vs : List Value} {args : Array Value} {v : Value}
    (hg : gd ops (frS ops ⟨some t, .call ⟨.value x, xs.toArray, ats⟩, ty, pos, aft, g⟩ acc fr) ⟨some t, .call ⟨.value x, xs.toArray, ats⟩, ty, pos, aft, g⟩ = some true)
    (hx : ev (frS ops ⟨some t, .call ⟨.value x, xs.toArray, ats⟩, ty, pos, aft, g⟩ acc fr) x = some (.func (.func f) fi ca))
    (hxs : xs.mapM (ev (frS ops ⟨some t, .call ⟨.value x, xs.toArray, ats⟩, ty, pos, aft, g⟩ acc fr)) = some vs) (he : ∀ args w, (callFunc f args).run P w = .ok (.enter f args) w) (hargs : fi ++ vs.toArray ++ ca = args)
    (h : ∀ w, Kn w H S → Calls P f args w fun e w' => e = .returned v ∧ Below w.heap.size w w')
    (hr : FW P N ds ops fr H S K m l ((t, .val v) :: acc)) : FW P N ds ops fr H S K (m + 1) (⟨some t, .call ⟨.value x, xs.toArray, ats⟩, ty, pos, aft, g⟩ :: l) acc := fw_call hg hx hxs he hargs h hr
theorem f_end {Q : Exit → Act → World → Prop} {tail : List Oper} {fr0 : Fr} (hn : nodupB (acc.map (·.1)) = true) (h : EndFW P r N ds ops Q H S tail acc fr0 (fun _ => True)) :
    FW P N ds ops fr H S (fun tail acc => (acc.map (·.1)).Nodup ∧ EndFW P r N ds ops Q H S tail acc fr0 (fun _ => True)) 0 tail acc := ⟨nodupB_spec _ hn, h⟩
end
theorem fresh_iff {b : Nat} {H : Hp} {S : List World} : Fresh b H S ↔ (∀ s ∈ S, s.heap.size ≤ b) ∧ (∀ k ∈ keysOf H, k < b) := ⟨fun h => ⟨h.1, h.2⟩, fun h => ⟨h.1, h.2⟩⟩
/-! arithmetic -/
def arOf : BinOp → Int → Int → Option Int
  | .add, m, n => some (m + n)
  | .sub, m, n => some (m - n)
  | .mul, m, n => some (m * n)
  | _, _, _ => none
inductive Cmp where | lss | leq | gtr | geq | eql | neq
def cmpOf : BinOp → Option Cmp
  | .lss => some .lss | .leq => some .leq | .gtr => some .gtr | .geq => some .geq | .eql => some .eql | .neq => some .neq
  | _ => none
abbrev cmpP : Cmp → Int → Int → Prop
  | .lss, m, n => m < n
  | .leq, m, n => m ≤ n
  | .gtr, m, n => n < m
  | .geq, m, n => n ≤ m
  | .eql, m, n => m = n
  | .neq, m, n => ¬ m = n
instance (c : Cmp) (m n : Int) : Decidable (cmpP c m n) := by cases c <;> unfold cmpP <;> infer_instance
theorem cmp_t {c : Cmp} {m n : Int} (h : cmpP c m n) : decide (cmpP c m n) = true := decide_eq_true h
theorem cmp_f {c : Cmp} {m n : Int} (h : ¬ cmpP c m n) : decide (cmpP c m n) = false := decide_eq_false h
section
variable {P : Program} {fr : Fr} {H : Hp} {S : List World} {dst : Option Tmp} {ty : TypeId} {pos : String} {aft : Array Edge} {g : Option (Nat × Bool)}
variable {x y : Operand} {k : IntKind} {m n e z : Int} {t1 t2 : TypeId}
theorem r_ar {op : BinOp} (hx : ev fr x = some (.int k m)) (hy : ev fr y = some (.int k n)) (hz : arOf op m n = some z) (he : k.wrap z = e) : RD P ⟨dst, .binOp op t1 x y t2, ty, pos, aft, g⟩ fr H S (.int k e) := by
  cases op <;> simp only [arOf, Option.some.injEq] at hz <;> try (cases hz; done)
  all_goals subst hz
  · exact rd_add hx hy he
  · exact rd_sub hx hy he
  · exact rd_mul hx hy he
theorem r_cmp {op : BinOp} {c : Cmp} {b : Bool} (hx : ev fr x = some (.int k m)) (hy : ev fr y = some (.int k n)) (hc : cmpOf op = some c) (hb : decide (cmpP c m n) = b) : RD P ⟨dst, .binOp op t1 x y t2, ty, pos, aft, g⟩ fr H S (.bool b) := by
  subst hb
  cases op <;> simp only [cmpOf, Option.some.injEq] at hc <;> try (cases hc; done)
  all_goals subst hc
  · exact rd_eql hx hy rfl
  · exact rd_neq hx hy rfl
  · exact rd_lss hx hy rfl
  · exact rd_leq hx hy rfl
  · exact rd_gtr hx hy rfl
  · exact rd_geq hx hy rfl
end
end Go.Proofs.YtmlemnbhjbaedaaGreatDoor

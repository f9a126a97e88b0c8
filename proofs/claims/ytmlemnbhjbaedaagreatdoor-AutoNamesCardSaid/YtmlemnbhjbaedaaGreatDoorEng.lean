/-
  The engine: what is known of a frame and of the heap as lists; one law for each form of code. Nothing here speaks of a program.
-/
import Derived.RangeFuncLeaves
import Derived.RangeFuncCalls
import Derived.RangeFuncFrom
import Derived.Below
import Derived.Scope
import Derived.Deep.Draws
import Derived.OrdersIn
import Derived.TacticsIn
import Derived.Test.YtmlemnbhjbaedaaGreatDoorRow
namespace Go.Proofs.YtmlemnbhjbaedaaGreatDoor
open Go.RowKit
set_option linter.unusedSimpArgs false
set_option linter.unusedVariables false

/-! ### the fence: none, or within a round -/
def FF : Option Nat → Fence
  | none => Fence.wide
  | some l => Fence.wide.inRound l
theorem FF_fn (r : Option Nat) (f : FuncId) : (FF r).fn f := by cases r <;> trivial
theorem FF_depth (r : Option Nat) : (FF r).depth = none := by cases r <;> rfl
theorem FF_round (r : Option Nat) : (FF r).round = r := by cases r <;> rfl
theorem callsFF {r : Option Nat} {P : Program} {f : FuncId} {args : Array Value} {w : World} {R : Ending → World → Prop} (h : Calls P f args w R) : CallsIn (FF r) 0 P f args w R := by
  cases r with
  | none => exact callsIn_wide.2 h
  | some l => exact CallsIn.inRound l (callsIn_wide.2 h)

/-! ### what is known of a frame -/
abbrev Fr := List (Nat × Value)
structure Ag (N : Nat) (ds : List Deferred) (a : Act) (fr : Fr) : Prop where
  size : a.tmps.size = N
  defs : a.defers = ds
  at_ : ∀ t v, fr.lookup t = some v → a.tmps[t]? = some v
theorem Ag.put {N : Nat} {ds : List Deferred} {a : Act} {fr : Fr} (h : Ag N ds a fr) {t : Nat} (ht : t < N) (v : Value) : Ag N ds (a.put (some t) v) ((t, v) :: fr) := by
  refine ⟨by simp [Act.put, h.size], by simp [Act.put, h.defs], fun u x hu => ?_⟩
  simp only [List.lookup_cons] at hu
  simp only [Act.put, Array.getElem?_setIfInBounds]
  by_cases e : u = t
  · subst e
    simp at hu
    simp [h.size, ht, hu]
  · have e1 : (u == t) = false := by simpa using e
    rw [e1] at hu
    have hne : ¬ t = u := fun e' => e e'.symm
    rw [if_neg hne]
    exact h.at_ u x hu
def ev (fr : Fr) : Operand → Option Value
  | .tmp t => fr.lookup t
  | .const v => some v
  | .global g => some (.pointer (some ⟨g, 0, none⟩))
  | .func f => some (.func (.func f) #[] #[])
theorem Ag.ev {N : Nat} {ds : List Deferred} {a : Act} {fr : Fr} (h : Ag N ds a fr) {x : Operand} {v : Value} (hx : ev fr x = some v) : a.eval x = v := by
  cases x with
  | tmp t => have := h.at_ t v hx; simp [Act.eval, this]
  | const c => simp [Go.Proofs.YtmlemnbhjbaedaaGreatDoor.ev] at hx; exact hx
  | global g => simp [Go.Proofs.YtmlemnbhjbaedaaGreatDoor.ev] at hx; exact hx
  | func f => simp [Go.Proofs.YtmlemnbhjbaedaaGreatDoor.ev] at hx; exact hx
/-- less is known -/
def FrLe : Fr → Fr → Prop
  | [], _ => True
  | p :: r, fr => fr.lookup p.1 = some p.2 ∧ FrLe r fr
theorem FrLe.at_ : ∀ {fr fr' : Fr}, FrLe fr fr' → ∀ t v, fr.lookup t = some v → fr'.lookup t = some v
  | [], _, _, t, v, hl => by simp at hl
  | (u, x) :: r, fr', h, t, v, hl => by
    simp only [List.lookup_cons] at hl
    by_cases e : t = u
    · subst e
      simp at hl
      subst hl
      exact h.1
    · have e' : (t == u) = false := by simpa using e
      rw [e'] at hl
      exact FrLe.at_ h.2 t v hl
theorem Ag.le {N : Nat} {ds : List Deferred} {a : Act} {fr fr' : Fr} (h : Ag N ds a fr') (hl : FrLe fr fr') : Ag N ds a fr := ⟨h.size, h.defs, fun t v e => h.at_ t v (hl.at_ t v e)⟩

/-! ### what is known of the heap -/
abbrev Hp := List (Nat × Obj)
def keysOf (H : Hp) : List Nat := H.map (·.1)
/-- a world behind another one: nothing that lay there has turned but for the blocks named -/
structure Keep (X : List Nat) (s w : World) : Prop where
  os : w.os = s.os
  tape : w.tape = s.tape
  output : w.output = s.output
  size : s.heap.size ≤ w.heap.size
  block : ∀ k, k < s.heap.size → k ∉ X → w.heap[k]? = s.heap[k]?
theorem Keep.refl (X : List Nat) (w : World) : Keep X w w := ⟨rfl, rfl, rfl, Nat.le_refl _, fun _ _ _ => rfl⟩
theorem Keep.below {X : List Nat} {s w : World} (h : Keep X s w) {B : Nat} (hB : B ≤ s.heap.size) (hx : ∀ k ∈ X, B ≤ k) : Below B s w :=
  ⟨h.os, h.tape, h.output, h.size, fun k hk => h.block k (by omega) (fun hm => by have := hx k hm; omega)⟩
structure Kn (w : World) (H : Hp) (S : List World) : Prop where
  has : ∀ b o, (b, o) ∈ H → w.heap[b]? = some o
  nodup : (keysOf H).Nodup
  keep : ∀ s ∈ S, Keep (keysOf H) s w
theorem Kn.lt {w : World} {H : Hp} {S : List World} (h : Kn w H S) {b : Nat} {o : Obj} (hm : (b, o) ∈ H) : b < w.heap.size := by
  have := h.has b o hm
  exact (Array.getElem?_eq_some_iff.1 this).1
theorem Kn.key_lt {w : World} {H : Hp} {S : List World} (h : Kn w H S) {b : Nat} (hm : b ∈ keysOf H) : b < w.heap.size := by
  obtain ⟨⟨b', o⟩, hm', rfl⟩ := List.mem_map.1 hm
  exact h.lt hm'
theorem Kn.grow {w w' : World} {H : Hp} {S : List World} (h : Kn w H S) (g : Below w.heap.size w w') : Kn w' H S :=
  ⟨fun b o hm => (g.block b (h.lt hm)).trans (h.has b o hm), h.nodup, fun s hs =>
    let k := h.keep s hs
    ⟨g.os.trans k.os, g.tape.trans k.tape, g.output.trans k.output, Nat.le_trans k.size g.size, fun i hi hx => (g.block i (Nat.lt_of_lt_of_le hi k.size)).trans (k.block i hi hx)⟩⟩
theorem Kn.snap {w : World} {H : Hp} {S : List World} (h : Kn w H S) : Kn w H (w :: S) :=
  ⟨h.has, h.nodup, fun s hs => by
    rcases List.mem_cons.1 hs with rfl | hs
    · exact Keep.refl _ _
    · exact h.keep s hs⟩
theorem Kn.drawn {w : World} {H : Hp} {S : List World} (h : Kn w H S) (n : Nat) : Kn { w with drawn := n } H S :=
  ⟨h.has, h.nodup, fun s hs => let k := h.keep s hs; ⟨k.os, k.tape, k.output, k.size, k.block⟩⟩
theorem Kn.new {w w' : World} {H : Hp} {S : List World} (h : Kn w H S) {o : Obj} (g : Below w.heap.size w w') (hn : w'.heap[w.heap.size]? = some o) : Kn w' ((w.heap.size, o) :: H) S := by
  have hg := h.grow g
  refine ⟨fun b o' hm => ?_, ?_, fun s hs => ?_⟩
  · rcases List.mem_cons.1 hm with e | hm
    · cases e; exact hn
    · exact hg.has b o' hm
  · simp only [keysOf, List.map_cons, List.nodup_cons]
    exact ⟨fun hm => by have := h.key_lt hm; omega, h.nodup⟩
  · have k := hg.keep s hs
    exact ⟨k.os, k.tape, k.output, k.size, fun i hi hx => k.block i hi (fun hm => hx (by simp only [keysOf, List.map_cons, List.mem_cons]; exact .inr hm))⟩
theorem below_alloc (w : World) (o : Obj) : Below w.heap.size w (w.alloc o) := (Below.refl _ _).alloc (Nat.le_refl _) _
theorem Kn.alloc {w : World} {H : Hp} {S : List World} (h : Kn w H S) (o : Obj) : Kn (w.alloc o) ((w.heap.size, o) :: H) S := h.new (below_alloc w o) (heap_alloc_new w o)
/-- a block written over -/
inductive Upd : Hp → Nat → Obj → Obj → Hp → Prop
  | here {b : Nat} {o o' : Obj} {H : Hp} : Upd ((b, o) :: H) b o o' ((b, o') :: H)
  | there {p : Nat × Obj} {H H' : Hp} {b : Nat} {o o' : Obj} (h : Upd H b o o' H') : Upd (p :: H) b o o' (p :: H')
theorem Upd.keys {H H' : Hp} {b : Nat} {o o' : Obj} (h : Upd H b o o' H') : keysOf H' = keysOf H := by
  induction h with
  | here => rfl
  | there _ ih => simp only [keysOf, List.map_cons] at ih ⊢; rw [ih]
theorem Upd.mem {H H' : Hp} {b : Nat} {o o' : Obj} (h : Upd H b o o' H') : (b, o) ∈ H := by
  induction h with
  | here => simp
  | there _ ih => simp [ih]
theorem Upd.mem' {H H' : Hp} {b : Nat} {o o' : Obj} (h : Upd H b o o' H') (hn : (keysOf H).Nodup) : ∀ c x, (c, x) ∈ H' → (c = b ∧ x = o') ∨ (c ≠ b ∧ (c, x) ∈ H) := by
  induction h with
  | here =>
    intro c x hm
    rename_i b0 o0 o1 H0
    rcases List.mem_cons.1 hm with e | hm2
    · cases e; exact .inl ⟨rfl, rfl⟩
    · refine .inr ⟨fun e => ?_, List.mem_cons_of_mem _ hm2⟩
      simp only [keysOf, List.map_cons, List.nodup_cons] at hn
      exact hn.1 (List.mem_map.2 ⟨(c, x), hm2, e⟩)
  | there h' ih =>
    intro c x hm
    rename_i p H0 H1 b0 o0 o1
    simp only [keysOf, List.map_cons, List.nodup_cons] at hn
    rcases List.mem_cons.1 hm with e | hm
    · subst e
      refine .inr ⟨fun e => ?_, by simp⟩
      subst e
      exact hn.1 (List.mem_map.2 ⟨_, h'.mem, rfl⟩)
    · rcases ih hn.2 c x hm with ⟨e1, e2⟩ | ⟨e1, e2⟩
      · exact .inl ⟨e1, e2⟩
      · exact .inr ⟨e1, List.mem_cons_of_mem _ e2⟩
/-- one block turned, all else as it was -/
structure Turned (b : Nat) (o' : Obj) (w w' : World) : Prop where
  os : w'.os = w.os
  tape : w'.tape = w.tape
  output : w'.output = w.output
  size : w'.heap.size = w.heap.size
  this : w'.heap[b]? = some o'
  other : ∀ k, k ≠ b → w'.heap[k]? = w.heap[k]?
theorem Kn.turn {w w' : World} {H H' : Hp} {S : List World} {b : Nat} {o o' : Obj} (h : Kn w H S) (u : Upd H b o o' H') (t : Turned b o' w w') : Kn w' H' S := by
  refine ⟨fun c x hm => ?_, by rw [u.keys]; exact h.nodup, fun s hs => ?_⟩
  · rcases u.mem' h.nodup c x hm with ⟨rfl, rfl⟩ | ⟨hc, hm⟩
    · exact t.this
    · exact (t.other c hc).trans (h.has c x hm)
  · have k := h.keep s hs
    rw [u.keys]
    refine ⟨t.os.trans k.os, t.tape.trans k.tape, t.output.trans k.output, by rw [t.size]; exact k.size, fun i hi hx => (t.other i fun e => ?_).trans (k.block i hi hx)⟩
    subst e
    exact hx (List.mem_map.2 ⟨_, u.mem, rfl⟩)
/-- less is known: blocks that are no snapshot's are let go -/
theorem Kn.drop {w : World} {H : Hp} {S : List World} {p : Nat × Obj} (h : Kn w (p :: H) S) (hp : ∀ s ∈ S, s.heap.size ≤ p.1) : Kn w H S := by
  refine ⟨fun b o hm => h.has b o (List.mem_cons_of_mem _ hm), ?_, fun s hs => ?_⟩
  · have := h.nodup
    simp only [keysOf, List.map_cons, List.nodup_cons] at this
    exact this.2
  · have k := h.keep s hs
    refine ⟨k.os, k.tape, k.output, k.size, fun i hi hx => k.block i hi (fun hm => ?_)⟩
    simp only [keysOf, List.map_cons, List.mem_cons] at hm
    rcases hm with rfl | hm
    · have := hp s hs; omega
    · exact hx hm
theorem Kn.less {w : World} {H : Hp} {S S' : List World} (h : Kn w H S) (hs : ∀ s ∈ S', s ∈ S) : Kn w H S' := ⟨h.has, h.nodup, fun s m => h.keep s (hs s m)⟩
/-- a new block is none of those known, and lies behind all snapshots -/
structure Fresh (b : Nat) (H : Hp) (S : List World) : Prop where
  snaps : ∀ s ∈ S, s.heap.size ≤ b
  keys : ∀ k ∈ keysOf H, k < b
theorem Kn.fresh {w : World} {H : Hp} {S : List World} (h : Kn w H S) : Fresh w.heap.size H S := ⟨fun s hs => (h.keep s hs).size, fun _ hk => h.key_lt hk⟩
/-- read out of a snapshot -/
theorem Kn.old {w s : World} {H : Hp} {S : List World} (h : Kn w H S) (hs : s ∈ S) {b : Nat} (hb : b < s.heap.size) (hx : b ∉ keysOf H) : w.heap[b]? = s.heap[b]? := (h.keep s hs).block b hb hx

theorem wpIn_scope {F : Fence} {n : Nat} {P : Program} {Q : Exit → Act → World → Prop} {a : Act} {w : World} {c : Code} (h : c.wpIn F n P (Exit.noGoto Q) a w) : (Code.scope c).wpIn F n P Q a w := by
  intro b k cs hro hb hr
  have h0 : (lone (b.atR a (.code (.scope c) :: k)) cs w).fenced P F := fenced_calm hb hr rfl
  have s0 : step P (lone (b.atR a (.code (.scope c) :: k)) cs w) = .next (lone (b.atR a (.code c :: .inScope c :: k)) cs w) := step_lone_go (by simp [stepG, stepG.exec, Frame.atR])
  have s1 : ∀ a w, step P (lone (b.atR a (.inScope c :: k)) cs w) = .next (lone (b.atR a k) cs w) := fun a w => step_lone_go (by simp [stepG, stepG.exec, Frame.atR])
  obtain ⟨e, a₁, w₁, hq, harr⟩ := h b (.inScope c :: k) cs hro hb hr
  have hx : ∀ id, exitTo id (.inScope c :: k) = exitTo id k := fun id => by simp [exitTo]
  cases e with
  | normal => exact ⟨.normal, a₁, w₁, hq, .head h0 s0 (StepsIn.trans harr (.one (fenced_calm hb hr rfl) (s1 _ _)))⟩
  | exit id => exact ⟨.exit id, a₁, w₁, hq, fun k' hk => .head h0 s0 (harr.1 k' (by rw [hx]; exact hk)), fun hr' hk => let ⟨k₁, h1, h2⟩ := harr.2 hr' (by rw [hx]; exact hk); ⟨k₁, h1, .head h0 s0 h2⟩⟩
  | goto l => exact hq.elim
  | ret => exact ⟨_, a₁, w₁, hq, .of_steps (.one h0 s0) harr⟩
  | panic ch => exact ⟨_, a₁, w₁, hq, .of_steps (.one h0 s0) harr⟩
  | outgrown => exact ⟨_, a₁, w₁, hq, .of_steps (.one h0 s0) harr⟩


/-! ### judgements -/
section
variable (P : Program) (r : Option Nat) (N : Nat) (ds : List Deferred)
structure CW (c : Code) (Q : Exit → Act → World → Prop) (fr : Fr) (H : Hp) (S : List World) : Prop where
  run : ∀ a w, Ag N ds a fr → Kn w H S → c.wpIn (FF r) 0 P Q a w
structure OW (ops : Array Oper) (l : List Oper) (Q : Exit → Act → World → Prop) (fr : Fr) (H : Hp) (S : List World) : Prop where
  run : ∀ a w, Ag N ds a fr → Kn w H S → wpListIn (FF r) 0 P ops Q l a w
end
structure QW (N : Nat) (ds : List Deferred) (Q : Exit → Act → World → Prop) (e : Exit) (fr : Fr) (H : Hp) (S : List World) : Prop where
  run : ∀ a w, Ag N ds a fr → Kn w H S → Q e a w

section
variable {P : Program} {r : Option Nat} {N : Nat} {ds : List Deferred} {Q : Exit → Act → World → Prop} {fr : Fr} {H : Hp} {S : List World}
theorem CW.le {c : Code} {fr' : Fr} (h : CW P r N ds c Q fr' H S) (hl : FrLe fr' fr) : CW P r N ds c Q fr H S := ⟨fun a w ha hw => h.run a w (ha.le hl) hw⟩
theorem CW.snap {c : Code} (h : ∀ s, Kn s H S → CW P r N ds c Q fr H (s :: S)) : CW P r N ds c Q fr H S := ⟨fun a w ha hw => (h w hw).run a w ha hw.snap⟩
theorem CW.drop {c : Code} {p : Nat × Obj} (hp : ∀ s ∈ S, s.heap.size ≤ p.1) (h : CW P r N ds c Q fr H S) : CW P r N ds c Q fr (p :: H) S := ⟨fun a w ha hw => h.run a w ha (hw.drop hp)⟩
theorem OW.le {ops : Array Oper} {l : List Oper} {fr' : Fr} (h : OW P r N ds ops l Q fr' H S) (hl : FrLe fr' fr) : OW P r N ds ops l Q fr H S := ⟨fun a w ha hw => h.run a w (ha.le hl) hw⟩
theorem OW.snap {ops : Array Oper} {l : List Oper} (h : ∀ s, Kn s H S → OW P r N ds ops l Q fr H (s :: S)) : OW P r N ds ops l Q fr H S := ⟨fun a w ha hw => (h w hw).run a w ha hw.snap⟩

theorem cw_seq {x y : Code} (h : CW P r N ds x (Exit.then (y.wpIn (FF r) 0 P Q) Q) fr H S) : CW P r N ds (.seq x y) Q fr H S := ⟨fun a w ha hw => wpIn_seq (h.run a w ha hw)⟩
theorem cw_block {id : Nat} {c : Code} (h : CW P r N ds c (Exit.inBlock id Q) fr H S) : CW P r N ds (.block id c) Q fr H S := ⟨fun a w ha hw => wpIn_block (h.run a w ha hw)⟩
theorem cw_scope {c : Code} (h : CW P r N ds c (Exit.noGoto Q) fr H S) : CW P r N ds (.scope c) Q fr H S := ⟨fun a w ha hw => wpIn_scope (h.run a w ha hw)⟩
theorem cw_skip (h : QW N ds Q .normal fr H S) : CW P r N ds .skip Q fr H S := ⟨fun a w ha hw => wpIn_skip (h.run a w ha hw)⟩
theorem cw_label {l : Nat} (h : QW N ds Q .normal fr H S) : CW P r N ds (.label l) Q fr H S := ⟨fun a w ha hw => wpIn_label (h.run a w ha hw)⟩
theorem cw_exit {id : Nat} (h : QW N ds Q (.exit id) fr H S) : CW P r N ds (.exit id) Q fr H S := ⟨fun a w ha hw => wpIn_exit (h.run a w ha hw)⟩
theorem cw_ret (h : QW N ds Q .ret fr H S) : CW P r N ds .ret Q fr H S := ⟨fun a w ha hw => wpIn_ret (h.run a w ha hw)⟩
theorem cw_cond {c : Operand} {x y : Code} {t : Bool} (hc : ev fr c = some (.bool t)) (ht : t = true → CW P r N ds x Q fr H S) (hf : t = false → CW P r N ds y Q fr H S) : CW P r N ds (.cond c x y) Q fr H S := ⟨fun a w ha hw =>
  wpIn_cond_split (ha.ev hc) (fun e => (ht e).run a w ha hw) (fun e => (hf e).run a w ha hw)⟩
theorem cw_true {c : Operand} {x y : Code} (hc : ev fr c = some (.bool true)) (h : CW P r N ds x Q fr H S) : CW P r N ds (.cond c x y) Q fr H S := ⟨fun a w ha hw => wpIn_cond_true (ha.ev hc) (h.run a w ha hw)⟩
theorem cw_false {c : Operand} {x y : Code} (hc : ev fr c = some (.bool false)) (h : CW P r N ds y Q fr H S) : CW P r N ds (.cond c x y) Q fr H S := ⟨fun a w ha hw => wpIn_cond_false (ha.ev hc) (h.run a w ha hw)⟩
theorem cw_region {id : Nat} {l : List Oper} (h : OW P r N ds l.toArray l Q fr H S) : CW P r N ds (.region id l.toArray false) Q fr H S := ⟨fun a w ha hw => wpIn_region_lit (h.run a w ha hw)⟩
theorem qw_then {y : Code} {Q' : Exit → Act → World → Prop} (h : CW P r N ds y Q fr H S) : QW N ds (Exit.then (y.wpIn (FF r) 0 P Q) Q') .normal fr H S := ⟨h.run⟩
theorem qw_then_ret {K : Act → World → Prop} (h : QW N ds Q .ret fr H S) : QW N ds (Exit.then K Q) .ret fr H S := ⟨h.run⟩
theorem qw_then_exit {K : Act → World → Prop} {id : Nat} (h : QW N ds Q (.exit id) fr H S) : QW N ds (Exit.then K Q) (.exit id) fr H S := ⟨h.run⟩
theorem qw_block_normal {id : Nat} (h : QW N ds Q .normal fr H S) : QW N ds (Exit.inBlock id Q) .normal fr H S := ⟨h.run⟩
theorem qw_block_ret {id : Nat} (h : QW N ds Q .ret fr H S) : QW N ds (Exit.inBlock id Q) .ret fr H S := ⟨h.run⟩
theorem qw_block_exit {id : Nat} (h : QW N ds Q .normal fr H S) : QW N ds (Exit.inBlock id Q) (.exit id) fr H S := ⟨fun a w ha hw => by
  simp only [Exit.inBlock, if_true]; exact h.run a w ha hw⟩
theorem qw_block_other {id id' : Nat} (hne : (id' == id) = false) (h : QW N ds Q (.exit id') fr H S) : QW N ds (Exit.inBlock id Q) (.exit id') fr H S := ⟨fun a w ha hw => by
  have hne' : ¬ id' = id := by simpa using hne
  simp only [Exit.inBlock, if_neg hne']; exact h.run a w ha hw⟩
theorem qw_scope_normal (h : QW N ds Q .normal fr H S) : QW N ds (Exit.noGoto Q) .normal fr H S := ⟨h.run⟩
theorem qw_scope_ret (h : QW N ds Q .ret fr H S) : QW N ds (Exit.noGoto Q) .ret fr H S := ⟨h.run⟩
theorem qw_scope_exit {id : Nat} (h : QW N ds Q (.exit id) fr H S) : QW N ds (Exit.noGoto Q) (.exit id) fr H S := ⟨h.run⟩
theorem ow_nil {ops : Array Oper} (h : QW N ds Q .normal fr H S) : OW P r N ds ops [] Q fr H S := ⟨fun a w ha hw => wpListIn_nil (h.run a w ha hw)⟩

/-- a loop: what is known at its head, for each x; a measure -/
def Again {α : Type} (N : Nat) (ds : List Deferred) (R : α → Prop) (F : α → Fr) (HH : α → Hp) (SS : α → List World) (μ : α → Nat) (m : Nat) (a : Act) (w : World) : Prop :=
  ∃ x, R x ∧ Ag N ds a (F x) ∧ Kn w (HH x) (SS x) ∧ μ x < m
theorem exists_least (p : Nat → Prop) : ∀ m, p m → ∃ k, p k ∧ k ≤ m ∧ ∀ j, p j → k ≤ j := by
  intro m
  induction m using Nat.strongRecOn with
  | _ m ih =>
    intro hm
    by_cases h : ∃ j, j < m ∧ p j
    · obtain ⟨j, hj, hp⟩ := h
      obtain ⟨k, h1, h2, h3⟩ := ih j hj hp
      exact ⟨k, h1, by omega, h3⟩
    · exact ⟨m, hm, Nat.le_refl _, fun j hj => by
        rcases Nat.lt_or_ge j m with h' | h'
        · exact absurd ⟨j, h', hj⟩ h
        · exact h'⟩
open Classical in
noncomputable def leastOf (p : Nat → Prop) : Nat := if h : ∃ m, p m then Classical.choose (exists_least p h.choose h.choose_spec) else 0
theorem leastOf_spec {p : Nat → Prop} {m : Nat} (h : p m) : p (leastOf p) ∧ leastOf p ≤ m := by
  have hex : ∃ m, p m := ⟨m, h⟩
  unfold leastOf
  rw [dif_pos hex]
  have := Classical.choose_spec (exists_least p hex.choose hex.choose_spec)
  exact ⟨this.1, this.2.2 m h⟩
theorem cw_loop {α : Type} {c : Code} (R : α → Prop) (F : α → Fr) (HH : α → Hp) (SS : α → List World) (μ : α → Nat) (x0 : α) (h0 : R x0) (hF : FrLe (F x0) fr) (hH : HH x0 = H) (hS : SS x0 = S)
    (round : ∀ x, R x → CW P r N ds c (Exit.then (Again N ds R F HH SS μ (μ x)) Q) (F x) (HH x) (SS x)) : CW P r N ds (.loop c) Q fr H S := ⟨fun a w ha hw => by
  subst hH; subst hS
  let T : Act → World → Nat → Prop := fun a w m => ∃ x, R x ∧ Ag N ds a (F x) ∧ Kn w (HH x) (SS x) ∧ μ x = m
  refine wpIn_loop (fun a w => ∃ m, T a w m) (fun a w => leastOf (T a w)) ⟨_, x0, h0, ha.le hF, hw, rfl⟩ ?_
  rintro a w ⟨m, hm⟩
  obtain ⟨⟨x, hx, hax, hwx, hmx⟩, _⟩ := leastOf_spec hm
  refine Go.wpIn_mono ((round x hx).run a w hax hwx) ?_
  intro e a' w' hq
  cases e with
  | normal =>
    obtain ⟨y, hy, hay, hwy, hlt⟩ := hq
    have hT : T a' w' (μ y) := ⟨y, hy, hay, hwy, rfl⟩
    refine ⟨⟨_, hT⟩, ?_⟩
    have := (leastOf_spec hT).2
    show leastOf (T a' w') < leastOf (T a w)
    omega
  | _ => exact hq⟩
theorem qw_again {α : Type} {R : α → Prop} {F : α → Fr} {HH : α → Hp} {SS : α → List World} {μ : α → Nat} {m : Nat} (x : α) (hx : R x) (hF : FrLe (F x) fr) (hm : μ x < m)
    (hw : ∀ w, Kn w H S → Kn w (HH x) (SS x)) : QW N ds (Exit.then (Again N ds R F HH SS μ m) Q) .normal fr H S := ⟨fun _ w ha hk => ⟨x, hx, ha.le hF, hw w hk, hm⟩⟩
end
end Go.Proofs.YtmlemnbhjbaedaaGreatDoor

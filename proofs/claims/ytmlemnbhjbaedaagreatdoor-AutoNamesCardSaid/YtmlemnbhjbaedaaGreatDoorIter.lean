/-
  The engine's law for a range over a function, and the contract of an iterator that it asks. Nothing here speaks of a program.
-/
import Derived.Test.YtmlemnbhjbaedaaGreatDoorStep
import Derived.RangeFuncNested
import Derived.RangeFuncBound
namespace Go.Proofs.YtmlemnbhjbaedaaGreatDoor
open Go.RowKit
set_option linter.unusedSimpArgs false
set_option linter.unusedVariables false

theorem room_FF (r : Option Nat) (n : Nat) : (FF r).room n := fun d h => by rw [FF_depth] at h; cases h
theorem wpIn_FF {r : Option Nat} {n m : Nat} {P : Program} {c : Code} {Q : Exit → Act → World → Prop} {a : Act} {w : World} (h : c.wpIn (FF r) n P Q a w) : c.wpIn (FF r) m P Q a w :=
  fun b k cs hro hb _ => h b k cs hro hb (room_FF r _)
theorem fenced_FF (r : Option Nat) (P : Program) : Machine.fenced P (FF r) = Machine.fenced P Fence.wide := by cases r <;> rfl
theorem callsIn_FF {r : Option Nat} {n : Nat} {P : Program} {f : FuncId} {args : Array Value} {w : World} {R : Ending → World → Prop} (h : CallsIn Fence.wide 0 P f args w R) : CallsIn (FF r) n P f args w R :=
  ⟨FF_fn r f, fun cs _ => by rw [fenced_FF]; exact h.2 cs (room_wide _)⟩
theorem roundIn_FF {r : Option Nat} {n : Nat} {P : Program} {l : Nat} {f : FuncId} {tmps : Array Value} {assign body : Code} {w : World} {R : Ending → World → Prop} (h : RoundIn (FF r) n P l f tmps assign body w R) : RoundIn Fence.wide 0 P l f tmps assign body w R :=
  ⟨trivial, fun c cs _ => by have := h.2 c cs (room_FF r _); rwa [fenced_FF] at this⟩

/-- what an iterator's call does: it hands on xs, one by one, until a round says no more; nothing that lay there is turned but by the rounds -/
def IterC {α : Type} (P : Program) (gf : FuncId) (lb : Array Value) (encs : α → Array Value) (rd : Nat → Prop) (xs : List α) (W0 : World) : Prop :=
  ∀ (l : Nat) (X : List Nat) (J Jx : Nat → World → Prop) (W : World), Below W0.heap.size W0 W → (∀ k ∈ X, k < W.heap.size ∧ ¬ rd k) →
    (∀ k A B, J k A → Below W.heap.size A B → J k B) → (∀ k A B, Jx k A → Below W.heap.size A B → Jx k B) →
    (∀ k x A, J k A → xs[k]? = some x → Keep X W A → YieldAt Fence.wide 0 P l (encs x) A fun e B => Keep X A B ∧ ((e = .returned (.bool true) ∧ J (k + 1) B) ∨ (e = .returned (.bool false) ∧ Jx (k + 1) B))) →
    J 0 W →
    Calls P gf (#[.func (.yield l) #[] #[]] ++ lb) W fun e B => (∃ v, e = .returned v) ∧ (J xs.length B ∨ ∃ k, 0 < k ∧ k ≤ xs.length ∧ Jx k B)

def zipF (ps : List Tmp) (vs : List Value) : Fr := (ps.zip vs).reverse
theorem ag_fold {N : Nat} : ∀ (l : List (Tmp × Value)) (a : Act) (fr : Fr), Ag N [] a fr → (∀ p ∈ l, p.1 < N) → Ag N [] { tmps := l.foldl (fun t (p : Tmp × Value) => t.setIfInBounds p.1 p.2) a.tmps, defers := [] } (l.reverse ++ fr)
  | [], a, fr, h, _ => by obtain ⟨t, d⟩ := a; have hd := h.defs; simp only at hd; subst hd; exact h
  | (t, v) :: l, a, fr, h, hl => by
    have h1 := h.put (hl (t, v) (by simp)) v
    have := ag_fold l (a.put (some t) v) _ h1 (fun p hp => hl p (by simp [hp]))
    simp only [List.reverse_cons, List.append_assoc, List.singleton_append, List.foldl_cons]
    exact this

/-- how a round is left -/
def RoundQ {γ : Type} (HH : γ → Hp) (R : Nat → γ → Prop) (X : Code → Nat → γ → Prop) (k : Nat) (L : Hp) (S : List World) : Exit → Act → World → Prop
  | .normal, _, w => ∃ c, R (k + 1) c ∧ Kn w (L ++ HH c) S
  | .ret, _, w => ∃ c, X .ret (k + 1) c ∧ Kn w (L ++ HH c) S
  | .exit id, _, w => ∃ c, X (.exit id) (k + 1) c ∧ Kn w (L ++ HH c) S
  | .goto id, _, w => ∃ c, X (.goto id) (k + 1) c ∧ Kn w (L ++ HH c) S
  | _, _, _ => False
def AssignQ {β : Type} (N : Nat) (frb : β → Fr) (HB : β → Hp) (Rb : β → Prop) (L : Hp) (S : List World) (a : Act) (w : World) : Prop := ∃ b, Rb b ∧ Ag N [] a (frb b) ∧ Kn w (HB b ++ L) S

theorem keep_of_kn {w s : World} {H : Hp} {S : List World} (h : Kn w H (s :: S)) : Keep (keysOf H) s w := h.keep s (by simp)
theorem Keep.trans' {X : List Nat} {A B C : World} (h : Keep X A B) (k : Keep X B C) : Keep X A C :=
  ⟨k.os.trans h.os, k.tape.trans h.tape, k.output.trans h.output, Nat.le_trans h.size k.size, fun i hi hx => (k.block i (Nat.lt_of_lt_of_le hi h.size) hx).trans (h.block i hi hx)⟩
theorem turned_putObj {w : World} {b : Nat} (o' : Obj) (hb : b < w.heap.size) : Turned b o' w (w.putObj b o') :=
  ⟨rfl, rfl, rfl, by simp [World.putObj], World.putObj_heap_same hb, fun k hk => World.putObj_heap_other hk⟩
theorem keep_turned {w w' : World} {b : Nat} {o' : Obj} (t : Turned b o' w w') {X : List Nat} (hb : b ∈ X) : Keep X w w' :=
  ⟨t.os, t.tape, t.output, Nat.le_of_eq t.size.symm, fun k _ hx => t.other k (fun e => hx (e ▸ hb))⟩

theorem Kn.lower {A B : World} {H : Hp} {S : List World} {n : Nat} (h : Kn A H S) (g : Below n A B) (hk : ∀ q ∈ keysOf H, q < n) (hs : ∀ z ∈ S, z.heap.size ≤ n) : Kn B H S := by
  refine ⟨fun b o hm => (g.block b (hk b (List.mem_map.2 ⟨_, hm, rfl⟩))).trans (h.has b o hm), h.nodup, fun s hm => ?_⟩
  have k := h.keep s hm
  have := hs s hm
  exact ⟨g.os.trans k.os, g.tape.trans k.tape, g.output.trans k.output, Nat.le_trans k.size g.size, fun i hi hx => (g.block i (by omega)).trans (k.block i hi hx)⟩
theorem kn_after {w w' : World} {H : Hp} {S : List World} {X : List Nat} (h : Kn w H S) (k : Keep X w w') (hx : ∀ q ∈ keysOf H, q ∉ X) : Kn w' H [w'] :=
  ⟨fun b o hm => (k.block b (h.lt hm) (hx b (List.mem_map.2 ⟨_, hm, rfl⟩))).trans (h.has b o hm), h.nodup, fun s hs => by simp at hs; subst hs; exact Keep.refl _ _⟩

section
variable {P : Program} {N : Nat} {fr : Fr} {H : Hp} {S : List World}

/-- one round, seen from the iterator -/
theorem round_yield {α β γ : Type} {encs : α → Array Value} {ps : Array Tmp} {assign body : Code} {l : Nat} {fn : FuncId} {tmps : Array Value} {dfr : Nat}
    {HH : γ → Hp} {R : Nat → γ → Prop} {X : Code → Nat → γ → Prop} {L : Hp} {k : Nat} {x : α} {c : γ} {A : World}
    (hps : (encs x).size = ps.size) (hpN : ∀ p ∈ ps.toList, p < N) (hag : Ag N [] { tmps := tmps, defers := [] } fr)
    (hk : Kn A ((l, .loop { state := .ready, pending := none, fn := fn, tmps := tmps, params := ps, assign := assign, body := body, defers := dfr }) :: (L ++ HH c)) S)
    {frb : β → Fr} {HB : β → Hp} {Rb : β → Prop}
    (hassign : ∀ ol, (∃ rec, ol = .loop rec) → CW P (some l) N [] assign (Exit.then (AssignQ N frb HB Rb ((l, ol) :: (L ++ HH c)) (A :: S)) (fun _ _ _ => False)) (zipF ps.toList (encs x).toList ++ fr) ((l, ol) :: (L ++ HH c)) (A :: S))
    (hbody : ∀ ol b, (∃ rec, ol = .loop rec) → Rb b → CW P (some l) N [] body (RoundQ HH R X k ((l, ol) :: L) (A :: S)) (frb b) (HB b ++ ((l, ol) :: (L ++ HH c))) (A :: S))
    (hkeys : ∀ c', keysOf (HH c') = keysOf (HH c)) :
    YieldAt Fence.wide 0 P l (encs x) A fun e B => Keep (l :: keysOf (L ++ HH c)) A B ∧
      ((e = .returned (.bool true) ∧ ∃ c', R (k + 1) c' ∧ Kn B ((l, .loop { state := .ready, pending := none, fn := fn, tmps := tmps, params := ps, assign := assign, body := body, defers := dfr }) :: (L ++ HH c')) S) ∨
       (e = .returned (.bool false) ∧ ∃ code c', X code (k + 1) c' ∧ Kn B ((l, .loop { state := .done, pending := some code, fn := fn, tmps := tmps, params := ps, assign := assign, body := body, defers := dfr }) :: (L ++ HH c')) S)) := by
  obtain ⟨rec, hrec⟩ : ∃ rec : LoopState → Option Code → Loop, rec = fun st pe => { state := st, pending := pe, fn, tmps, params := ps, assign, body, defers := dfr } := ⟨_, rfl⟩
  have hrd : (Obj.loop { state := .ready, pending := none, fn := fn, tmps := tmps, params := ps, assign := assign, body := body, defers := dfr }) = .loop (rec .ready none) := by rw [hrec]
  have hdn : ∀ code, (Obj.loop { state := .done, pending := some code, fn := fn, tmps := tmps, params := ps, assign := assign, body := body, defers := dfr }) = .loop (rec .done (some code)) := fun code => by rw [hrec]
  rw [hrd] at hk
  simp only [hrd, hdn]
  have hl : A.heap[l]? = some (.loop (rec .ready none)) := hk.has _ _ (by simp)
  have hy := run_yield (P := P) (args := encs x) hl (by rw [hrec]; exact hps)
  rw [hrec] at hy
  refine ⟨fn, _, assign, body, hy, roundIn_FF (r := none) (n := 0) (roundIn_of_wpIn (F := Fence.wide) trivial ?_)⟩
  clear hy
  have hstart : Ag N [] { tmps := (ps.zip (encs x)).foldl (fun t (p, v) => t.setIfInBounds p v) tmps, defers := [] } (zipF ps.toList (encs x).toList ++ fr) := by
    have h := ag_fold ((ps.zip (encs x)).toList) _ fr hag (fun p hp => by
      simp only [Array.toList_zip] at hp
      exact hpN _ (List.of_mem_zip (show (p.1, p.2) ∈ _ from hp)).1)
    rw [Array.foldl_toList] at h
    simpa [zipF] using h
  have h1 := (hassign (.loop (rec .ready none)) ⟨_, rfl⟩).run _ A hstart hk.snap
  refine Go.wpIn_mono h1 ?_
  rintro e a1 w1 hq
  cases e with
  | normal =>
    obtain ⟨b, hb, hab, hkb⟩ := hq
    have hl1 : w1.heap[l]? = some (.loop (rec .ready none)) := hkb.has _ _ (by simp)
    have hlt1 := (Array.getElem?_eq_some_iff.1 hl1).1
    refine ⟨_, run_beginRound hl1 (by rw [hrec]), ?_⟩
    -- the record is busy
    have hup : Upd (HB b ++ ((l, .loop (rec .ready none)) :: (L ++ HH c))) l (.loop (rec .ready none)) (.loop { rec .ready none with state := .busy }) (HB b ++ ((l, .loop { rec .ready none with state := .busy }) :: (L ++ HH c))) := by
      generalize HB b = G
      induction G with
      | nil => exact Upd.here
      | cons p G ih => exact Upd.there ih
    have hkb2 := hkb.turn hup (turned_putObj (w := w1) (b := l) (.loop { rec .ready none with state := .busy }) hlt1)
    refine Go.wpIn_mono ((hbody (.loop { rec .ready none with state := .busy }) b ⟨_, rfl⟩ hb).run a1 _ hab hkb2) ?_
    -- the round's end
    have fin : ∀ (jump : Option Code) (c' : γ) (w3 : World), Kn w3 ((l, .loop { rec .ready none with state := .busy }) :: L ++ HH c') (A :: S) →
        (Instr.endRound l jump).run P w3 = .ok (.bool jump.isNone) (w3.putObj l (.loop (rec (if jump.isNone then .ready else .done) jump))) ∧
        Kn (w3.putObj l (.loop (rec (if jump.isNone then .ready else .done) jump))) ((l, .loop (rec (if jump.isNone then .ready else .done) jump)) :: (L ++ HH c')) (A :: S) := fun jump c' w3 h3 => by
      have hl3 : w3.heap[l]? = some (.loop { rec .ready none with state := .busy }) := h3.has _ _ (by simp)
      have hr := run_endRound (P := P) jump hl3
      have e1 : ({ ({ rec .ready none with state := .busy } : Loop) with state := if jump.isNone then .ready else .done, pending := jump } : Loop) = rec (if jump.isNone then .ready else .done) jump := by rw [hrec]
      rw [e1] at hr
      exact ⟨hr, h3.turn Upd.here (turned_putObj _ (Array.getElem?_eq_some_iff.1 hl3).1)⟩
    rintro e a3 w3 hp
    have done : ∀ (code : Code) (c' : γ), X code (k + 1) c' → Kn w3 ((l, .loop { rec .ready none with state := .busy }) :: L ++ HH c') (A :: S) → ∃ v w', (Instr.endRound l (some code)).run P w3 = .ok v w' ∧
        (Keep (l :: keysOf (L ++ HH c)) A w' ∧ ((Ending.returned v = .returned (.bool true) ∧ ∃ c', R (k + 1) c' ∧ Kn w' ((l, .loop (rec .ready none)) :: (L ++ HH c')) S) ∨
          (Ending.returned v = .returned (.bool false) ∧ ∃ code c', X code (k + 1) c' ∧ Kn w' ((l, .loop (rec .done (some code))) :: (L ++ HH c')) S))) := fun code c' hx h3 => by
      obtain ⟨hr, h4⟩ := fin (some code) c' w3 h3
      refine ⟨_, _, hr, ?_, .inr ⟨rfl, code, c', hx, h4.less (fun s hs => by simp [hs])⟩⟩
      have := keep_of_kn h4
      simp only [keysOf, List.map_cons, List.map_append] at this ⊢
      have hk' := hkeys c'
      simp only [keysOf] at hk'
      rw [hk'] at this
      exact this
    cases e with
    | normal =>
      obtain ⟨c', hR, h3⟩ := hp
      obtain ⟨hr, h4⟩ := fin none c' w3 h3
      refine ⟨_, _, hr, ?_, .inl ⟨rfl, c', hR, h4.less (fun s hs => by simp [hs])⟩⟩
      have := keep_of_kn h4
      simp only [keysOf, List.map_cons, List.map_append] at this ⊢
      have hk' := hkeys c'
      simp only [keysOf] at hk'
      rw [hk'] at this
      exact this
    | ret => obtain ⟨c', hX, h3⟩ := hp; exact done _ c' hX h3
    | exit id => obtain ⟨c', hX, h3⟩ := hp; exact done _ c' hX h3
    | goto t => obtain ⟨c', hX, h3⟩ := hp; exact done _ c' hX h3
    | panic ch => exact hp.elim
    | outgrown => exact hp.elim
  | _ => exact hq.elim

/-- **the statement 'for .. := range g { .. }', of a function's own frame** -/
theorem cw_range {α β γ : Type} {ds : List Deferred} {Q : Exit → Act → World → Prop} {g : Operand} {ps : Array Tmp} {assign body : Code} {gf : FuncId} {lb : Array Value} (encs : α → Array Value) (rd : Nat → Prop) (xs : List α)
    (HH : γ → Hp) (R : Nat → γ → Prop) (X : Code → Nat → γ → Prop) (c0 : γ) (frb : Nat → α → β → Fr) (HB : Nat → α → β → Hp) (Rb : Nat → α → β → Prop) (fr' : Fr)
    (hg : ev fr g = some (.func (.func gf) #[] lb)) (eg : ∀ args w, (callFunc gf args).run P w = .ok (.enter gf args) w) (hfr : FrLe fr' fr)
    (hit : ∀ w, Kn w H S → IterC P gf lb encs rd xs w) (hrd : ∀ w, Kn w H S → ∀ k, rd k → k < w.heap.size ∧ k ∉ keysOf H)
    (hps : ∀ x, (encs x).size = ps.size) (hpN : ps.all (fun p => decide (p < N)) = true)
    (hR0 : R 0 c0) (hH0 : HH c0 = H) (hkeys : ∀ c, keysOf (HH c) = keysOf H)
    (hassign : ∀ l D s ol k x c, (∃ rec, ol = .loop rec) → xs[k]? = some x → R k c → (∀ z ∈ S, z.heap.size ≤ D) → (∀ q ∈ keysOf H, q < D) → D < l → l < s.heap.size →
      CW P (some l) N [] assign (Exit.then (AssignQ N (frb k x) (HB k x) (fun b => Rb k x b ∧ ∀ q ∈ keysOf (HB k x b), s.heap.size ≤ q) ((l, ol) :: (D, .deferred (some [])) :: HH c) (s :: S)) (fun _ _ _ => False)) (zipF ps.toList (encs x).toList ++ fr') ((l, ol) :: (D, .deferred (some [])) :: HH c) (s :: S))
    (hbody : ∀ l D s ol k x c b, (∃ rec, ol = .loop rec) → xs[k]? = some x → R k c → (∀ z ∈ S, z.heap.size ≤ D) → (∀ q ∈ keysOf H, q < D) → D < l → l < s.heap.size → Rb k x b → (∀ q ∈ keysOf (HB k x b), s.heap.size ≤ q) →
      CW P (some l) N [] body (RoundQ HH R X k [(l, ol), (D, .deferred (some []))] (s :: S)) (frb k x b) (HB k x b ++ (l, ol) :: (D, .deferred (some [])) :: HH c) (s :: S))
    (hdone : ∀ D c, R xs.length c → (∀ z ∈ S, z.heap.size ≤ D) → (∀ q ∈ keysOf H, q < D) → QW N ({ target := .collected D, args := #[] } :: ds) Q .normal fr ((D, .deferred (some [])) :: HH c) S)
    (hstop : ∀ D c k code, X code k c → 0 < k → k ≤ xs.length → (∀ z ∈ S, z.heap.size ≤ D) → (∀ q ∈ keysOf H, q < D) → CW P none N ({ target := .collected D, args := #[] } :: ds) code Q fr ((D, .deferred (some [])) :: HH c) S) :
    CW P none N ds (.rangeFunc g ps assign body) Q fr H S := by
  refine ⟨fun a w ha hw => ?_⟩
  subst hH0
  refine wpIn_rangeFunc (F := FF none) (n := 0) ?_
  intro fn _
  obtain ⟨rec, hrec⟩ : ∃ rec : LoopState → Option Code → Loop, rec = fun st pe => { state := st, pending := pe, fn, tmps := a.tmps, params := ps, assign, body, defers := w.heap.size } := ⟨_, rfl⟩
  have hk1 : Kn ((w.alloc (.deferred (some []))).alloc (.loop (rec .ready none))) ((w.heap.size + 1, .loop (rec .ready none)) :: (w.heap.size, .deferred (some [])) :: HH c0) S := by
    have := (hw.alloc (.deferred (some []))).alloc (.loop (rec .ready none))
    simpa using this
  have hsn : ∀ z ∈ S, z.heap.size ≤ w.heap.size := hw.fresh.snaps
  have hks : ∀ q ∈ keysOf (HH c0), q < w.heap.size := hw.fresh.keys
  obtain ⟨W1, hW1⟩ : ∃ W1, (w.alloc (.deferred (some []))).alloc (.loop (rec .ready none)) = W1 := ⟨_, rfl⟩
  have hb1 : Below w.heap.size w W1 := by
    rw [← hW1]; exact ((Below.refl _ w).alloc (Nat.le_refl _) _).alloc (by simp) _
  rw [hW1] at hk1
  refine ⟨w.heap.size + 1, [{ target := .collected w.heap.size, args := #[] }], W1, { target := .fn (.func gf) lb, args := #[.func (.yield (w.heap.size + 1)) #[] #[]] }, W1, gf,
    #[.func (.yield (w.heap.size + 1)) #[] #[]] ++ lb, W1, ?_, ?_, ?_, ?_, (by simp [FF_depth]), ?_⟩
  · rw [← hW1, hrec]; exact run_enterLoop_outer _ _ _ _ _
  · simp only [resolve, ha.ev hg]
    simp [go_sem]
  · intro f' _; exact FF_fn none f'
  · simp [invoke, go_sem, eg]
  · refine callsIn_FF (callsIn_wide.2 ?_)
    have hrdw := hrd w hw
    have hW1s : w.heap.size + 1 < W1.heap.size := hk1.key_lt (by simp [keysOf])
    have hkl : ∀ (o1 : Obj) (c : γ), ∀ q ∈ keysOf ((w.heap.size + 1, o1) :: (w.heap.size, Obj.deferred (some [])) :: HH c), q < W1.heap.size := fun o1 c q hq => by
      have hq' := hkeys c
      simp only [keysOf, List.map_cons, List.mem_cons] at hq hq'
      rw [hq'] at hq
      rcases hq with rfl | rfl | hq
      · exact hW1s
      · omega
      · have := hks q hq; omega
    have hsz : ∀ z ∈ S, z.heap.size ≤ W1.heap.size := fun z hz => by have := hsn z hz; omega
    refine ((hit w hw) (w.heap.size + 1) ((w.heap.size + 1) :: w.heap.size :: keysOf (HH c0))
      (fun k W => ∃ c, R k c ∧ Kn W ((w.heap.size + 1, .loop (rec .ready none)) :: (w.heap.size, .deferred (some [])) :: HH c) S)
      (fun k W => ∃ code c, X code k c ∧ Kn W ((w.heap.size + 1, .loop (rec .done (some code))) :: (w.heap.size, .deferred (some [])) :: HH c) S)
      W1 hb1 ?_ (fun k A B ⟨c, h1, h2⟩ hg' => ⟨c, h1, h2.lower hg' (hkl _ c) hsz⟩) (fun k A B ⟨code, c, h1, h2⟩ hg' => ⟨code, c, h1, h2.lower hg' (hkl _ c) hsz⟩) ?_ ⟨c0, hR0, hk1⟩).mono ?_
    · intro k hk
      rcases List.mem_cons.1 hk with rfl | hk
      · exact ⟨hk1.key_lt (by simp [keysOf]), fun h => by have := (hrdw _ h).1; omega⟩
      · rcases List.mem_cons.1 hk with rfl | hk
        · exact ⟨hk1.key_lt (by simp [keysOf]), fun h => by have := (hrdw _ h).1; omega⟩
        · exact ⟨Nat.lt_of_lt_of_le (hks k hk) hb1.size, fun h => (hrdw _ h).2 hk⟩
    · rintro k x A ⟨c, hR, hkA⟩ hx _
      have hlA : w.heap.size + 1 < A.heap.size := hkA.key_lt (by simp [keysOf])
      have hq := hkeys c
      have hkc : keysOf ((w.heap.size, Obj.deferred (some [])) :: HH c) = w.heap.size :: keysOf (HH c0) := by simp only [keysOf, List.map_cons] at hq ⊢; rw [hq]
      have key := round_yield (P := P) (N := N) (S := S) (encs := encs) (ps := ps) (assign := assign) (body := body) (l := w.heap.size + 1) (fn := fn) (tmps := a.tmps) (dfr := w.heap.size) (HH := HH) (R := R) (X := X)
        (L := [(w.heap.size, .deferred (some []))]) (k := k) (x := x) (c := c) (A := A) (fr := fr') (hps x) (fun p hp => by
          have := Array.all_eq_true_iff_forall_mem.1 hpN p (Array.mem_toList_iff.1 hp); simpa using this) ⟨ha.size, rfl, fun t v hv => ha.at_ t v (hfr.at_ t v hv)⟩ (by rw [hrec] at hkA; exact hkA)
        (frb := frb k x) (HB := HB k x) (Rb := fun b => Rb k x b ∧ ∀ q ∈ keysOf (HB k x b), A.heap.size ≤ q)
        (fun ol hol => hassign _ _ A ol k x c hol hx hR hsn (by exact hks) (Nat.lt_succ_self _) hlA)
        (fun ol b hol hb => hbody _ _ A ol k x c b hol hx hR hsn (by exact hks) (Nat.lt_succ_self _) hlA hb.1 hb.2)
        (fun c' => by rw [hkeys c', hkeys c])
      simp only [List.singleton_append] at key
      rw [hkc] at key
      refine YieldAt.mono key ?_
      rw [hrec]
      rintro e B ⟨h1, h2⟩
      exact ⟨h1, h2⟩
    · rintro e B ⟨⟨v, rfl⟩, ⟨c, hR, hkB⟩ | ⟨k, hk0, hk1', code, c, hX, hkB⟩⟩
      · have hl : B.heap[w.heap.size + 1]? = some (.loop (rec .ready none)) := hkB.has _ _ (by simp)
        have he := run_endLoop (P := P) hl (by rw [hrec]; simp)
        refine ⟨none, _, by rw [hrec] at he; exact he, ?_⟩
        have h3 := (hkB.turn Upd.here (turned_putObj (.loop { rec .ready none with state := .exhausted }) (Array.getElem?_eq_some_iff.1 hl).1)).drop (fun z hz => by have := hsn z hz; show z.heap.size ≤ w.heap.size + 1; omega)
        rw [hrec] at h3
        refine (hdone w.heap.size c hR hsn (by exact hks)).run _ _ ⟨ha.size, by simp [ha.defs], ha.at_⟩ ?_
        exact h3
      · have hl : B.heap[w.heap.size + 1]? = some (.loop (rec .done (some code))) := hkB.has _ _ (by simp)
        have he := run_endLoop (P := P) hl (by rw [hrec]; simp)
        refine ⟨some code, _, by rw [hrec] at he; exact he, ?_⟩
        have h3 := (hkB.turn Upd.here (turned_putObj (.loop { rec .done (some code) with state := .exhausted }) (Array.getElem?_eq_some_iff.1 hl).1)).drop (fun z hz => by have := hsn z hz; show z.heap.size ≤ w.heap.size + 1; omega)
        rw [hrec] at h3
        refine (hstop w.heap.size c k code hX hk0 hk1' hsn (by exact hks)).run _ _ ⟨ha.size, by simp [ha.defs], ha.at_⟩ ?_
        exact h3

end

/-! ends of a round's parts -/
section
variable {N : Nat} {ds : List Deferred} {fr : Fr} {H : Hp} {S S' : List World}
theorem qw_asg {β : Type} {frb : β → Fr} {HB : β → Hp} {Rb : β → Prop} {L : Hp} {Q' : Exit → Act → World → Prop} (b : β) (hb : Rb b) (hF : FrLe (frb b) fr) (hw : ∀ w, Kn w H S → Kn w (HB b ++ L) S') : QW N [] (Exit.then (AssignQ N frb HB Rb L S') Q') .normal fr H S :=
  ⟨fun _ w ha hk => ⟨b, hb, ha.le hF, hw w hk⟩⟩
variable {γ : Type} {HH : γ → Hp} {R : Nat → γ → Prop} {X : Code → Nat → γ → Prop} {k : Nat} {L : Hp}
theorem qw_rnd_go (c : γ) (hR : R (k + 1) c) (hw : ∀ w, Kn w H S → Kn w (L ++ HH c) S') : QW N ds (RoundQ HH R X k L S') .normal fr H S := ⟨fun _ w _ hk => ⟨c, hR, hw w hk⟩⟩
theorem qw_rnd_ret (c : γ) (hR : X .ret (k + 1) c) (hw : ∀ w, Kn w H S → Kn w (L ++ HH c) S') : QW N ds (RoundQ HH R X k L S') .ret fr H S := ⟨fun _ w _ hk => ⟨c, hR, hw w hk⟩⟩
theorem qw_rnd_exit {id : Nat} (c : γ) (hR : X (.exit id) (k + 1) c) (hw : ∀ w, Kn w H S → Kn w (L ++ HH c) S') : QW N ds (RoundQ HH R X k L S') (.exit id) fr H S := ⟨fun _ w _ hk => ⟨c, hR, hw w hk⟩⟩
end

/-! ### the iterator's side: a call of yield -/
section
variable {P : Program} {r : Option Nat} {N : Nat} {ds : List Deferred} {ops : Array Oper} {Q : Exit → Act → World → Prop} {fr : Fr} {H : Hp} {S : List World} {l : List Oper}
variable {t : Tmp} {ty : TypeId} {pos : String} {aft : Array Edge} {g : Option (Nat × Bool)}
theorem o_y {x : Operand} {xs : List Operand} {ats : Array TypeId} {lp : Nat} {vs : List Value} (hc : chk N ops fr ⟨some t, .call ⟨.value x, xs.toArray, ats⟩, ty, pos, aft, g⟩ = some true)
    (hx : ev fr x = some (.func (.yield lp) #[] #[])) (hxs : xs.mapM (ev fr) = some vs)
    (h : ∀ w, Kn w H S → YieldAt Fence.wide 0 P lp vs.toArray w fun e w' => ∃ v H' S', e = .returned v ∧ Kn w' H' S' ∧ OW P r N ds ops l Q ((t, v) :: fr) H' S') :
    OW P r N ds ops (⟨some t, .call ⟨.value x, xs.toArray, ats⟩, ty, pos, aft, g⟩ :: l) Q fr H S := by
  refine ⟨fun a w ha hw => ?_⟩
  unfold wpListIn
  rw [gd_spec ha (chk_spec hc).2.2, if_pos rfl]
  refine ⟨fun f _ => FF_fn r f, ?_⟩
  rw [Oper.semAt_plain _ _ _ (by intro c e; cases e)]
  obtain ⟨fn, tmps, assign, body, hy, hR⟩ := h w hw
  have hrun : (execOp a.eval ⟨some t, .call ⟨.value x, xs.toArray, ats⟩, ty, pos, aft, g⟩).run P w = .ok (.round lp fn tmps assign body) w := by
    have e1 : xs.toArray.map a.eval = vs.toArray := by rw [← evs_map ha _ _ hxs]; simp
    simp only [execOp, resolve, e1, ha.ev hx, Deferred.ofValue, Sem.run_bind, Sem.run_pure, Result.andThen_ok, invoke]
    simpa using hy
  rw [hrun, Oper.uponIn_round]
  refine ⟨by simp [FF_depth], ?_⟩
  have hR' : RoundIn (FF r) 0 P lp fn tmps assign body w (fun e w' => ∃ v H' S', e = .returned v ∧ Kn w' H' S' ∧ OW P r N ds ops l Q ((t, v) :: fr) H' S') :=
    ⟨FF_fn r fn, fun c cs _ => by have := hR.2 c cs (room_wide _); rwa [← fenced_FF r] at this⟩
  refine hR'.mono ?_
  rintro e w' ⟨v, H', S', rfl, hk, ho⟩
  exact ho.run _ _ (ha.put (by have := (chk_spec hc).2.1; simpa [dstOk] using this) v) hk
end

/-! ### the end of a function that ranged over functions -/
inductive UpdD : Hp → List Deferred → Hp → Prop
  | nil {H : Hp} : UpdD H [] H
  | cons {H H1 H2 : Hp} {D : Nat} {ds : List Deferred} (u : Upd H D (.deferred (some [])) (.deferred none) H1) (r : UpdD H1 ds H2) : UpdD H ({ target := .collected D, args := #[] } :: ds) H2
section
variable {P : Program} {fn : Func} {R : Ending → World → Prop} {fr : Fr} {N : Nat}
theorem leaves_m {tmps : Array Value} {v : Value} {S : List World} : ∀ (ds : List Deferred) (H H' : Hp) (w : World), UpdD H ds H' → Kn w H S → (∀ w, Kn w H' S → (results fn tmps).run P w = .ok v w ∧ R (.returned v) w) →
    LeavesInM Fence.wide 0 P fn tmps R ds .returning w
  | [], H, H', w, u, hk, h => by cases u; exact ⟨v, h w hk⟩
  | d :: ds, H, H', w, u, hk, h => by
    cases u with
    | cons u r =>
      rename_i H1 D
      have hK : w.heap[D]? = some (.deferred (some [])) := hk.has _ _ u.mem
      refine ⟨by simp, .inl ⟨D, _, rfl, run_takeDeferred hK, ?_⟩⟩
      exact leaves_m ds H1 H' _ r (hk.turn u (turned_putObj _ (Array.getElem?_eq_some_iff.1 hK).1)) h
variable {H H' : Hp} {S : List World} {ds : List Deferred} {e : Exit} (he : e = .ret ∨ e = .normal) (hu : UpdD H ds H')
include he hu
theorem finM1 {rv : ResultVar} {v : Value} (h : fn.results = #[rv]) (hv : ResIs P fr H' S rv v) (hR : ∀ w, Kn w H' S → R (.returned v) w) : QW N ds (bodyPostM Fence.wide 0 P fn R) e fr H S := ⟨fun a w ha hw => by
  have key : LeavesInM Fence.wide 0 P fn a.tmps R a.defers .returning w := by
    rw [ha.defs]; exact leaves_m ds H H' w hu hw fun w' hw' => ⟨results1 h (hv _ _ a w' ha hw'), hR w' hw'⟩
  rcases he with rfl | rfl <;> exact key⟩
theorem finMN {rvs : List ResultVar} {vs : List Value} (h : fn.results = rvs.toArray) (hl : vs.length ≠ 1) (hv : All2 (ResIs P fr H' S) rvs vs) (hR : ∀ w, Kn w H' S → R (.returned (.tuple vs.toArray)) w) : QW N ds (bodyPostM Fence.wide 0 P fn R) e fr H S := ⟨fun a w ha hw => by
  have key : LeavesInM Fence.wide 0 P fn a.tmps R a.defers .returning w := by
    rw [ha.defs]; exact leaves_m ds H H' w hu hw fun w' hw' => ⟨resultsN h hl (by
      clear h hl hR
      induction rvs generalizing vs with
      | nil => cases vs with
        | nil => trivial
        | cons => exact hv.elim
      | cons rv rvs ih => cases vs with
        | nil => exact hv.elim
        | cons v vs => exact ⟨hv.1 _ _ a w' ha hw', ih hv.2⟩), hR w' hw'⟩
  rcases he with rfl | rfl <;> exact key⟩
theorem finM2 {r1 r2 : ResultVar} {v1 v2 : Value} (h : fn.results = #[r1, r2]) (h1 : ResIs P fr H' S r1 v1) (h2 : ResIs P fr H' S r2 v2) (hR : ∀ w, Kn w H' S → R (.returned (.tuple #[v1, v2])) w) : QW N ds (bodyPostM Fence.wide 0 P fn R) e fr H S :=
  finMN he hu (rvs := [_, _]) (vs := [_, _]) h (by simp) ⟨h1, h2, trivial⟩ hR
theorem finM3 {r1 r2 r3 : ResultVar} {v1 v2 v3 : Value} (h : fn.results = #[r1, r2, r3]) (h1 : ResIs P fr H' S r1 v1) (h2 : ResIs P fr H' S r2 v2) (h3 : ResIs P fr H' S r3 v3) (hR : ∀ w, Kn w H' S → R (.returned (.tuple #[v1, v2, v3])) w) : QW N ds (bodyPostM Fence.wide 0 P fn R) e fr H S :=
  finMN he hu (rvs := [_, _, _]) (vs := [_, _, _]) h (by simp) ⟨h1, h2, h3, trivial⟩ hR
end
end Go.Proofs.YtmlemnbhjbaedaaGreatDoor

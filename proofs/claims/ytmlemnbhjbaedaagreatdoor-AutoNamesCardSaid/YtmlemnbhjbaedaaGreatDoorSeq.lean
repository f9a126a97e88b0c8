/-
  The engine's laws for slices that the function itself makes and appends to. Nothing here speaks of a program.
-/
import Derived.Test.YtmlemnbhjbaedaaGreatDoorMap
import Derived.Deep.AppendSrc
import Derived.Laws.AppendOwn
namespace Go.Proofs.YtmlemnbhjbaedaaGreatDoor
open Go.RowKit
set_option linter.unusedSimpArgs false
set_option linter.unusedVariables false

/-! the heap's list, in another order -/
theorem Kn.perm {w : World} {H H' : Hp} {S : List World} (h : Kn w H S) (p : H.Perm H') : Kn w H' S := by
  have hk : (keysOf H).Perm (keysOf H') := p.map _
  refine ⟨fun b o hm => h.has b o (p.mem_iff.2 hm), hk.nodup_iff.1 h.nodup, fun s hs => ?_⟩
  have k := h.keep s hs
  exact ⟨k.os, k.tape, k.output, k.size, fun i hi hx => k.block i hi (fun hm => hx (hk.mem_iff.1 hm))⟩
/-- a block of a callee's, taken over -/
theorem Kn.adopt {w : World} {H : Hp} {S : List World} {b : Nat} {o : Obj} (h : Kn w H S) (hb : w.heap[b]? = some o) (hx : b ∉ keysOf H) : Kn w ((b, o) :: H) S := by
  refine ⟨fun c x hm => ?_, ?_, fun s hs => ?_⟩
  · rcases List.mem_cons.1 hm with e | hm
    · cases e; exact hb
    · exact h.has c x hm
  · simp only [keysOf, List.map_cons, List.nodup_cons]; exact ⟨hx, h.nodup⟩
  · have k := h.keep s hs
    exact ⟨k.os, k.tape, k.output, k.size, fun i hi hn => k.block i hi (fun hm => hn (by simp only [keysOf, List.map_cons, List.mem_cons]; exact .inr hm))⟩
@[simp] theorem keysOf_append (G H : Hp) : keysOf (G ++ H) = keysOf G ++ keysOf H := by simp [keysOf]
@[simp] theorem keysOf_nil : keysOf [] = [] := rfl
@[simp] theorem keysOf_cons (p : Nat × Obj) (H : Hp) : keysOf (p :: H) = p.1 :: keysOf H := rfl
theorem Upd.skip {G H H' : Hp} {b : Nat} {o o' : Obj} (u : Upd H b o o' H') : Upd (G ++ H) b o o' (G ++ H') := by
  induction G with
  | nil => exact u
  | cons p G ih => exact Upd.there ih

/-- a slice of one's own: its block, where it begins in it, its capacity, the block's cells; none: nil -/
abbrev Own := Option (Nat × Nat × Nat × Array Value)
def Own.v : Own → Nat → Value
  | none, _ => .slice none 0 0
  | some (b, off, cap, _), n => .slice (some ⟨b, off, none⟩) n cap
def Own.hp (T : TypeId) : Own → Hp
  | none => []
  | some (b, _, _, cs) => [(b, .cells cs T)]
/-- n elements of k cells each -/
def OwnIs (k lo n : Nat) (xs : List Value) : Own → Prop
  | none => n = 0 ∧ xs = []
  | some (b, off, cap, cs) => lo ≤ b ∧ n ≤ cap ∧ cap ≤ maxLen ∧ off + cap * k ≤ cs.size ∧ (cs.toList.drop off).take (n * k) = xs
theorem own_len {k lo n : Nat} {xs : List Value} {o : Own} (h : OwnIs k lo n xs o) : xs.length = n * k := by
  match o, h with
  | none, ⟨h1, h2⟩ => simp [h1, h2]
  | some (b, off, cap, cs), ⟨_, h2, _, h4, h5⟩ =>
    rw [← h5]; simp
    have := Nat.mul_le_mul_right k h2
    omega
theorem own_keys {k lo n : Nat} {xs : List Value} {o : Own} (T : TypeId) (h : OwnIs k lo n xs o) : ∀ q ∈ keysOf (o.hp T), lo ≤ q := by
  match o, h with
  | none, _ => simp [Own.hp]
  | some (b, off, cap, cs), ⟨h1, _⟩ => simp [Own.hp]; exact h1
theorem own_cell {k lo n : Nat} {xs : List Value} {b off cap : Nat} {cs : Array Value} (h : OwnIs k lo n xs (some (b, off, cap, cs))) {j : Nat} {v : Value} (hj : xs[j]? = some v) : cs[off + j]? = some v := by
  obtain ⟨_, _, _, _, h5⟩ := h
  rw [← h5, List.getElem?_take] at hj
  split at hj
  · rw [List.getElem?_drop] at hj; simpa using hj
  · cases hj

theorem turned_setCells : ∀ (vs : List Value) (off : Nat) (w : World) (b : Nat) (cs : Array Value) (t : TypeId), w.heap[b]? = some (.cells cs t) → off + vs.length ≤ cs.size → Turned b (.cells (splice cs off vs.toArray) t) w (w.setCells b off vs)
  | [], off, w, b, cs, t, hb, _ => by
    have e : splice cs off (#[] : Array Value) = cs := by simp [splice]
    exact ⟨rfl, rfl, rfl, rfl, by rw [show ([] : List Value).toArray = #[] from rfl, e]; exact hb, fun _ _ => rfl⟩
  | v :: vs, off, w, b, cs, t, hb, hl => by
    have t1 := turned_setCell (off := off) v hb
    have hl' : off + 1 + vs.length ≤ (cs.setIfInBounds off v).size := by simp at hl ⊢; omega
    have t2 := turned_setCells vs (off + 1) (w.setCell ⟨b, off, none⟩ v) b (cs.setIfInBounds off v) t t1.this hl'
    have e : splice (cs.setIfInBounds off v) (off + 1) vs.toArray = splice cs off (v :: vs).toArray := by
      simp only [List.length_cons] at hl
      simp only [splice]
      congr 1
      apply List.ext_getElem?
      intro i
      simp only [List.append_assoc, Array.toList_setIfInBounds, List.getElem?_append, List.length_take, List.length_set, List.getElem?_take, List.getElem?_set, Array.length_toList, List.getElem?_drop, List.size_toArray, List.length_cons]
      by_cases h1 : i < off
      · simp only [show i < min (off + 1) cs.size from by omega, show i < min off cs.size from by omega, show i < off + 1 from by omega, h1, if_true, show ¬ off = i from by omega, if_false]
      · by_cases h2 : i = off
        · subst h2
          simp only [show i < min (i + 1) cs.size from by omega, show ¬ i < min i cs.size from by omega, show i < i + 1 from by omega, if_true, if_false, show min i cs.size = i from by omega, Nat.sub_self, Nat.zero_lt_succ, List.getElem?_cons_zero, show i < cs.size from by omega]
          simp
        · obtain ⟨d, rfl⟩ : ∃ d, i = off + 1 + d := ⟨i - (off + 1), by omega⟩
          have m1 : min (off + 1) cs.size = off + 1 := by omega
          have m2 : min off cs.size = off := by omega
          have n1 : ¬ off + 1 + d < off + 1 := by omega
          have n2 : ¬ off + 1 + d < off := by omega
          have e1 : off + 1 + d - (off + 1) = d := by omega
          have e2 : off + 1 + d - off = d + 1 := by omega
          simp only [m1, m2, n1, n2, if_false, e1, e2, List.getElem?_cons_succ, Nat.add_lt_add_iff_right]
          by_cases h3 : d < vs.length
          · simp only [h3, if_true]
          · simp only [h3, if_false, show ¬ off = off + 1 + vs.length + (d - vs.length) from by omega]
            congr 1; omega
    show Turned b _ w ((w.setCell ⟨b, off, none⟩ v).setCells b (off + 1) vs)
    rw [← e]
    exact ⟨t2.os.trans t1.os, t2.tape.trans t1.tape, t2.output.trans t1.output, t2.size.trans t1.size, t2.this, fun q hq => (t2.other q hq).trans (t1.other q hq)⟩
theorem splice_take {cs : Array Value} {off n k : Nat} {xs news : List Value} (hx : (cs.toList.drop off).take (n * k) = xs) (hl : xs.length = n * k) {m : Nat} (hm : news.length = m * k) (hs : off + (n + m) * k ≤ cs.size) :
    ((splice cs (off + n * k) news.toArray).toList.drop off).take ((n + m) * k) = xs ++ news := by
  have e : (n + m) * k = n * k + m * k := Nat.add_mul _ _ _
  rw [e] at hs ⊢
  subst hx
  simp only [splice]
  apply List.ext_getElem?
  intro i
  simp only [List.getElem?_take, List.getElem?_drop, List.append_assoc, List.getElem?_append, List.length_take, Array.length_toList, List.size_toArray, List.length_drop]
  by_cases h1 : i < n * k
  · simp only [show i < n * k + m * k from by omega, show off + i < min (off + n * k) cs.size from by omega, show off + i < off + n * k from by omega, show i < min (n * k) (cs.size - off) from by omega, h1, if_true]
  · by_cases h2 : i < n * k + m * k
    · simp only [h2, show ¬ off + i < min (off + n * k) cs.size from by omega, show ¬ i < min (n * k) (cs.size - off) from by omega, show off + i - min (off + n * k) cs.size < news.length from by omega, if_true, if_false]
      congr 1; omega
    · simp only [h2, show ¬ i < min (n * k) (cs.size - off) from by omega, if_false]
      rw [List.getElem?_eq_none (by omega)]
section
variable {P : Program} {r : Option Nat} {N : Nat} {ds : List Deferred} {ops : Array Oper} {Q : Exit → Act → World → Prop} {fr : Fr} {H : Hp} {S : List World} {l : List Oper}
variable {t : Tmp} {op : Op} {ty : TypeId} {pos : String} {aft : Array Edge} {g : Option (Nat × Bool)}
theorem o_gen (hc : chk N ops fr ⟨some t, op, ty, pos, aft, g⟩ = some true)
    (h : ∀ a w, Ag N ds a fr → Kn w H S → ∃ v w' H' S', Op1 P ⟨some t, op, ty, pos, aft, g⟩ a w v w' ∧ Kn w' H' S' ∧ OW P r N ds ops l Q ((t, v) :: fr) H' S') : OW P r N ds ops (⟨some t, op, ty, pos, aft, g⟩ :: l) Q fr H S :=
  ow_gen (chk_spec hc).2.2 (chk_spec hc).1 (chk_spec hc).2.1 h
theorem o_append {x y : Operand} {ts tx e : TypeId} {z : Value} {k by_ lo n m : Nat} {xs news : List Value} {yv : Value} {o : Own} {JL H0 : Hp}
    (hc : chk N ops fr ⟨some t, .call ⟨.builtin .append, #[x, y], #[ts, tx]⟩, ty, pos, aft, g⟩ = some true)
    (hu : P.underlying ts = some (.slice e)) (hsz : (P.info? e).map (·.size) = some k) (hby : (P.info? e).map (·.bytes) = some by_) (hz : (P.info? e).bind (·.zero) = some z) (hzs : z.cells.size = k)
    (hx : ev fr x = some (o.v n)) (hy : ev fr y = some yv) (hH : H = o.hp e ++ (JL ++ H0)) (ho : OwnIs k lo n xs o) (hJ : ∀ q ∈ keysOf JL, lo ≤ q) (hlo : ∃ s ∈ S, lo ≤ s.heap.size)
    (hs : ∀ w, Kn w H S → Src P k tx yv m news w) (hb : (n + m) * by_ ≤ 140737488355328) (hm : n + m ≤ maxLen)
    (h : ∀ o' JL', OwnIs k lo (n + m) (xs ++ news) o' → (∀ q ∈ keysOf JL', lo ≤ q) → OW P r N ds ops l Q ((t, o'.v (n + m)) :: fr) (o'.hp e ++ (JL' ++ H0)) S) :
    OW P r N ds ops (⟨some t, .call ⟨.builtin .append, #[x, y], #[ts, tx]⟩, ty, pos, aft, g⟩ :: l) Q fr H S := by
  refine o_gen hc fun a w ha hw => ?_
  obtain ⟨i, hi⟩ : ∃ i, P.info? e = some i := by
    cases hi : P.info? e with
    | none => rw [hi] at hsz; cases hsz
    | some i => exact ⟨i, rfl⟩
  have hsi : i.size = k := by simpa [hi] using hsz
  have hbi : i.bytes = by_ := by simpa [hi] using hby
  have hzi : i.zero = some z := by simpa [hi] using hz
  subst hsi hbi
  have hsrc := hs w hw
  have hlen := own_len ho
  have hw' := hw
  subst hH
  have e2 : execOp a.eval ⟨some t, .call ⟨.builtin .append, #[x, y], #[ts, tx]⟩, ty, pos, aft, g⟩ = (do pure (.value (← Builtin.append_ #[ts, tx] ty (#[x, y].map a.eval)))) := rfl
  have hargs : #[x, y].map a.eval = #[o.v n, yv] := by simp [ha.ev hx, ha.ev hy]
  have hlow : lo ≤ w.heap.size := by obtain ⟨s, h1, h2⟩ := hlo; have := (hw.keep s h1).size; omega
  have hmax : maxLen ≤ 9223372036854775807 := by decide
  have grow : ∀ (base : Option Addr) (cap : Nat), o.v n = .slice base n cap → cap < n + m → (Builtin.firstCells i.size n (.slice base n cap)).run P w.drew = .ok xs.toArray w.drew →
      ∃ v w' H' S', Op1 P ⟨some t, .call ⟨.builtin .append, #[x, y], #[ts, tx]⟩, ty, pos, aft, g⟩ a w v w' ∧ Kn w' H' S' ∧ OW P r N ds ops l Q ((t, v) :: fr) H' S' := fun base cap hov hcap hfc => by
    have hfit : Builtin.nextslicecap (n + m) cap * i.bytes ≤ 281474976710656 := growslice_fits hcap hb
    have key := run_append_grow_src w ts tx ty e i z hu hi hzi base n cap xs hfc yv m news hsrc hcap (by omega) hfit
    have hge := grownCap_ge w (n + m) cap e
    have hle := grownCap_le_maxLen w (n + m) cap e hm
    generalize grownCap w (n + m) cap e = gc at key hge hle
    refine ⟨_, w.drew.alloc (.cells ((xs ++ news).toArray ++ Builtin.zeroCells z.cells (gc - (n + m))) e), Own.hp e (some (w.heap.size, 0, gc, (xs ++ news).toArray ++ Builtin.zeroCells z.cells (gc - (n + m)))) ++ ((o.hp e ++ JL) ++ H0), S, .inl ?_, ?_, h (some (w.heap.size, 0, gc, (xs ++ news).toArray ++ Builtin.zeroCells z.cells (gc - (n + m)))) (o.hp e ++ JL) ?_ ?_⟩
    · rw [e2, hargs, hov]
      simp [key, Own.v]
    · have h1 : Kn w.drew (o.hp e ++ (JL ++ H0)) S := ⟨hw.has, hw.nodup, fun s hs => let k := hw.keep s hs; ⟨k.os, k.tape, k.output, k.size, k.block⟩⟩
      have h2 := h1.alloc (.cells ((xs ++ news).toArray ++ Builtin.zeroCells z.cells (gc - (n + m))) e)
      simpa [Own.hp, List.append_assoc] using h2
    · refine ⟨hlow, hge, hle, ?_, ?_⟩
      · have e3 : (gc - (n + m)) * i.size + (n + m) * i.size = gc * i.size := by rw [← Nat.add_mul]; congr 1; omega
        have e4 := Nat.add_mul n m i.size
        simp [Builtin.zeroCells, hzs, hlen, hsrc.newsLen]
        omega
      · have e4 := Nat.add_mul n m i.size
        simp only [Array.toList_append, List.drop_zero]
        rw [List.take_append_of_le_length (by simp [hlen, hsrc.newsLen]; omega)]
        rw [List.take_of_length_le (by simp [hlen, hsrc.newsLen]; omega)]
    · intro q hq
      simp only [keysOf_append, List.mem_append] at hq
      rcases hq with hq | hq
      · exact own_keys e ho q hq
      · exact hJ q hq
  match o, ho with
  | none, ⟨h1, h2⟩ =>
    subst h1; subst h2
    by_cases h0 : m = 0
    · subst h0
      have hn : news = [] := List.eq_nil_of_length_eq_zero (by rw [hsrc.newsLen]; omega)
      subst hn
      refine ⟨_, w, _, S, .inl ?_, hw', h none JL ⟨rfl, rfl⟩ hJ⟩
      rw [e2, hargs]
      rcases hsrc.kind with ⟨e', hk⟩ | hk <;> simp [Own.v, Builtin.append_, run_underlying hu, run_underlying hk, sizeOf, typeInfo, hi, hsrc.len, hsrc.cells]
    · exact grow none 0 rfl (by omega) (run_firstCells_none _ _ _ _ _)
  | some (b, off, cap, cs), ⟨h1, h2, h3, h4, h5⟩ =>
    have hbk : w.heap[b]? = some (.cells cs e) := hw'.has _ _ (by simp [Own.hp])
    have hmk := Nat.mul_le_mul_right i.size h2
    by_cases hroom : n + m ≤ cap
    · have hr := Nat.mul_le_mul_right i.size hroom
      have e4 := Nat.add_mul n m i.size
      have hin : off + n * i.size + news.length ≤ cs.size := by rw [hsrc.newsLen]; omega
      have hcell : ∀ j, j < news.length → (w.cell? ⟨b, off + n * i.size + j, none⟩).isSome = true := fun j hj => by
        simp [World.cell?, hbk]; omega
      have hfrz : ∀ j, j < news.length → w.frozen? ⟨b, off + n * i.size + j, none⟩ = false := fun j _ => by simp [World.frozen?, hbk]
      have key := run_append_room_src w ts tx ty e i hu hi b off n cap yv m news hsrc hroom hcell hfrz
      have ht := turned_setCells news (off + n * i.size) w b cs e hbk hin
      refine ⟨_, w.setCells b (off + n * i.size) news, Own.hp e (some (b, off, cap, splice cs (off + n * i.size) news.toArray)) ++ (JL ++ H0), S, .inl ?_, ?_, h (some (b, off, cap, splice cs (off + n * i.size) news.toArray)) JL ?_ hJ⟩
      · rw [e2, hargs]; simp [Own.v, key]
      · exact hw'.turn (o := .cells cs e) (by simp only [Own.hp, List.singleton_append]; exact Upd.here) ht
      · refine ⟨h1, hroom, h3, by rw [splice_size _ _ _ (by simpa using hin)]; exact h4, ?_⟩
        exact splice_take h5 hlen hsrc.newsLen (by omega)
    · refine grow (some ⟨b, off, none⟩) cap rfl (by omega) ?_
      have := run_firstCells_some (P := P) w.drew i.size n ⟨b, off, none⟩ n cap xs hlen (fun j v hj => ?_)
      · exact this
      · have hc1 := own_cell (k := i.size) (lo := lo) (n := n) (xs := xs) (b := b) (off := off) (cap := cap) (cs := cs) ⟨h1, h2, h3, h4, h5⟩ hj
        rw [addr_add]
        show (match w.heap[b]? with | some (.cells c _ _) => _ | _ => _) = _
        rw [hbk]
        simp [hc1]
end
/-! a new block within a region that draws -/
section
variable {P : Program} {r : Option Nat} {N : Nat} {ds : List Deferred} {ops : Array Oper} {fr : Fr} {H : Hp} {S : List World} {l : List Oper} {K : List Oper → Acc → Prop} {m : Nat} {acc : Acc}
variable {t : Tmp} {op : Op} {ty : TypeId} {pos : String} {aft : Array Edge} {g : Option (Nat × Bool)}
theorem f_alloc {T : TypeId} {cs : Array Value} (hc : gd ops (frS ops ⟨some t, .alloc T, ty, pos, aft, g⟩ acc fr) ⟨some t, .alloc T, ty, pos, aft, g⟩ = some true) (hz : (P.info? T).bind (·.zero) = some (.agg cs))
    (h : FW P N ds ops fr H S K m l ((t, .sat fun v w => ∃ b, v = .pointer (some ⟨b, 0, none⟩) ∧ w.heap[b]? = some (.cells cs T) ∧ Fresh b H S) :: acc)) : FW P N ds ops fr H S K (m + 1) (⟨some t, .alloc T, ty, pos, aft, g⟩ :: l) acc :=
  fw_al (f := fun b => .pointer (some ⟨b, 0, none⟩)) (ob := .cells cs T) hc (fun _ _ _ _ _ _ => .inl (by simp [execOp, Instr.alloc, run_zeroValue' hz, newVar, newRow, Value.cells])) h
theorem end_sat {tail : List Oper} {Q : Exit → Act → World → Prop} {fr0 : Fr} {C : World → Prop} {ψ : Value → World → Prop} (h : ∀ v, EndFW P r N ds ops Q H S tail acc ((t, v) :: fr0) (fun w => C w ∧ ψ v w)) : EndFW P r N ds ops Q H S tail ((t, .sat ψ) :: acc) fr0 C := h
theorem end_nilA {tail : List Oper} {Q : Exit → Act → World → Prop} {fr0 : Fr} {C : World → Prop} {v : Value} {ob : Obj} {f : Nat → Value} (h : ∀ b, v = f b → Fresh b H S → OW P r N ds ops tail Q fr0 ((b, ob) :: H) S) :
    EndFW P r N ds ops Q H S tail [] fr0 (fun w => C w ∧ ∃ b, v = f b ∧ w.heap[b]? = some ob ∧ Fresh b H S) := fun a w ha hk hc => by
  obtain ⟨_, b, hv, hb, hf⟩ := hc
  exact (h b hv hf).run a w ha (hk.adopt hb fun hm => by have := hf.keys b hm; omega)
end
end Go.Proofs.YtmlemnbhjbaedaaGreatDoor

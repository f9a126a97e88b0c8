/-
  What the proof of AcctTotal stands on, part 7. No condition.
-/
import Derived.Test.YtgeelfdgnehdnaaZAcctTotalF
namespace Go.Proofs.Ytgeelfdgnehdnaa
set_option linter.unusedSimpArgs false
set_option linter.unusedVariables false
abbrev Pr := Dig × List UInt8
inductive T where
  | nil
  | leaf (k : Dig) (v : List UInt8)
  | fork (l r : T)
  deriving Inhabited
def T.all : T → List Pr
  | .nil => []
  | .leaf k v => [(k, v)]
  | .fork l r => l.all ++ r.all
def T.isFork : T → Bool
  | .fork _ _ => true
  | _ => false
def T.non : T → Bool
  | .nil => false
  | _ => true
def T.two (l r : T) : Bool := l.isFork || r.isFork || (l.non && r.non)
def T.ok : Nat → Dig → T → Bool
  | _, _, .nil => true
  | d, b, .leaf k _ => decide (d ≤ sharedD k b)
  | d, b, .fork l r => decide (d < 256) && T.ok (d + 1) b l && T.ok (d + 1) (turnM b d) r && T.two l r
def T.find (k : Dig) : Nat → T → Option (List UInt8)
  | _, .nil => none
  | _, .leaf k' v => if k' = k then some v else none
  | d, .fork l r => if bitN k d = 0 then l.find k (d + 1) else r.find k (d + 1)
def T.roads (d : Nat) : T → T × T
  | .nil => (.nil, .nil)
  | .leaf k v => if bitN k d = 0 then (.leaf k v, .nil) else (.nil, .leaf k v)
  | .fork l r => (l, r)
def T.put (k : Dig) (v : List UInt8) : Nat → T → T
  | _, .nil => .leaf k v
  | 0, .leaf _ _ => .leaf k v
  | 0, .fork l r => .fork l r
  | f + 1, .leaf k' v' => if k' = k then .leaf k v else
    if bitN k (255 - f) = 0 then .fork (T.put k v f (T.roads (255 - f) (.leaf k' v')).1) (T.roads (255 - f) (.leaf k' v')).2
    else .fork (T.roads (255 - f) (.leaf k' v')).1 (T.put k v f (T.roads (255 - f) (.leaf k' v')).2)
  | f + 1, .fork l r => if bitN k (255 - f) = 0 then .fork (T.put k v f l) r else .fork l (T.put k v f r)
def T.alone (l r : T) : Option T :=
  match l, r with
  | .nil, .nil => some .nil
  | .nil, .leaf k v => some (.leaf k v)
  | .leaf k v, .nil => some (.leaf k v)
  | _, _ => none
def T.join (l r : T) : T := (T.alone l r).getD (.fork l r)
def T.drop (k : Dig) : Nat → T → T
  | _, .nil => .nil
  | _, .leaf _ _ => .nil
  | d, .fork l r => if bitN k d = 0 then T.join (l.drop k (d + 1)) r else T.join l (r.drop k (d + 1))
def Srt (l : List Pr) : Prop := l.Pairwise fun a b => aheadD a.1 b.1 = true
def withL (l : List Pr) (k : Dig) (v : List UInt8) : List Pr := l.filter (fun p => aheadD p.1 k) ++ (k, v) :: l.filter (fun p => aheadD k p.1)
def withoutL (l : List Pr) (k : Dig) : List Pr := l.filter fun p => decide (p.1 ≠ k)
def findL (l : List Pr) (k : Dig) : Option (List UInt8) := (l.find? fun p => decide (p.1 = k)).map (·.2)
theorem findL_none {l : List Pr} {k : Dig} : findL l k = none ↔ ∀ p ∈ l, p.1 ≠ k := by
  simp only [findL, Option.map_eq_none_iff, List.find?_eq_none, decide_eq_true_eq]
theorem srt_uniq {l : List Pr} (h : Srt l) {p q : Pr} (hp : p ∈ l) (hq : q ∈ l) (e : p.1 = q.1) : p = q := by
  induction l with
  | nil => simp at hp
  | cons x l ih =>
    have h := List.pairwise_cons.1 h
    simp only [List.mem_cons] at hp hq
    rcases hp with rfl | hp <;> rcases hq with rfl | hq
    · rfl
    · exact absurd e (ahead_ne (h.1 q hq))
    · exact absurd e.symm (ahead_ne (h.1 p hp))
    · exact ih h.2 hp hq
theorem findL_some {l : List Pr} (h : Srt l) {k : Dig} {v : List UInt8} : findL l k = some v ↔ (k, v) ∈ l := by
  simp only [findL, Option.map_eq_some_iff]
  constructor
  · rintro ⟨⟨k', v'⟩, h1, rfl⟩
    have h2 := List.find?_some h1
    have := List.mem_of_find?_eq_some h1
    simp only [decide_eq_true_eq] at h2
    subst h2; exact this
  · intro hm
    cases hf : l.find? fun p => decide (p.1 = k) with
    | none =>
      have := List.find?_eq_none.1 hf _ hm
      simp at this
    | some p =>
      have h2 := List.find?_some hf
      have h3 := List.mem_of_find?_eq_some hf
      simp only [decide_eq_true_eq] at h2
      have := srt_uniq h h3 hm h2
      exact ⟨p, rfl, by rw [this]⟩
theorem mem_withL {l : List Pr} {k : Dig} {v : List UInt8} {p : Pr} : p ∈ withL l k v ↔ p = (k, v) ∨ (p ∈ l ∧ p.1 ≠ k) := by
  simp only [withL, List.mem_append, List.mem_filter, List.mem_cons]
  constructor
  · rintro (⟨h1, h2⟩ | rfl | ⟨h1, h2⟩)
    · exact .inr ⟨h1, ahead_ne h2⟩
    · exact .inl rfl
    · exact .inr ⟨h1, fun e => ahead_ne h2 e.symm⟩
  · rintro (rfl | ⟨h1, h2⟩)
    · exact .inr (.inl rfl)
    · rcases ahead_total h2 with h | h
      · exact .inl ⟨h1, h⟩
      · exact .inr (.inr ⟨h1, h⟩)
theorem mem_withoutL {l : List Pr} {k : Dig} {p : Pr} : p ∈ withoutL l k ↔ p ∈ l ∧ p.1 ≠ k := by simp [withoutL]
def Zr (d : Nat) (b : Dig) : Prop := ∀ j, d ≤ j → j < 256 → bitN b j = 0
theorem zr_mono {d : Nat} {b : Dig} (h : Zr d b) : Zr (d + 1) b := fun j h1 h2 => h j (by omega) h2
theorem zr_turn {d : Nat} {b : Dig} (h : Zr d b) (hd : d < 256) : Zr (d + 1) (turnM b d) := fun j h1 h2 => by rw [bit_turn_ne b d j hd h2 (by omega)]; exact h j (by omega) h2
theorem zr_zero : Zr 0 zeroD := fun j _ hj => by
  unfold bitN
  have : kn zeroD (j / 8) = 0 := by
    unfold kn zeroD
    simp only [List.getElem?_replicate]
    split <;> rfl
  rw [this]; simp
theorem turn_pre {b : Dig} {d : Nat} (hd : d < 256) {j : Nat} (hj : j < d) : bitN (turnM b d) j = bitN b j := bit_turn_ne b d j hd (by omega) (by omega)
theorem side_l {b k : Dig} {d : Nat} (hz : Zr d b) (hd : d < 256) (h : d + 1 ≤ sharedD k b) : d ≤ sharedD k b ∧ bitN k d = 0 :=
  ⟨by omega, by rw [(shared_ge (by omega)).1 h d (by omega)]; exact hz d (Nat.le_refl _) hd⟩
theorem side_r {b k : Dig} {d : Nat} (hz : Zr d b) (hd : d < 256) (h : d + 1 ≤ sharedD k (turnM b d)) : d ≤ sharedD k b ∧ bitN k d = 1 := by
  have h1 := (shared_ge (by omega)).1 h
  refine ⟨(shared_ge (by omega)).2 fun j hj => ?_, ?_⟩
  · rw [h1 j (by omega), turn_pre hd hj]
  · rw [h1 d (by omega), bit_turn_eq b d hd, hz d (Nat.le_refl _) hd]
theorem side_l' {b k : Dig} {d : Nat} (hz : Zr d b) (hd : d < 256) (h : d ≤ sharedD k b) (hb : bitN k d = 0) : d + 1 ≤ sharedD k b := by
  refine (shared_ge (by omega)).2 fun j hj => ?_
  rcases Nat.lt_succ_iff_lt_or_eq.1 hj with hj | rfl
  · exact (shared_ge (by omega)).1 h j hj
  · rw [hb, hz j (Nat.le_refl _) hd]
theorem side_r' {b k : Dig} {d : Nat} (hz : Zr d b) (hd : d < 256) (h : d ≤ sharedD k b) (hb : ¬ bitN k d = 0) : d + 1 ≤ sharedD k (turnM b d) := by
  refine (shared_ge (by omega)).2 fun j hj => ?_
  rcases Nat.lt_succ_iff_lt_or_eq.1 hj with hj | rfl
  · rw [turn_pre hd hj]; exact (shared_ge (by omega)).1 h j hj
  · rw [bit_turn_eq b j hd, hz j (Nat.le_refl _) hd]
    have := bitN_le k j
    omega
theorem ok_fork {d : Nat} {b : Dig} {l r : T} : T.ok d b (.fork l r) = true ↔ d < 256 ∧ T.ok (d + 1) b l = true ∧ T.ok (d + 1) (turnM b d) r = true ∧ T.two l r = true := by
  simp only [T.ok, Bool.and_eq_true, decide_eq_true_eq, and_assoc]
theorem ok_keys : ∀ {t : T} {d : Nat} {b : Dig}, Zr d b → t.ok d b = true → ∀ p ∈ t.all, d ≤ sharedD p.1 b
  | .nil, _, _, _, _, p, hp => by simp [T.all] at hp
  | .leaf k v, d, b, _, h, p, hp => by
    simp only [T.all, List.mem_singleton] at hp
    subst hp
    exact of_decide_eq_true h
  | .fork l r, d, b, hz, h, p, hp => by
    obtain ⟨hd, h1, h2, _⟩ := ok_fork.1 h
    simp only [T.all, List.mem_append] at hp
    rcases hp with hp | hp
    · exact (side_l hz hd (ok_keys (zr_mono hz) h1 p hp)).1
    · exact (side_r hz hd (ok_keys (zr_turn hz hd) h2 p hp)).1
theorem ok_bits {l r : T} {d : Nat} {b : Dig} (hz : Zr d b) (h : (T.fork l r).ok d b = true) : (∀ p ∈ l.all, bitN p.1 d = 0) ∧ ∀ p ∈ r.all, bitN p.1 d = 1 := by
  obtain ⟨hd, h1, h2, _⟩ := ok_fork.1 h
  exact ⟨fun p hp => (side_l hz hd (ok_keys (zr_mono hz) h1 p hp)).2, fun p hp => (side_r hz hd (ok_keys (zr_turn hz hd) h2 p hp)).2⟩
theorem ahead_of {a b c : Dig} {d : Nat} (hd : d < 256) (ha : d ≤ sharedD a c) (hb : d ≤ sharedD b c) (h0 : bitN a d = 0) (h1 : bitN b d = 1) : aheadD a b = true :=
  ahead_iff.2 ⟨d, hd, fun j hj => by rw [(shared_ge (by omega)).1 ha j hj, (shared_ge (by omega)).1 hb j hj], h0, h1⟩
theorem ok_srt : ∀ {t : T} {d : Nat} {b : Dig}, Zr d b → t.ok d b = true → Srt t.all
  | .nil, _, _, _, _ => List.Pairwise.nil
  | .leaf k v, _, _, _, _ => List.pairwise_singleton _ _
  | .fork l r, d, b, hz, h => by
    obtain ⟨hd, h1, h2, _⟩ := ok_fork.1 h
    refine List.pairwise_append.2 ⟨ok_srt (zr_mono hz) h1, ok_srt (zr_turn hz hd) h2, fun p hp q hq => ?_⟩
    have a1 := side_l hz hd (ok_keys (zr_mono hz) h1 p hp)
    have a2 := side_r hz hd (ok_keys (zr_turn hz hd) h2 q hq)
    exact ahead_of hd a1.1 a2.1 a1.2 a2.2
theorem find_spec (k : Dig) : ∀ {t : T} {d : Nat} {b : Dig}, Zr d b → t.ok d b = true → t.find k d = findL t.all k
  | .nil, _, _, _, _ => rfl
  | .leaf k' v, _, _, _, _ => by
    simp only [T.find, T.all, findL, List.find?_cons, List.find?_nil]
    by_cases e : k' = k <;> simp [e]
  | .fork l r, d, b, hz, h => by
    obtain ⟨hd, h1, h2, _⟩ := ok_fork.1 h
    obtain ⟨k1, k2⟩ := ok_bits hz h
    have i1 := find_spec k (zr_mono hz) h1
    have i2 := find_spec k (zr_turn hz hd) h2
    simp only [T.find, T.all, findL, List.find?_append]
    simp only [findL] at i1 i2
    split
    · rename_i hb
      have : r.all.find? (fun p => decide (p.1 = k)) = none := List.find?_eq_none.2 fun p hp e => by
        have := k2 p hp
        rw [of_decide_eq_true e] at this; omega
      rw [this, Option.or_none, i1]
    · rename_i hb
      have : l.all.find? (fun p => decide (p.1 = k)) = none := List.find?_eq_none.2 fun p hp e => by
        have := k1 p hp
        rw [of_decide_eq_true e] at this; omega
      rw [this, Option.none_or, i2]
theorem put_non (k : Dig) (v : List UInt8) : ∀ (f : Nat) (t : T), (t.put k v f).non = true
  | f, .nil => by cases f <;> rfl
  | 0, .leaf _ _ => rfl
  | 0, .fork _ _ => rfl
  | f + 1, .leaf k' v' => by
    simp only [T.put]
    split
    · rfl
    · split <;> rfl
  | f + 1, .fork l r => by
    simp only [T.put]
    split <;> rfl
theorem put_fork (k : Dig) (v : List UInt8) (f : Nat) {t : T} (h : t.isFork = true) : (t.put k v f).isFork = true := by
  cases t with
  | nil => cases h
  | leaf _ _ => cases h
  | fork l r =>
    cases f with
    | zero => rfl
    | succ f => simp only [T.put]; split <;> rfl
theorem tput_leaf (k k' : Dig) (v v' : List UInt8) (f : Nat) (h : k' ≠ k) : ((T.leaf k' v').put k v (f + 1)).isFork = true := by
  simp only [T.put, if_neg h]
  split <;> rfl
theorem two_l {l l' r : T} (h : T.two l r = true) (h1 : l.isFork = true → l'.isFork = true) (h2 : l'.non = true) : T.two l' r = true := by
  cases l <;> cases l' <;> cases r <;> simp [T.two, T.isFork, T.non] at h h1 h2 ⊢
theorem two_r {l r r' : T} (h : T.two l r = true) (h1 : r.isFork = true → r'.isFork = true) (h2 : r'.non = true) : T.two l r' = true := by
  cases l <;> cases r <;> cases r' <;> simp [T.two, T.isFork, T.non] at h h1 h2 ⊢
theorem filt_all {l : List Pr} {p : Pr → Bool} (h : ∀ x ∈ l, p x = true) : l.filter p = l := List.filter_eq_self.2 h
theorem filt_none {l : List Pr} {p : Pr → Bool} (h : ∀ x ∈ l, p x = false) : l.filter p = [] := List.filter_eq_nil_iff.2 fun x hx => by rw [h x hx]; exact Bool.false_ne_true
theorem withL_l {l r : List Pr} {k : Dig} (v : List UInt8) (h : ∀ p ∈ r, aheadD k p.1 = true) : withL (l ++ r) k v = withL l k v ++ r := by
  simp only [withL, List.filter_append]
  rw [filt_none (l := r) (p := fun p => aheadD p.1 k) fun p hp => ahead_asymm (h p hp), filt_all (l := r) (p := fun p => aheadD k p.1) h]
  simp
theorem withL_r {l r : List Pr} {k : Dig} (v : List UInt8) (h : ∀ p ∈ l, aheadD p.1 k = true) : withL (l ++ r) k v = l ++ withL r k v := by
  simp only [withL, List.filter_append]
  rw [filt_all (l := l) (p := fun p => aheadD p.1 k) h, filt_none (l := l) (p := fun p => aheadD k p.1) fun p hp => ahead_asymm (h p hp)]
  simp
theorem withL_one (k : Dig) (v v' : List UInt8) : withL [(k, v')] k v = [(k, v)] := by
  simp [withL, ahead_self]
theorem put_spec (k : Dig) (v : List UInt8) : ∀ (f : Nat) (t : T) {d : Nat} {b : Dig}, d + f = 256 → Zr d b → t.ok d b = true → d ≤ sharedD k b → (t.put k v f).ok d b = true ∧ (t.put k v f).all = withL t.all k v
  | f, .nil, d, b, _, hz, h, hk => by
    cases f <;> exact ⟨decide_eq_true hk, by simp [T.put, T.all, withL]⟩
  | 0, .leaf k' v', d, b, hf, hz, h, hk => by
    have h := of_decide_eq_true h
    have : k' = k := bits_ext fun j hj => by rw [(shared_ge (by omega)).1 h j (by omega), (shared_ge (by omega)).1 hk j (by omega)]
    subst this
    exact ⟨decide_eq_true hk, by simp only [T.put, T.all]; rw [withL_one]⟩
  | 0, .fork l r, d, b, hf, hz, h, hk => by
    obtain ⟨hd, _⟩ := ok_fork.1 h
    omega
  | f + 1, .leaf k' v', d, b, hf, hz, h, hk => by
    have hd : d < 256 := by omega
    have ed : 255 - f = d := by omega
    have h := of_decide_eq_true h
    simp only [T.put, ed]
    by_cases e : k' = k
    · subst e
      simp only [if_true]
      exact ⟨decide_eq_true hk, by simp only [T.all]; rw [withL_one]⟩
    · rw [if_neg e]
      have b1 := bitN_le k' d
      have b2 := bitN_le k d
      by_cases hb : bitN k d = 0
      · rw [if_pos hb]
        by_cases hb' : bitN k' d = 0
        · simp only [T.roads, hb', if_true]
          have hs : (T.leaf k' v').ok (d + 1) b = true := decide_eq_true (side_l' hz hd h hb')
          obtain ⟨i1, i2⟩ := put_spec k v f (.leaf k' v') (d := d + 1) (by omega) (zr_mono hz) hs (side_l' hz hd hk hb)
          refine ⟨ok_fork.2 ⟨hd, i1, rfl, ?_⟩, by simp only [T.all, List.append_nil]; exact i2⟩
          cases f with
          | zero =>
            exfalso
            refine e (bits_ext fun j hj => ?_)
            rcases Nat.lt_or_ge j d with h1 | h1
            · rw [(shared_ge (by omega)).1 h j h1, (shared_ge (by omega)).1 hk j h1]
            · have : j = d := by omega
              rw [this, hb, hb']
          | succ f => simp only [T.two, tput_leaf k k' v v' f e, Bool.true_or]
        · simp only [T.roads, hb', if_false]
          obtain ⟨i1, i2⟩ := put_spec k v f .nil (d := d + 1) (by omega) (zr_mono hz) rfl (side_l' hz hd hk hb)
          refine ⟨ok_fork.2 ⟨hd, i1, decide_eq_true (side_r' hz hd h hb'), ?_⟩, ?_⟩
          · rw [show T.put k v f .nil = .leaf k v by cases f <;> rfl]; rfl
          · simp only [T.all]
            have ha : aheadD k k' = true := ahead_of hd hk h hb (by omega)
            have e0 : (T.put k v f .nil).all = [(k, v)] := by cases f <;> rfl
            rw [e0]
            simp [withL, ha, ahead_asymm ha]
      · rw [if_neg hb]
        by_cases hb' : bitN k' d = 0
        · simp only [T.roads, hb', if_true]
          obtain ⟨i1, i2⟩ := put_spec k v f .nil (d := d + 1) (by omega) (zr_turn hz hd) rfl (side_r' hz hd hk hb)
          refine ⟨ok_fork.2 ⟨hd, decide_eq_true (side_l' hz hd h hb'), i1, ?_⟩, ?_⟩
          · rw [show T.put k v f .nil = .leaf k v by cases f <;> rfl]; rfl
          · simp only [T.all]
            have ha : aheadD k' k = true := ahead_of hd h hk hb' (by omega)
            have e0 : (T.put k v f .nil).all = [(k, v)] := by cases f <;> rfl
            rw [e0]
            simp [withL, ha, ahead_asymm ha]
        · simp only [T.roads, hb', if_false]
          have hs : (T.leaf k' v').ok (d + 1) (turnM b d) = true := decide_eq_true (side_r' hz hd h hb')
          obtain ⟨i1, i2⟩ := put_spec k v f (.leaf k' v') (d := d + 1) (by omega) (zr_turn hz hd) hs (side_r' hz hd hk hb)
          refine ⟨ok_fork.2 ⟨hd, rfl, i1, ?_⟩, by simp only [T.all, List.nil_append]; exact i2⟩
          cases f with
          | zero =>
            exfalso
            refine e (bits_ext fun j hj => ?_)
            rcases Nat.lt_or_ge j d with h1 | h1
            · rw [(shared_ge (by omega)).1 h j h1, (shared_ge (by omega)).1 hk j h1]
            · have : j = d := by omega
              rw [this]; omega
          | succ f => simp only [T.two, tput_leaf k k' v v' f e, Bool.true_or, Bool.or_true]
  | f + 1, .fork l r, d, b, hf, hz, h, hk => by
    have hd : d < 256 := by omega
    have ed : 255 - f = d := by omega
    obtain ⟨_, h1, h2, h3⟩ := ok_fork.1 h
    obtain ⟨k1, k2⟩ := ok_bits hz h
    simp only [T.put, ed]
    have b2 := bitN_le k d
    split
    · rename_i hb
      obtain ⟨i1, i2⟩ := put_spec k v f l (d := d + 1) (by omega) (zr_mono hz) h1 (side_l' hz hd hk hb)
      refine ⟨ok_fork.2 ⟨hd, i1, h2, two_l h3 (put_fork k v f) (put_non k v f l)⟩, ?_⟩
      simp only [T.all, i2]
      exact (withL_l v fun p hp => ahead_of hd hk (side_r hz hd (ok_keys (zr_turn hz hd) h2 p hp)).1 hb (k2 p hp)).symm
    · rename_i hb
      obtain ⟨i1, i2⟩ := put_spec k v f r (d := d + 1) (by omega) (zr_turn hz hd) h2 (side_r' hz hd hk hb)
      refine ⟨ok_fork.2 ⟨hd, h1, i1, two_r h3 (put_fork k v f) (put_non k v f r)⟩, ?_⟩
      simp only [T.all, i2]
      exact (withL_r v fun p hp => ahead_of hd (side_l hz hd (ok_keys (zr_mono hz) h1 p hp)).1 hk (k1 p hp) (by omega)).symm
theorem join_all (l r : T) : (T.join l r).all = l.all ++ r.all := by
  cases l <;> cases r <;> simp [T.join, T.alone, T.all]
theorem ok_up {t : T} {d : Nat} {b : Dig} (h : t.ok (d + 1) b = true) (hf : t.isFork = false) : t.ok d b = true := by
  cases t with
  | nil => rfl
  | leaf k v => exact decide_eq_true (by have := of_decide_eq_true h; omega)
  | fork l r => cases hf
theorem ok_upr {t : T} {d : Nat} {b : Dig} (hd : d < 256) (h : t.ok (d + 1) (turnM b d) = true) (hf : t.isFork = false) : t.ok d b = true := by
  cases t with
  | nil => rfl
  | leaf k v =>
    have h := of_decide_eq_true h
    refine decide_eq_true ((shared_ge (by omega)).2 fun j hj => ?_)
    rw [(shared_ge (by omega)).1 h j (by omega), turn_pre hd hj]
  | fork l r => cases hf
theorem join_ok {l r : T} {d : Nat} {b : Dig} (hd : d < 256) (h1 : l.ok (d + 1) b = true) (h2 : r.ok (d + 1) (turnM b d) = true) : (T.join l r).ok d b = true := by
  cases l <;> cases r <;> simp only [T.join, T.alone, Option.getD_some, Option.getD_none]
  · rfl
  · exact ok_upr hd h2 rfl
  · exact ok_fork.2 ⟨hd, h1, h2, rfl⟩
  · exact ok_up h1 rfl
  · exact ok_fork.2 ⟨hd, h1, h2, rfl⟩
  · exact ok_fork.2 ⟨hd, h1, h2, rfl⟩
  · exact ok_fork.2 ⟨hd, h1, h2, rfl⟩
  · exact ok_fork.2 ⟨hd, h1, h2, rfl⟩
  · exact ok_fork.2 ⟨hd, h1, h2, rfl⟩
theorem withoutL_self {l : List Pr} {k : Dig} (h : ∀ p ∈ l, p.1 ≠ k) : withoutL l k = l := List.filter_eq_self.2 fun p hp => decide_eq_true (h p hp)
theorem drop_spec (k : Dig) : ∀ (t : T) {d : Nat} {b : Dig}, Zr d b → t.ok d b = true → (t.find k d).isSome = true → (t.drop k d).ok d b = true ∧ (t.drop k d).all = withoutL t.all k
  | .nil, d, b, _, _, h => by simp [T.find] at h
  | .leaf k' v, d, b, _, _, h => by
    simp only [T.find] at h
    split at h
    · rename_i e; subst e
      exact ⟨rfl, by simp [T.drop, T.all, withoutL]⟩
    · cases h
  | .fork l r, d, b, hz, h, hs => by
    obtain ⟨hd, h1, h2, h3⟩ := ok_fork.1 h
    obtain ⟨k1, k2⟩ := ok_bits hz h
    simp only [T.find] at hs
    simp only [T.drop, T.all, withoutL, List.filter_append]
    split
    · rename_i hb
      rw [if_pos hb] at hs
      obtain ⟨i1, i2⟩ := drop_spec k l (zr_mono hz) h1 hs
      refine ⟨join_ok hd i1 h2, ?_⟩
      rw [join_all, i2]
      congr 1
      exact (withoutL_self fun p hp e => by have := k2 p hp; rw [e] at this; omega).symm
    · rename_i hb
      rw [if_neg hb] at hs
      obtain ⟨i1, i2⟩ := drop_spec k r (zr_turn hz hd) h2 hs
      refine ⟨join_ok hd h1 i1, ?_⟩
      rw [join_all, i2]
      congr 1
      exact (withoutL_self fun p hp e => by have := k1 p hp; rw [e] at this; omega).symm
end Go.Proofs.Ytgeelfdgnehdnaa
namespace Go.Proofs.Ytgeelfdgnehdnaa
open Go.RowKit
set_option linter.unusedSimpArgs false
set_option linter.unusedVariables false
attribute [local irreducible] CoW OpW FlW Step Spec
variable {G : Nat → Option W}
noncomputable def pW (x : Pr) : W := .agg 33 [dW x.1, bW x.2]
@[simp] theorem pW_pur (x : Pr) : purW (pW x) = true := by simp [pW]
structure Node where
  leaf : Bool
  key : Dig
  val : List UInt8
  left : Int
  right : Int
noncomputable def nW (x : Node) : W := .agg 36 [.bool x.leaf, dW x.key, bW x.val, .int .i64 x.left, .int .i64 x.right]
@[simp] theorem nW_pur (x : Node) : purW (nW x) = true := by simp [nW]
def forkN (l r : Int) : Node := ⟨false, zeroD, [], l, r⟩
theorem tbit_s (k : Dig) (d : Nat) (h : d < 256) : PS cfg G 62 [dW k, .int .i64 (d : Int)] (.int .u8 (bitN k d : Nat)) := by
  refine ps_in (fn := Try.f62) rfl rfl rfl (Nat.le_of_ble_eq_true rfl) (fun R k0 => ?_)
  refine co_seq ?_
  refine co_region ?_
  refine op_mem rfl rfl ?_
  refine op_pure rfl rfl ?_
  refine op_nil ?_
  refine q_seq ?_
  refine co_seq ?_
  refine co_region ?_
  refine op_mem rfl rfl ?_
  refine op_pure rfl rfl ?_
  first | refine op_ps rfl rfl rfl rfl rfl rfl (bit_in _ _ (by omega)) (by first | rfl | assumption | (simp; done)) (by first | rfl | assumption | (simp; done)) ?_ | refine op_ps rfl rfl rfl rfl rfl rfl (bit_in _ _ (by omega)) (by first | rfl | assumption | (simp; done)) (by first | rfl | assumption | (simp; done)) ?_
  iterate 5 refine op_pure rfl rfl ?_
  refine op_nil ?_
  refine q_seq ?_
  refine co_seq ?_
  refine co_region ?_
  iterate 2 refine op_pure rfl rfl ?_
  refine op_nil ?_
  refine q_seq ?_
  refine co_ret ?_
  first | exact fin_eq (.inr rfl) rfl rfl | exact fin_eq (.inl rfl) rfl rfl | (exfalso; omega)
theorem roads_s (x : Node) : PS cfg G 61 [nW x] (.arr 2 1 [.int .i64 x.left, .int .i64 x.right]) := by
  refine ps_in (fn := Try.f61) rfl rfl rfl (Nat.le_of_ble_eq_true rfl) (fun R k0 => ?_)
  refine co_seq ?_
  refine co_region ?_
  iterate 2 refine op_mem rfl rfl ?_
  refine op_nil ?_
  refine q_seq ?_
  refine co_seq ?_
  refine co_region ?_
  iterate 6 first | refine op_pure rfl rfl ?_ | refine op_mem rfl rfl ?_
  refine op_nil ?_
  refine q_seq ?_
  refine co_ret ?_
  first | exact fin_eq (.inr rfl) rfl rfl | exact fin_eq (.inl rfl) rfl rfl | (exfalso; omega)
theorem fork_s (l r : Int) : PS cfg G 75 [.arr 2 1 [.int .i64 l, .int .i64 r]] (nW (forkN l r)) := by
  refine ps_inV (fn := Try.f75) rfl rfl rfl (Nat.le_of_ble_eq_true rfl) (fun R k0 => ?_)
  refine co_seq ?_
  refine co_region ?_
  iterate 2 refine op_mem rfl rfl ?_
  refine op_nil ?_
  refine q_seq ?_
  refine co_seq ?_
  refine co_region ?_
  first | refine op_pure rfl (ix_fz rfl rfl rfl rfl rfl rfl rfl (by first | assumption | (simp; done))) ?_ | refine op_pure rfl (ix_sl rfl rfl rfl rfl rfl rfl rfl (by omega)) ?_ | refine op_pure rfl (ix_arr rfl rfl rfl rfl rfl rfl (by omega)) ?_ | refine op_pure rfl rfl ?_
  refine op_mem rfl rfl ?_
  first | refine op_pure rfl (ix_fz rfl rfl rfl rfl rfl rfl rfl (by first | assumption | (simp; done))) ?_ | refine op_pure rfl (ix_sl rfl rfl rfl rfl rfl rfl rfl (by omega)) ?_ | refine op_pure rfl (ix_arr rfl rfl rfl rfl rfl rfl (by omega)) ?_ | refine op_pure rfl rfl ?_
  iterate 3 first | refine op_mem rfl rfl ?_ | refine op_pure rfl rfl ?_
  refine op_nil ?_
  refine q_seq ?_
  refine co_ret ?_
  refine fin_v (by first | exact .inr rfl | exact .inl rfl) rfl ?_
  (repeat (first | exact .nil | refine .cons ?_ ?_ | exact view_zero | exact .nilfz | refine .fn ?_ ?_ | (refine view_box rfl ?_ rfl; (first | rfl | (focus (simp; done)))) | (refine .sl rfl ?_ rfl (by intro h; cases h); (first | rfl | (focus (simp; done)))) | (refine .pur ?_; (first | rfl | (focus (simp; done)))) | (refine .fzw ?_; (first | rfl | (focus (simp; done)))) | refine .agg ?_ | refine .arr ?_ | refine .tup ?_))
def valB (l : List UInt8) : Bool := decide (0 < l.length) && decide (l.length ≤ 64)
theorem value_s (l : List UInt8) (f : Bool) : PS cfg G 86 [.fz (bytesW l) 1 f] (.bool (valB l)) := by
  have e := bytesW_len l
  refine ps_in (fn := Try.f86) rfl rfl rfl (Nat.le_of_ble_eq_true rfl) (fun R k0 => ?_)
  refine co_seq ?_
  refine co_region ?_
  refine op_pure rfl rfl ?_
  refine op_nil ?_
  refine q_seq ?_
  refine co_seq ?_
  refine co_region ?_
  refine op_pure rfl rfl ?_
  refine op_val (w' := .int .i64 (l.length : Int)) rfl rfl (by rw [← e]; rfl) ?_
  refine op_dec rfl rfl (by first | exact ltI_iff | exact eqI_iff | exact nlt_iff | exact neq_iff | exact dec_iff | exact bool_iff) (fun h1 => ?_) (fun h1 => ?_)
  · iterate 2 refine op_pure rfl rfl ?_
    refine op_val (w' := .int .i64 (l.length : Int)) rfl rfl (by rw [← e]; rfl) ?_
    refine op_cmp rfl rfl (by first | exact ltI_iff | exact eqI_iff | exact nlt_iff | exact neq_iff | exact dec_iff | exact bool_iff) ?_
    iterate 2 refine op_pure rfl rfl ?_
    refine op_nil ?_
    refine q_seq ?_
    refine co_ret ?_
    have h0 : 0 < l.length := by omega
    exact fin_eq (.inr rfl) rfl (by unfold valB; congr 1; rw [decide_eq_true h0, Bool.true_and, decide_eq_decide]; omega)
  · iterate 7 first | refine op_pure rfl rfl ?_ | refine op_skip rfl ?_ | refine op_nil ?_
    refine q_seq ?_
    refine co_ret ?_
    have h0 : ¬ 0 < l.length := by omega
    exact fin_eq (.inr rfl) rfl (by unfold valB; rw [decide_eq_false h0]; rfl)
def okAt (ps : List Pr) (i : Nat) : Prop := ∀ x, ps[i]? = some x → valB x.2 = true ∧ ∀ y, 0 < i → ps[i - 1]? = some y → aheadD y.1 x.1 = true
def MayP (ps : List Pr) : Prop := ps.length ≤ 512 ∧ ∀ i, i < ps.length → okAt ps i
noncomputable instance (ps : List Pr) : Decidable (MayP ps) := Classical.propDecidable _
theorem psW_pur (ps : List Pr) : purL (ps.map pW) = true := map_pur pW_pur ps
@[simp] theorem psW_pur' (ps : List Pr) : purL (ps.map pW) = true := psW_pur ps
theorem pcheck_s (ps : List Pr) (f : Bool) (hb : ps.length ≤ 9223372036854775807) : PS cfg G 73 [.fz (ps.map pW) 33 f] (.int .i64 (if MayP ps then 0 else 8)) := by
  have e : (ps.map pW).length = ps.length := List.length_map _
  refine ps_in (fn := Try.f73) rfl rfl rfl (Nat.le_of_ble_eq_true rfl) (fun R k0 => ?_)
  refine co_seq ?_
  refine co_region ?_
  refine op_pure rfl rfl ?_
  refine op_nil ?_
  refine q_seq ?_
  iterate 2 refine co_seq ?_
  refine co_region ?_
  refine op_pure rfl rfl ?_
  refine op_val (w' := .int .i64 (ps.length : Int)) rfl rfl (by rw [← e]; rfl) ?_
  refine op_cmp rfl rfl (by first | exact ltI_iff | exact eqI_iff | exact nlt_iff | exact neq_iff | exact dec_iff | exact bool_iff) ?_
  refine op_nil ?_
  refine q_seq ?_
  refine co_dec rfl (by first | exact ltI_iff | exact eqI_iff | exact nlt_iff | exact neq_iff | exact dec_iff | exact bool_iff) (fun h1 => ?_) (fun h1 => ?_)
  · refine co_seq ?_
    refine co_region ?_
    refine op_pure rfl rfl ?_
    refine op_nil ?_
    refine q_seq ?_
    refine co_ret ?_
    refine q_seqx (by intro h; cases h) ?_
    exact fin_eq (.inr rfl) rfl (by rw [if_neg fun h : MayP ps => by have := h.1; omega])
  · refine co_skip ?_
    refine q_seq ?_
    iterate 2 refine co_seq ?_
    refine co_region ?_
    refine op_pure rfl rfl ?_
    refine op_val (w' := .int .i64 (ps.length : Int)) rfl rfl (by rw [← e]; rfl) ?_
    refine op_pure rfl rfl ?_
    refine op_nil ?_
    refine q_seq ?_
    refine co_block ?_
    refine co_loopK (α := Nat) (fun i => i ≤ ps.length ∧ ∀ j, j < i → okAt ps j) (fun i => [(10, .int .i64 (i : Int))]) [(0, _), (2, _), (8, _), (9, _)] (fun i => ps.length - i) (0) ⟨rfl, rfl, rfl, rfl, trivial⟩ (⟨Nat.zero_le _, fun j hj => by omega⟩) ⟨rfl, trivial⟩ (fun i hI => ?_)
    obtain ⟨hi, hI⟩ := hI
    refine co_seq ?_
    refine co_region ?_
    refine op_cmp rfl rfl (by first | exact ltI_iff | exact eqI_iff | exact nlt_iff | exact neq_iff | exact dec_iff | exact bool_iff) ?_
    refine op_nil ?_
    refine q_seq ?_
    refine co_seq ?_
    refine co_dec rfl (by first | exact ltI_iff | exact eqI_iff | exact nlt_iff | exact neq_iff | exact dec_iff | exact bool_iff) (fun h2 => ?_) (fun h2 => ?_)
    · have hi' : i < ps.length := by omega
      obtain ⟨x, hx⟩ : ∃ x, ps[i]? = some x := ⟨_, List.getElem?_eq_getElem hi'⟩
      refine co_skip ?_
      refine q_seq ?_
      iterate 4 first | refine co_seq ?_ | refine co_block ?_ | refine co_region ?_
      refine op_pure rfl rfl ?_
      refine op_pure rfl (ix_fz (i := i) rfl rfl rfl rfl rfl rfl rfl (map_at pW hx)) ?_
      iterate 5 first | refine op_mem rfl rfl ?_ | refine op_pure rfl rfl ?_ | refine op_nil ?_
      refine q_seq ?_
      refine co_seq ?_
      refine co_flow ?_
      refine fl_pure rfl rfl ?_
      refine fl_mem rfl rfl (by first | rfl | kernel_rfl) ?_
      first | refine fl_ps rfl rfl rfl rfl rfl rfl (value_s _ _) (by first | rfl | assumption | (simp; done)) (by first | rfl | assumption | (simp; done)) (by first | rfl | kernel_rfl) ?_ | refine fl_ps rfl rfl rfl rfl rfl rfl (value_s _ _) (by first | rfl | assumption | (simp; done)) (by first | rfl | assumption | (simp; done)) (by first | rfl | kernel_rfl) ?_
      refine fl_bs (by first | exact ltI_iff | exact eqI_iff | exact nlt_iff | exact neq_iff | exact dec_iff | exact bool_iff) (fun h3 => ?_) (fun h3 => ?_)
      · iterate 3 refine fl_pure rfl rfl ?_
        refine fl_dec rfl rfl (by first | exact ltI_iff | exact eqI_iff | exact nlt_iff | exact neq_iff | exact dec_iff | exact bool_iff) (fun h4 => ?_) (fun h4 => ?_)
        · iterate 3 refine fl_pure rfl rfl ?_
          refine fl_nat (i - 1) rfl rfl (by first | rfl | omega) ⟨by omega, by omega⟩ ?_
          refine fl_pure rfl (ix_fz (i := i - 1) rfl rfl rfl rfl rfl rfl rfl (map_at pW (List.getElem?_eq_getElem (by omega)))) ?_
          iterate 4 first | refine fl_pure rfl rfl ?_ | refine fl_mem rfl rfl (by first | rfl | kernel_rfl) ?_
          first | refine fl_ps rfl rfl rfl rfl rfl rfl (ahead_s _ _) (by first | rfl | assumption | (simp; done)) (by first | rfl | assumption | (simp; done)) (by first | rfl | kernel_rfl) ?_ | refine fl_ps rfl rfl rfl rfl rfl rfl (ahead_s _ _) (by first | rfl | assumption | (simp; done)) (by first | rfl | assumption | (simp; done)) (by first | rfl | kernel_rfl) ?_
          iterate 3 refine fl_pure rfl rfl ?_
          refine fl_nil ?_
          refine q_seq ?_
          refine co_dec rfl (by first | exact ltI_iff | exact eqI_iff | exact nlt_iff | exact neq_iff | exact dec_iff | exact bool_iff) (fun h5 => ?_) (fun h5 => ?_)
          · refine co_seq ?_
            refine co_region ?_
            refine op_pure rfl rfl ?_
            refine op_nil ?_
            refine q_seq ?_
            refine co_ret ?_
            refine q_blkn (by intro i h; cases h) ?_
            refine q_seqx (by intro h; cases h) ?_
            refine q_outk (by intro h; cases h) ?_
            refine q_blkn (by intro i h; cases h) ?_
            refine q_seqx (by intro h; cases h) ?_
            have no : ¬ MayP ps := fun h => by
              have := (h.2 i hi' x hx).2 _ (by omega) (List.getElem?_eq_getElem (by omega))
              rw [this] at h5
              simp at h5
            exact fin_eq (.inr rfl) rfl (by rw [if_neg no])
          · have ok : okAt ps i := fun x' hx' => by
              obtain rfl := Option.some.inj (hx.symm.trans hx')
              refine ⟨h3, fun y h0 hy => ?_⟩
              obtain rfl := Option.some.inj ((List.getElem?_eq_getElem (show i - 1 < ps.length by omega)).symm.trans hy)
              simpa using h5
            refine co_skip ?_
            refine q_blkn (by intro i h; cases h) ?_
            refine q_seq ?_
            refine co_region ?_
            refine op_nat (i + 1) rfl rfl (by first | rfl | omega) ⟨by omega, by omega⟩ ?_
            refine op_pure rfl rfl ?_
            refine op_nil ?_
            exact q_againK (i + 1) (⟨hi', fun j hj => by rcases Nat.lt_succ_iff_lt_or_eq.1 hj with h | rfl <;> first | exact hI j h | exact ok⟩) (by omega) ⟨rfl, trivial⟩ ⟨rfl, rfl, rfl, rfl, trivial⟩ (by repeat (first | exact trivial | refine ⟨by first | rfl | exact ref_pur (by first | rfl | (simp; done)), ?_⟩)) (by omega) (by repeat (first | exact keeps_refl | refine keeps_cons (by omega) ?_ | refine keeps_hset (by omega) ?_ | refine keeps_hdel (by omega) ?_)) rfl
        · have ok : okAt ps i := fun x' hx' => by
            obtain rfl := Option.some.inj (hx.symm.trans hx')
            exact ⟨h3, fun y h0 hy => by omega⟩
          iterate 14 first | refine fl_pure rfl rfl ?_ | refine fl_skip rfl ?_ | refine fl_nil ?_
          refine q_seq ?_
          refine co_false rfl ?_
          refine co_skip ?_
          refine q_blkn (by intro i h; cases h) ?_
          refine q_seq ?_
          refine co_region ?_
          refine op_nat (i + 1) rfl rfl (by first | rfl | omega) ⟨by omega, by omega⟩ ?_
          refine op_pure rfl rfl ?_
          refine op_nil ?_
          exact q_againK (i + 1) (⟨hi', fun j hj => by rcases Nat.lt_succ_iff_lt_or_eq.1 hj with h | rfl <;> first | exact hI j h | exact ok⟩) (by omega) ⟨rfl, trivial⟩ ⟨rfl, rfl, rfl, rfl, trivial⟩ (by repeat (first | exact trivial | refine ⟨by first | rfl | exact ref_pur (by first | rfl | (simp; done)), ?_⟩)) (by omega) (by repeat (first | exact keeps_refl | refine keeps_cons (by omega) ?_ | refine keeps_hset (by omega) ?_ | refine keeps_hdel (by omega) ?_)) rfl
      · iterate 18 first | refine fl_pure rfl rfl ?_ | refine fl_skip rfl ?_ | refine fl_nil ?_
        refine q_seq ?_
        refine co_true rfl ?_
        refine co_seq ?_
        refine co_region ?_
        refine op_pure rfl rfl ?_
        refine op_nil ?_
        refine q_seq ?_
        refine co_ret ?_
        refine q_blkn (by intro i h; cases h) ?_
        refine q_seqx (by intro h; cases h) ?_
        refine q_outk (by intro h; cases h) ?_
        refine q_blkn (by intro i h; cases h) ?_
        refine q_seqx (by intro h; cases h) ?_
        exact fin_eq (.inr rfl) rfl (by rw [if_neg fun h : MayP ps => h3 (h.2 i hi' x hx).1])
    · refine co_exit ?_
      refine q_seqx (by intro h; cases h) ?_
      refine q_outk (by intro h; cases h) ?_
      refine q_blk ?_
      refine q_seq ?_
      refine co_seq ?_
      refine co_region ?_
      refine op_pure rfl rfl ?_
      refine op_nil ?_
      refine q_seq ?_
      refine co_ret ?_
      have yes : MayP ps := ⟨by omega, fun j hj => hI j (by omega)⟩
      exact fin_eq (.inr rfl) rfl (by rw [if_pos yes])
def oneB (x : Node) (n : Nat) : Prop := if x.leaf then x.left = 0 ∧ x.right = 0 ∧ MayP [(x.key, x.val)] else (0 ≤ x.left ∧ x.left ≤ n) ∧ (0 ≤ x.right ∧ x.right ≤ n) ∧ x.key = zeroD ∧ x.val = [] ∧ 0 < x.left + x.right
noncomputable instance (x : Node) (n : Nat) : Decidable (oneB x n) := Classical.propDecidable _
theorem one_s (x : Node) (n : Nat) (hn : n ≤ 4611686018427387903) : PS cfg G 54 [nW x, .int .i64 (n : Int)] (.bool (decide (oneB x n))) := by
  refine ps_in (fn := Try.f54) rfl rfl rfl (Nat.le_of_ble_eq_true rfl) (fun R k0 => ?_)
  refine co_seq ?_
  refine co_region ?_
  refine op_mem rfl rfl ?_
  refine op_pure rfl rfl ?_
  refine op_nil ?_
  refine q_seq ?_
  iterate 2 refine co_seq ?_
  refine co_region ?_
  refine op_pure rfl rfl ?_
  refine op_mem rfl rfl ?_
  refine op_nil ?_
  refine q_seq ?_
  refine co_dec rfl (by first | exact ltI_iff | exact eqI_iff | exact nlt_iff | exact neq_iff | exact dec_iff | exact bool_iff) (fun h1 => ?_) (fun h1 => ?_)
  · refine co_seq ?_
    refine co_region ?_
    refine op_pure rfl rfl ?_
    refine op_mem rfl rfl ?_
    refine op_dec rfl rfl (by first | exact ltI_iff | exact eqI_iff | exact nlt_iff | exact neq_iff | exact dec_iff | exact bool_iff) (fun h2 => ?_) (fun h2 => ?_)
    · iterate 2 refine op_pure rfl rfl ?_
      refine op_mem rfl rfl ?_
      refine op_dec rfl rfl (by first | exact ltI_iff | exact eqI_iff | exact nlt_iff | exact neq_iff | exact dec_iff | exact bool_iff) (fun h3 => ?_) (fun h3 => ?_)
      · iterate 8 first | refine op_pure rfl rfl ?_ | refine op_mem rfl rfl ?_
        refine op_lk rfl rfl rfl rfl rfl (by (repeat (first | exact .nil | refine .cons ?_ ?_ | (refine .sl rfl ?_ rfl (by intro h; cases h); first | rfl | (focus (simp; done))) | (refine view_box rfl ?_ rfl; first | rfl | (focus (simp; done))) | (refine .pur ?_; first | rfl | (focus (simp; done)))))) (pcheck_s [(x.key, x.val)] false (by simp)) (by first | rfl | assumption | (simp; done)) (by first | rfl | assumption | (simp; done)) ?_
        refine op_cmp rfl rfl (by first | exact ltI_iff | exact eqI_iff | exact nlt_iff | exact neq_iff | exact dec_iff | exact bool_iff) ?_
        iterate 2 refine op_pure rfl rfl ?_
        refine op_nil ?_
        refine q_seq ?_
        refine co_ret ?_
        refine q_seqx (by intro h; cases h) ?_
        refine fin_eq (.inr rfl) rfl ?_
        congr 1
        rw [decide_eq_decide, oneB, if_pos h1]
        split
        · rename_i h
          exact ⟨fun _ => ⟨h2, h3, h⟩, fun _ => rfl⟩
        · rename_i h
          exact ⟨fun h => by omega, fun q => absurd q.2.2 h⟩
      · iterate 13 first | refine op_pure rfl rfl ?_ | refine op_skip rfl ?_ | refine op_nil ?_
        refine q_seq ?_
        refine co_ret ?_
        refine q_seqx (by intro h; cases h) ?_
        exact fin_eq (.inr rfl) rfl (by rw [decide_eq_false]; intro h; rw [oneB, if_pos h1] at h; exact h3 h.2.1)
    · iterate 17 first | refine op_pure rfl rfl ?_ | refine op_skip rfl ?_ | refine op_nil ?_
      refine q_seq ?_
      refine co_ret ?_
      refine q_seqx (by intro h; cases h) ?_
      exact fin_eq (.inr rfl) rfl (by rw [decide_eq_false]; intro h; rw [oneB, if_pos h1] at h; exact h2 h.1)
  · refine co_skip ?_
    refine q_seq ?_
    iterate 2 refine co_seq ?_
    refine co_region ?_
    refine op_mem rfl rfl ?_
    first | refine op_ps rfl rfl rfl rfl rfl rfl (roads_s _) (by first | rfl | assumption | (simp; done)) (by first | rfl | assumption | (simp; done)) ?_ | refine op_ps rfl rfl rfl rfl rfl rfl (roads_s _) (by first | rfl | assumption | (simp; done)) (by first | rfl | assumption | (simp; done)) ?_
    refine op_pure rfl rfl ?_
    refine op_nil ?_
    refine q_seq ?_
    refine co_block ?_
    refine co_loopK (α := Nat) (fun i => i ≤ 2 ∧ (0 < i → 0 ≤ x.left ∧ x.left ≤ n) ∧ (1 < i → 0 ≤ x.right ∧ x.right ≤ n)) (fun i => [(29, .int .i64 (i : Int))]) [(1, _), (2, _), (4, _), (28, _)] (fun i => 2 - i) (0) ⟨rfl, rfl, rfl, rfl, trivial⟩ (⟨by omega, by omega, by omega⟩) ⟨rfl, trivial⟩ (fun i hI => ?_)
    obtain ⟨hi, hl, hr⟩ := hI
    refine co_seq ?_
    refine co_region ?_
    refine op_cmp rfl rfl (by first | exact ltI_iff | exact eqI_iff | exact nlt_iff | exact neq_iff | exact dec_iff | exact bool_iff) ?_
    refine op_nil ?_
    refine q_seq ?_
    refine co_seq ?_
    refine co_dec rfl (by first | exact ltI_iff | exact eqI_iff | exact nlt_iff | exact neq_iff | exact dec_iff | exact bool_iff) (fun h2 => ?_) (fun h2 => ?_)
    · have hi' : i = 0 ∨ i = 1 := by omega
      rcases hi' with rfl | rfl
      · skip
        refine co_skip ?_
        refine q_seq ?_
        iterate 4 first | refine co_seq ?_ | refine co_block ?_ | refine co_region ?_
        iterate 2 refine op_pure rfl rfl ?_
        refine op_nil ?_
        refine q_seq ?_
        refine co_seq ?_
        refine co_region ?_
        refine op_pure rfl rfl ?_
        refine op_dec rfl rfl (by first | exact ltI_iff | exact eqI_iff | exact nlt_iff | exact neq_iff | exact dec_iff | exact bool_iff) (fun h3 => ?_) (fun h3 => ?_)
        · iterate 6 first | refine op_pure rfl rfl ?_ | refine op_skip rfl ?_ | refine op_nil ?_
          refine q_seq ?_
          refine co_true rfl ?_
          refine co_seq ?_
          refine co_region ?_
          refine op_pure rfl rfl ?_
          refine op_nil ?_
          refine q_seq ?_
          refine co_ret ?_
          refine q_blkn (by intro i h; cases h) ?_
          refine q_seqx (by intro h; cases h) ?_
          refine q_outk (by intro h; cases h) ?_
          refine q_blkn (by intro i h; cases h) ?_
          refine q_seqx (by intro h; cases h) ?_
          exact fin_eq (.inr rfl) rfl (by rw [decide_eq_false]; intro h; rw [oneB, if_neg h1] at h; omega)
        · iterate 3 refine op_pure rfl rfl ?_
          refine op_cmp rfl rfl (by first | exact ltI_iff | exact eqI_iff | exact nlt_iff | exact neq_iff | exact dec_iff | exact bool_iff) ?_
          refine op_pure rfl rfl ?_
          refine op_nil ?_
          refine q_seq ?_
          refine co_dec rfl (by first | exact ltI_iff | exact eqI_iff | exact nlt_iff | exact neq_iff | exact dec_iff | exact bool_iff) (fun h4 => ?_) (fun h4 => ?_)
          · refine co_seq ?_
            refine co_region ?_
            refine op_pure rfl rfl ?_
            refine op_nil ?_
            refine q_seq ?_
            refine co_ret ?_
            refine q_blkn (by intro i h; cases h) ?_
            refine q_seqx (by intro h; cases h) ?_
            refine q_outk (by intro h; cases h) ?_
            refine q_blkn (by intro i h; cases h) ?_
            refine q_seqx (by intro h; cases h) ?_
            exact fin_eq (.inr rfl) rfl (by rw [decide_eq_false]; intro h; rw [oneB, if_neg h1] at h; omega)
          · refine co_skip ?_
            refine q_blkn (by intro i h; cases h) ?_
            refine q_seq ?_
            refine co_region ?_
            refine op_nat (1) rfl rfl (by first | rfl | omega) ⟨by omega, by omega⟩ ?_
            refine op_pure rfl rfl ?_
            refine op_nil ?_
            exact q_againK (1) (⟨by omega, by omega, by omega⟩) (by omega) ⟨rfl, trivial⟩ ⟨rfl, rfl, rfl, rfl, trivial⟩ (by repeat (first | exact trivial | refine ⟨by first | rfl | exact ref_pur (by first | rfl | (simp; done)), ?_⟩)) (by omega) (by repeat (first | exact keeps_refl | refine keeps_cons (by omega) ?_ | refine keeps_hset (by omega) ?_ | refine keeps_hdel (by omega) ?_)) rfl
      · refine co_skip ?_
        refine q_seq ?_
        iterate 4 first | refine co_seq ?_ | refine co_block ?_ | refine co_region ?_
        iterate 2 refine op_pure rfl rfl ?_
        refine op_nil ?_
        refine q_seq ?_
        refine co_seq ?_
        refine co_region ?_
        refine op_pure rfl rfl ?_
        refine op_dec rfl rfl (by first | exact ltI_iff | exact eqI_iff | exact nlt_iff | exact neq_iff | exact dec_iff | exact bool_iff) (fun h3 => ?_) (fun h3 => ?_)
        · iterate 6 first | refine op_pure rfl rfl ?_ | refine op_skip rfl ?_ | refine op_nil ?_
          refine q_seq ?_
          refine co_true rfl ?_
          refine co_seq ?_
          refine co_region ?_
          refine op_pure rfl rfl ?_
          refine op_nil ?_
          refine q_seq ?_
          refine co_ret ?_
          refine q_blkn (by intro i h; cases h) ?_
          refine q_seqx (by intro h; cases h) ?_
          refine q_outk (by intro h; cases h) ?_
          refine q_blkn (by intro i h; cases h) ?_
          refine q_seqx (by intro h; cases h) ?_
          exact fin_eq (.inr rfl) rfl (by rw [decide_eq_false]; intro h; rw [oneB, if_neg h1] at h; omega)
        · iterate 3 refine op_pure rfl rfl ?_
          refine op_cmp rfl rfl (by first | exact ltI_iff | exact eqI_iff | exact nlt_iff | exact neq_iff | exact dec_iff | exact bool_iff) ?_
          refine op_pure rfl rfl ?_
          refine op_nil ?_
          refine q_seq ?_
          refine co_dec rfl (by first | exact ltI_iff | exact eqI_iff | exact nlt_iff | exact neq_iff | exact dec_iff | exact bool_iff) (fun h4 => ?_) (fun h4 => ?_)
          · refine co_seq ?_
            refine co_region ?_
            refine op_pure rfl rfl ?_
            refine op_nil ?_
            refine q_seq ?_
            refine co_ret ?_
            refine q_blkn (by intro i h; cases h) ?_
            refine q_seqx (by intro h; cases h) ?_
            refine q_outk (by intro h; cases h) ?_
            refine q_blkn (by intro i h; cases h) ?_
            refine q_seqx (by intro h; cases h) ?_
            exact fin_eq (.inr rfl) rfl (by rw [decide_eq_false]; intro h; rw [oneB, if_neg h1] at h; omega)
          · refine co_skip ?_
            refine q_blkn (by intro i h; cases h) ?_
            refine q_seq ?_
            refine co_region ?_
            refine op_nat (2) rfl rfl (by first | rfl | omega) ⟨by omega, by omega⟩ ?_
            refine op_pure rfl rfl ?_
            refine op_nil ?_
            exact q_againK (2) (⟨by omega, by omega, by omega⟩) (by omega) ⟨rfl, trivial⟩ ⟨rfl, rfl, rfl, rfl, trivial⟩ (by repeat (first | exact trivial | refine ⟨by first | rfl | exact ref_pur (by first | rfl | (simp; done)), ?_⟩)) (by omega) (by repeat (first | exact keeps_refl | refine keeps_cons (by omega) ?_ | refine keeps_hset (by omega) ?_ | refine keeps_hdel (by omega) ?_)) rfl
    · have e := bytesW_len x.val
      have hl := hl (by omega)
      have hr := hr (by omega)
      have key : oneB x n ↔ (x.key = zeroD ∧ x.val = [] ∧ 0 < x.left + x.right) := by rw [oneB, if_neg h1]; exact ⟨fun h => h.2.2, fun h => ⟨hl, hr, h⟩⟩
      rw [show decide (oneB x n) = decide (x.key = zeroD ∧ x.val = [] ∧ 0 < x.left + x.right) from decide_eq_decide.2 key]
      refine co_exit ?_
      refine q_seqx (by intro h; cases h) ?_
      refine q_outk (by intro h; cases h) ?_
      refine q_blk ?_
      refine q_seq ?_
      refine co_seq ?_
      refine co_region ?_
      refine op_pure rfl rfl ?_
      refine op_mem rfl rfl ?_
      refine op_val rfl rfl dW_zero ?_
      refine op_dec rfl (bin_eql rfl rfl rfl rfl (eq_dig rfl rfl rfl rfl rfl rfl _ _ 250)) dec_iff (fun h3 => ?_) (fun h3 => ?_)
      · iterate 2 refine op_pure rfl rfl ?_
        refine op_mem rfl rfl ?_
        refine op_val (w' := .int .i64 (x.val.length : Int)) rfl rfl (by rw [← e]; rfl) ?_
        refine op_dec rfl rfl (by first | exact ltI_iff | exact eqI_iff | exact nlt_iff | exact neq_iff | exact dec_iff | exact bool_iff) (fun h4 => ?_) (fun h4 => ?_)
        · have hv : x.val = [] := List.eq_nil_of_length_eq_zero (by omega)
          iterate 6 first | refine op_pure rfl rfl ?_ | refine op_mem rfl rfl ?_
          first | refine op_wrap rfl rfl ⟨by omega, by omega⟩ ?_ | refine op_pure rfl rfl ?_
          refine op_cmp rfl rfl (by first | exact ltI_iff | exact eqI_iff | exact nlt_iff | exact neq_iff | exact dec_iff | exact bool_iff) ?_
          iterate 2 refine op_pure rfl rfl ?_
          refine op_nil ?_
          refine q_seq ?_
          refine co_ret ?_
          refine fin_eq (.inr rfl) rfl ?_
          congr 1
          rw [decide_eq_decide]
          exact ⟨fun h => ⟨h3, hv, h⟩, fun h => h.2.2⟩
        · have hv : x.val ≠ [] := fun h => h4 (by rw [h]; rfl)
          iterate 11 first | refine op_pure rfl rfl ?_ | refine op_skip rfl ?_ | refine op_nil ?_
          refine q_seq ?_
          refine co_ret ?_
          exact fin_eq (.inr rfl) rfl (by rw [decide_eq_false fun h => hv h.2.1])
      · iterate 16 first | refine op_pure rfl rfl ?_ | refine op_skip rfl ?_ | refine op_nil ?_
        refine q_seq ?_
        refine co_ret ?_
        exact fin_eq (.inr rfl) rfl (by rw [decide_eq_false fun h => h3 h.1])
end Go.Proofs.Ytgeelfdgnehdnaa
namespace Go.Proofs.Ytgeelfdgnehdnaa
open Go.RowKit
set_option linter.unusedSimpArgs false
set_option linter.unusedVariables false
attribute [local irreducible] CoW OpW FlW Step Spec
variable {G : Nat → Option W}
inductive Rep (ns : List Node) : Nat → T → Prop where
  | nil : Rep ns 0 .nil
  | leaf {n : Nat} {k : Dig} {v : List UInt8} {l r : Int} (h : ns[n]? = some ⟨true, k, v, l, r⟩) : Rep ns (n + 1) (.leaf k v)
  | fork {n l r : Nat} {k : Dig} {v : List UInt8} {L R : T} (h : ns[n]? = some ⟨false, k, v, l, r⟩) (hl : l ≤ n) (hr : r ≤ n) (hL : Rep ns l L) (hR : Rep ns r R) : Rep ns (n + 1) (.fork L R)
theorem Rep.le {ns : List Node} {n : Nat} {t : T} (h : Rep ns n t) : n ≤ ns.length := by
  cases h with
  | nil => exact Nat.zero_le _
  | leaf h => exact (List.getElem?_eq_some_iff.1 h).1
  | fork h => exact (List.getElem?_eq_some_iff.1 h).1
theorem Rep.non {ns : List Node} {n : Nat} {t : T} (h : Rep ns n t) : t.non = decide (0 < n) := by cases h <;> simp [T.non]
theorem Rep.app {ns : List Node} (ms : List Node) {n : Nat} {t : T} (h : Rep ns n t) : Rep (ns ++ ms) n t := by
  have key : ∀ {i : Nat} {x : Node}, ns[i]? = some x → (ns ++ ms)[i]? = some x := fun {i x} h => by rw [List.getElem?_append_left (List.getElem?_eq_some_iff.1 h).1]; exact h
  induction h with
  | nil => exact .nil
  | leaf h => exact .leaf (key h)
  | fork h hl hr _ _ i1 i2 => exact .fork (key h) hl hr i1 i2
structure Tree where
  nodes : List Node
  root : Int
noncomputable def tW (t : Tree) : W := .agg 2 [.fz (t.nodes.map nW) 36 false, .int .i64 t.root]
theorem nsW_pur (ns : List Node) : purL (ns.map nW) = true := map_pur nW_pur ns
@[simp] theorem tW_pur (t : Tree) : purW (tW t) = true := by simp [tW, nsW_pur]
def nnI (t : T) : Int := if t.non then 1 else 0
theorem right_s (t0 : Tree) (hb : t0.nodes.length ≤ 4611686018427387903) : ∀ (t : T) (n d : Nat) (b : Dig), Rep t0.nodes n t → d ≤ 256 → PS cfg G 60 [tW t0, .int .i64 (n : Int), .int .i64 (d : Int), dW b] (.tup [.bool (t.ok d b), .bool (t.ok d b && t.isFork)]) := by
  intro t
  induction t with
  | nil =>
    intro n d b hr hd
    obtain rfl : n = 0 := by cases hr; rfl
    refine ps_in (fn := Try.f60) rfl rfl rfl (Nat.le_of_ble_eq_true rfl) (fun R k0 => ?_)
    refine co_seq ?_
    refine co_region ?_
    iterate 5 first | refine op_mem rfl rfl ?_ | refine op_pure rfl rfl ?_ | refine op_nil ?_
    refine q_seq ?_
    iterate 2 refine co_seq ?_
    refine co_region ?_
    refine op_pure rfl rfl ?_
    refine op_cmp rfl rfl (by first | exact ltI_iff | exact eqI_iff | exact nlt_iff | exact neq_iff | exact dec_iff | exact bool_iff) ?_
    refine op_nil ?_
    refine q_seq ?_
    refine co_dec rfl (by first | exact ltI_iff | exact eqI_iff | exact nlt_iff | exact neq_iff | exact dec_iff | exact bool_iff) (fun h1 => ?_) (fun h1 => ?_)
    · refine co_seq ?_
      refine co_region ?_
      iterate 2 refine op_pure rfl rfl ?_
      refine op_nil ?_
      refine q_seq ?_
      refine co_ret ?_
      refine q_seqx (by intro h; cases h) ?_
      exact fin_eq (.inr rfl) rfl rfl
    · exfalso; omega
  | leaf k v =>
    intro n d b hr hd
    have hle := hr.le
    cases hr with
    | leaf h =>
    rename_i n l r
    refine ps_in (fn := Try.f60) rfl rfl rfl (Nat.le_of_ble_eq_true rfl) (fun R k0 => ?_)
    refine co_seq ?_
    refine co_region ?_
    iterate 5 first | refine op_mem rfl rfl ?_ | refine op_pure rfl rfl ?_ | refine op_nil ?_
    refine q_seq ?_
    iterate 2 refine co_seq ?_
    refine co_region ?_
    refine op_pure rfl rfl ?_
    refine op_cmp rfl rfl (by first | exact ltI_iff | exact eqI_iff | exact nlt_iff | exact neq_iff | exact dec_iff | exact bool_iff) ?_
    refine op_nil ?_
    refine q_seq ?_
    refine co_dec rfl (by first | exact ltI_iff | exact eqI_iff | exact nlt_iff | exact neq_iff | exact dec_iff | exact bool_iff) (fun h1 => ?_) (fun h1 => ?_)
    · exfalso; omega
    · refine co_skip ?_
      refine q_seq ?_
      refine co_seq ?_
      refine co_region ?_
      iterate 3 first | refine op_pure rfl rfl ?_ | refine op_mem rfl rfl ?_
      refine op_nat (n) rfl rfl (by first | rfl | omega) ⟨by omega, by omega⟩ ?_
      refine op_pure rfl (ix_fz (i := n) rfl rfl rfl rfl rfl rfl rfl (map_at nW h)) ?_
      iterate 3 refine op_mem rfl rfl ?_
      refine op_nil ?_
      refine q_seq ?_
      iterate 2 refine co_seq ?_
      refine co_region ?_
      refine op_pure rfl rfl ?_
      refine op_mem rfl rfl ?_
      refine op_nil ?_
      refine q_seq ?_
      refine co_true rfl ?_
      refine co_seq ?_
      refine co_region ?_
      iterate 3 first | refine op_pure rfl rfl ?_ | refine op_mem rfl rfl ?_
      first | refine op_ps rfl rfl rfl rfl rfl rfl (shared_s _ _) (by first | rfl | assumption | (simp; done)) (by first | rfl | assumption | (simp; done)) ?_ | refine op_ps rfl rfl rfl rfl rfl rfl (shared_s _ _) (by first | rfl | assumption | (simp; done)) (by first | rfl | assumption | (simp; done)) ?_
      refine op_pure rfl rfl ?_
      refine op_cmp rfl rfl (by first | exact ltI_iff | exact eqI_iff | exact nlt_iff | exact neq_iff | exact dec_iff | exact bool_iff) ?_
      iterate 2 refine op_pure rfl rfl ?_
      refine op_nil ?_
      refine q_seq ?_
      refine co_ret ?_
      refine q_seqx (by intro h; cases h) ?_
      refine fin_eq (.inr rfl) rfl ?_
      simp only [T.ok, T.isFork, Bool.and_false]
      congr 3
      rw [decide_eq_decide]
      omega
  | fork tl tr ihL ihR =>
    intro n d b hr hd
    have hle := hr.le
    cases hr with
    | fork h hl hr hL hR =>
    rename_i n l r k v
    refine ps_in (fn := Try.f60) rfl rfl rfl (Nat.le_of_ble_eq_true rfl) (fun R k0 => ?_)
    refine co_seq ?_
    refine co_region ?_
    iterate 5 first | refine op_mem rfl rfl ?_ | refine op_pure rfl rfl ?_ | refine op_nil ?_
    refine q_seq ?_
    iterate 2 refine co_seq ?_
    refine co_region ?_
    refine op_pure rfl rfl ?_
    refine op_cmp rfl rfl (by first | exact ltI_iff | exact eqI_iff | exact nlt_iff | exact neq_iff | exact dec_iff | exact bool_iff) ?_
    refine op_nil ?_
    refine q_seq ?_
    refine co_dec rfl (by first | exact ltI_iff | exact eqI_iff | exact nlt_iff | exact neq_iff | exact dec_iff | exact bool_iff) (fun h1 => ?_) (fun h1 => ?_)
    · exfalso; omega
    · refine co_skip ?_
      refine q_seq ?_
      refine co_seq ?_
      refine co_region ?_
      iterate 3 first | refine op_pure rfl rfl ?_ | refine op_mem rfl rfl ?_
      refine op_nat (n) rfl rfl (by first | rfl | omega) ⟨by omega, by omega⟩ ?_
      refine op_pure rfl (ix_fz (i := n) rfl rfl rfl rfl rfl rfl rfl (map_at nW h)) ?_
      iterate 3 refine op_mem rfl rfl ?_
      refine op_nil ?_
      refine q_seq ?_
      iterate 2 refine co_seq ?_
      refine co_region ?_
      refine op_pure rfl rfl ?_
      refine op_mem rfl rfl ?_
      refine op_nil ?_
      refine q_seq ?_
      refine co_false rfl ?_
      refine co_skip ?_
      refine q_seq ?_
      iterate 2 refine co_seq ?_
      refine co_region ?_
      refine op_pure rfl rfl ?_
      refine op_cmp rfl rfl (by first | exact ltI_iff | exact eqI_iff | exact nlt_iff | exact neq_iff | exact dec_iff | exact bool_iff) ?_
      refine op_nil ?_
      refine q_seq ?_
      refine co_dec rfl (by first | exact ltI_iff | exact eqI_iff | exact nlt_iff | exact neq_iff | exact dec_iff | exact bool_iff) (fun h2 => ?_) (fun h2 => ?_)
      · refine co_seq ?_
        refine co_region ?_
        iterate 2 refine op_pure rfl rfl ?_
        refine op_nil ?_
        refine q_seq ?_
        refine co_ret ?_
        refine q_seqx (by intro h; cases h) ?_
        have e : T.ok d b (.fork tl tr) = false := by simp only [T.ok]; rw [decide_eq_false (by omega)]; rfl
        rw [e]
        exact fin_eq (.inr rfl) rfl rfl
      · have hd' : d < 256 := by omega
        have nl := hL.non
        have nr := hR.non
        refine co_skip ?_
        refine q_seq ?_
        refine co_seq ?_
        refine co_region ?_
        refine op_mem rfl rfl ?_
        refine op_pure rfl rfl ?_
        first | refine op_ps rfl rfl rfl rfl rfl rfl (turn_in _ _ (by omega)) (by first | rfl | assumption | (simp; done)) (by first | rfl | assumption | (simp; done)) ?_ | refine op_ps rfl rfl rfl rfl rfl rfl (turn_in _ _ (by omega)) (by first | rfl | assumption | (simp; done)) (by first | rfl | assumption | (simp; done)) ?_
        iterate 7 first | refine op_pure rfl rfl ?_ | refine op_mem rfl rfl ?_ | refine op_nil ?_
        refine q_seq ?_
        refine co_seq ?_
        refine co_region ?_
        refine op_pure rfl rfl ?_
        refine op_nil ?_
        refine q_seq ?_
        iterate 2 refine co_seq ?_
        refine co_region ?_
        iterate 2 refine op_mem rfl rfl ?_
        refine op_val (w' := .arr 64 32 [dW b, dW (turnM b d)]) rfl rfl rfl ?_
        refine op_pure rfl rfl ?_
        refine op_nil ?_
        refine q_seq ?_
        refine co_block ?_
        refine co_loopK (α := Nat × Int × Bool) (fun p => (p.1 = 0 ∧ p.2.1 = 0 ∧ p.2.2 = false) ∨ (p.1 = 1 ∧ tl.ok (d + 1) b = true ∧ p.2.1 = nnI tl ∧ p.2.2 = tl.isFork) ∨ (p.1 = 2 ∧ tl.ok (d + 1) b = true ∧ tr.ok (d + 1) (turnM b d) = true ∧ p.2.1 = nnI tl + nnI tr ∧ p.2.2 = (tl.isFork || tr.isFork))) (fun p => [(46, .int .i64 (p.1 : Int)), (13, .int .i64 p.2.1), (9, .bool p.2.2)]) [(2, _), (4, _), (8, _), (10, _), (45, _)] (fun p => 2 - p.1) ((0, 0, false)) ⟨rfl, rfl, rfl, rfl, rfl, trivial⟩ (.inl ⟨rfl, rfl, rfl⟩) ⟨rfl, rfl, rfl, trivial⟩ (fun p hI => ?_)
        obtain ⟨i, c, w⟩ := p
        simp only at hI ⊢
        rcases hI with ⟨rfl, rfl, rfl⟩ | ⟨rfl, k1, rfl, rfl⟩ | ⟨rfl, k1, k2, rfl, rfl⟩
        · skip
          skip
          refine co_seq ?_
          refine co_region ?_
          refine op_cmp rfl rfl (by first | exact ltI_iff | exact eqI_iff | exact nlt_iff | exact neq_iff | exact dec_iff | exact bool_iff) ?_
          refine op_nil ?_
          refine q_seq ?_
          refine co_seq ?_
          refine co_true rfl ?_
          refine co_skip ?_
          refine q_seq ?_
          iterate 4 first | refine co_seq ?_ | refine co_block ?_ | refine co_region ?_
          iterate 6 first | refine op_pure rfl rfl ?_ | refine op_mem rfl rfl ?_ | refine op_nil ?_
          refine q_seq ?_
          refine co_seq ?_
          refine co_region ?_
          refine op_mem rfl rfl ?_
          first | refine op_ps rfl rfl rfl rfl rfl rfl (roads_s _) (by first | rfl | assumption | (simp; done)) (by first | rfl | assumption | (simp; done)) ?_ | refine op_ps rfl rfl rfl rfl rfl rfl (roads_s _) (by first | rfl | assumption | (simp; done)) (by first | rfl | assumption | (simp; done)) ?_
          iterate 3 refine op_pure rfl rfl ?_
          refine op_nil ?_
          refine q_seq ?_
          refine co_seq ?_
          refine co_region ?_
          iterate 3 first | refine op_mem rfl rfl ?_ | refine op_pure rfl rfl ?_
          refine op_nat (d + 1) rfl rfl (by first | rfl | omega) ⟨by omega, by omega⟩ ?_
          refine op_mem rfl rfl ?_
          refine op_ps rfl rfl rfl rfl rfl rfl (ihL _ (d + 1) b hL (by omega)) (by first | rfl | assumption | (simp; done)) (by first | rfl | assumption | (simp; done)) ?_
          iterate 5 refine op_pure rfl rfl ?_
          refine op_nil ?_
          refine q_seq ?_
          iterate 2 refine co_seq ?_
          refine co_region ?_
          iterate 2 refine op_pure rfl rfl ?_
          refine op_nil ?_
          refine q_seq ?_
          refine co_dec rfl (by first | exact ltI_iff | exact eqI_iff | exact nlt_iff | exact neq_iff | exact dec_iff | exact bool_iff) (fun h3 => ?_) (fun h3 => ?_)
          · refine co_seq ?_
            refine co_region ?_
            iterate 3 first | refine op_pure rfl rfl ?_ | refine op_nil ?_
            refine q_seq ?_
            refine co_ret ?_
            refine q_seqx (by intro h; cases h) ?_
            refine q_blkn (by intro i h; cases h) ?_
            refine q_seqx (by intro h; cases h) ?_
            refine q_outk (by intro h; cases h) ?_
            refine q_blkn (by intro i h; cases h) ?_
            refine q_seqx (by intro h; cases h) ?_
            have e : T.ok d b (.fork tl tr) = false := by simp only [T.ok]; rw [show tl.ok (d + 1) b = false by simpa using h3]; simp
            rw [e]
            exact fin_eq (.inr rfl) rfl rfl
          · have hk : tl.ok (d + 1) b = true := by simpa using h3
            refine co_skip ?_
            refine q_seq ?_
            iterate 3 first | refine co_seq ?_ | refine co_region ?_
            refine op_pure rfl rfl ?_
            refine op_cmp rfl rfl (by first | exact ltI_iff | exact eqI_iff | exact nlt_iff | exact neq_iff | exact dec_iff | exact bool_iff) ?_
            refine op_nil ?_
            refine q_seq ?_
            refine co_dec rfl (by first | exact ltI_iff | exact eqI_iff | exact nlt_iff | exact neq_iff | exact dec_iff | exact bool_iff) (fun h4 => ?_) (fun h4 => ?_)
            · have hn : nnI tl = 1 := by have h4 : (0 : Int) < l := h4; unfold nnI; rw [nl, if_pos (decide_eq_true (by omega))]
              refine co_region ?_
              refine op_pure rfl rfl ?_
              first | refine op_wrap rfl rfl ⟨by omega, by omega⟩ ?_ | refine op_pure rfl rfl ?_
              refine op_pure rfl rfl ?_
              refine op_nil ?_
              refine q_seq ?_
              refine co_region ?_
              iterate 6 first | refine op_pure rfl rfl ?_ | refine op_nil ?_
              refine q_blkn (by intro i h; cases h) ?_
              refine q_seq ?_
              refine co_region ?_
              refine op_nat (1) rfl rfl (by first | rfl | omega) ⟨by omega, by omega⟩ ?_
              refine op_pure rfl rfl ?_
              refine op_nil ?_
              exact q_againK ((1, 1, tl.ok (d + 1) b && tl.isFork)) (.inr (.inl ⟨rfl, hk, hn.symm, by rw [hk]; rfl⟩)) (by simp) ⟨rfl, rfl, rfl, trivial⟩ ⟨rfl, rfl, rfl, rfl, rfl, trivial⟩ (by repeat (first | exact trivial | refine ⟨by first | rfl | exact ref_pur (by first | rfl | (simp; done)), ?_⟩)) (by omega) (by repeat (first | exact keeps_refl | refine keeps_cons (by omega) ?_ | refine keeps_hset (by omega) ?_ | refine keeps_hdel (by omega) ?_)) rfl
            · have hn : nnI tl = 0 := by have h4 : ¬ (0 : Int) < l := h4; unfold nnI; rw [nl, if_neg (by simp; omega)]
              refine co_skip ?_
              refine q_seq ?_
              refine co_region ?_
              iterate 6 first | refine op_pure rfl rfl ?_ | refine op_nil ?_
              refine q_blkn (by intro i h; cases h) ?_
              refine q_seq ?_
              refine co_region ?_
              refine op_nat (1) rfl rfl (by first | rfl | omega) ⟨by omega, by omega⟩ ?_
              refine op_pure rfl rfl ?_
              refine op_nil ?_
              exact q_againK ((1, 0, tl.ok (d + 1) b && tl.isFork)) (.inr (.inl ⟨rfl, hk, hn.symm, by rw [hk]; rfl⟩)) (by simp) ⟨rfl, rfl, rfl, trivial⟩ ⟨rfl, rfl, rfl, rfl, rfl, trivial⟩ (by repeat (first | exact trivial | refine ⟨by first | rfl | exact ref_pur (by first | rfl | (simp; done)), ?_⟩)) (by omega) (by repeat (first | exact keeps_refl | refine keeps_cons (by omega) ?_ | refine keeps_hset (by omega) ?_ | refine keeps_hdel (by omega) ?_)) rfl
        · skip
          have bd : nnI tl = 0 ∨ nnI tl = 1 := by unfold nnI; split <;> simp
          cases hf : tl.isFork with
          | true =>
            skip
            refine co_seq ?_
            refine co_region ?_
            refine op_cmp rfl rfl (by first | exact ltI_iff | exact eqI_iff | exact nlt_iff | exact neq_iff | exact dec_iff | exact bool_iff) ?_
            refine op_nil ?_
            refine q_seq ?_
            iterate 3 first | refine co_seq ?_ | refine co_true rfl ?_ | refine co_skip ?_
            refine q_seq ?_
            iterate 4 first | refine co_seq ?_ | refine co_block ?_ | refine co_region ?_
            iterate 6 first | refine op_pure rfl rfl ?_ | refine op_mem rfl rfl ?_ | refine op_nil ?_
            refine q_seq ?_
            refine co_seq ?_
            refine co_region ?_
            refine op_mem rfl rfl ?_
            first | refine op_ps rfl rfl rfl rfl rfl rfl (roads_s _) (by first | rfl | assumption | (simp; done)) (by first | rfl | assumption | (simp; done)) ?_ | refine op_ps rfl rfl rfl rfl rfl rfl (roads_s _) (by first | rfl | assumption | (simp; done)) (by first | rfl | assumption | (simp; done)) ?_
            iterate 4 first | refine op_pure rfl rfl ?_ | refine op_nil ?_
            refine q_seq ?_
            refine co_seq ?_
            refine co_region ?_
            iterate 3 first | refine op_mem rfl rfl ?_ | refine op_pure rfl rfl ?_
            refine op_nat (d + 1) rfl rfl (by first | rfl | omega) ⟨by omega, by omega⟩ ?_
            refine op_mem rfl rfl ?_
            refine op_ps rfl rfl rfl rfl rfl rfl (ihR _ (d + 1) (turnM b d) hR (by omega)) (by first | rfl | assumption | (simp; done)) (by first | rfl | assumption | (simp; done)) ?_
            iterate 6 first | refine op_pure rfl rfl ?_ | refine op_nil ?_
            refine q_seq ?_
            iterate 3 first | refine co_seq ?_ | refine co_region ?_
            iterate 3 first | refine op_pure rfl rfl ?_ | refine op_nil ?_
            refine q_seq ?_
            refine co_dec rfl (by first | exact ltI_iff | exact eqI_iff | exact nlt_iff | exact neq_iff | exact dec_iff | exact bool_iff) (fun h3 => ?_) (fun h3 => ?_)
            · refine co_seq ?_
              refine co_region ?_
              iterate 3 first | refine op_pure rfl rfl ?_ | refine op_nil ?_
              refine q_seq ?_
              refine co_ret ?_
              refine q_seqx (by intro h; cases h) ?_
              refine q_blkn (by intro i h; cases h) ?_
              refine q_seqx (by intro h; cases h) ?_
              refine q_outk (by intro h; cases h) ?_
              refine q_blkn (by intro i h; cases h) ?_
              refine q_seqx (by intro h; cases h) ?_
              have e : T.ok d b (.fork tl tr) = false := by simp only [T.ok]; rw [show tr.ok (d + 1) (turnM b d) = false by simpa using h3]; simp
              rw [e]
              exact fin_eq (.inr rfl) rfl rfl
            · have hk : tr.ok (d + 1) (turnM b d) = true := by simpa using h3
              refine co_skip ?_
              refine q_seq ?_
              iterate 3 first | refine co_seq ?_ | refine co_region ?_
              refine op_pure rfl rfl ?_
              refine op_cmp rfl rfl (by first | exact ltI_iff | exact eqI_iff | exact nlt_iff | exact neq_iff | exact dec_iff | exact bool_iff) ?_
              refine op_nil ?_
              refine q_seq ?_
              refine co_dec rfl (by first | exact ltI_iff | exact eqI_iff | exact nlt_iff | exact neq_iff | exact dec_iff | exact bool_iff) (fun h4 => ?_) (fun h4 => ?_)
              · have hn : nnI tr = 1 := by have h4 : (0 : Int) < r := h4; unfold nnI; rw [nr, if_pos (decide_eq_true (by omega))]
                refine co_region ?_
                refine op_pure rfl rfl ?_
                first | refine op_wrap rfl rfl ⟨by omega, by omega⟩ ?_ | refine op_pure rfl rfl ?_
                refine op_pure rfl rfl ?_
                refine op_nil ?_
                refine q_seq ?_
                refine co_region ?_
                iterate 6 first | refine op_pure rfl rfl ?_ | refine op_skip rfl ?_ | refine op_nil ?_
                refine q_blkn (by intro i h; cases h) ?_
                refine q_seq ?_
                refine co_region ?_
                refine op_nat (2) rfl rfl (by first | rfl | omega) ⟨by omega, by omega⟩ ?_
                refine op_pure rfl rfl ?_
                refine op_nil ?_
                exact q_againK ((2, nnI tl + 1, true)) (.inr (.inr ⟨rfl, k1, hk, by simp only [hn], rfl⟩)) (by simp) ⟨rfl, rfl, rfl, trivial⟩ ⟨rfl, rfl, rfl, rfl, rfl, trivial⟩ (by repeat (first | exact trivial | refine ⟨by first | rfl | exact ref_pur (by first | rfl | (simp; done)), ?_⟩)) (by omega) (by repeat (first | exact keeps_refl | refine keeps_cons (by omega) ?_ | refine keeps_hset (by omega) ?_ | refine keeps_hdel (by omega) ?_)) rfl
              · have hn : nnI tr = 0 := by have h4 : ¬ (0 : Int) < r := h4; unfold nnI; rw [nr, if_neg (by simp; omega)]
                refine co_skip ?_
                refine q_seq ?_
                refine co_region ?_
                iterate 6 first | refine op_pure rfl rfl ?_ | refine op_skip rfl ?_ | refine op_nil ?_
                refine q_blkn (by intro i h; cases h) ?_
                refine q_seq ?_
                refine co_region ?_
                refine op_nat (2) rfl rfl (by first | rfl | omega) ⟨by omega, by omega⟩ ?_
                refine op_pure rfl rfl ?_
                refine op_nil ?_
                exact q_againK ((2, nnI tl, true)) (.inr (.inr ⟨rfl, k1, hk, by simp only [hn, Int.add_zero], rfl⟩)) (by simp) ⟨rfl, rfl, rfl, trivial⟩ ⟨rfl, rfl, rfl, rfl, rfl, trivial⟩ (by repeat (first | exact trivial | refine ⟨by first | rfl | exact ref_pur (by first | rfl | (simp; done)), ?_⟩)) (by omega) (by repeat (first | exact keeps_refl | refine keeps_cons (by omega) ?_ | refine keeps_hset (by omega) ?_ | refine keeps_hdel (by omega) ?_)) rfl
          | false =>
            skip
            refine co_seq ?_
            refine co_region ?_
            refine op_cmp rfl rfl (by first | exact ltI_iff | exact eqI_iff | exact nlt_iff | exact neq_iff | exact dec_iff | exact bool_iff) ?_
            refine op_nil ?_
            refine q_seq ?_
            iterate 3 first | refine co_seq ?_ | refine co_true rfl ?_ | refine co_skip ?_
            refine q_seq ?_
            iterate 4 first | refine co_seq ?_ | refine co_block ?_ | refine co_region ?_
            iterate 6 first | refine op_pure rfl rfl ?_ | refine op_mem rfl rfl ?_ | refine op_nil ?_
            refine q_seq ?_
            refine co_seq ?_
            refine co_region ?_
            refine op_mem rfl rfl ?_
            first | refine op_ps rfl rfl rfl rfl rfl rfl (roads_s _) (by first | rfl | assumption | (simp; done)) (by first | rfl | assumption | (simp; done)) ?_ | refine op_ps rfl rfl rfl rfl rfl rfl (roads_s _) (by first | rfl | assumption | (simp; done)) (by first | rfl | assumption | (simp; done)) ?_
            iterate 4 first | refine op_pure rfl rfl ?_ | refine op_nil ?_
            refine q_seq ?_
            refine co_seq ?_
            refine co_region ?_
            iterate 3 first | refine op_mem rfl rfl ?_ | refine op_pure rfl rfl ?_
            refine op_nat (d + 1) rfl rfl (by first | rfl | omega) ⟨by omega, by omega⟩ ?_
            refine op_mem rfl rfl ?_
            refine op_ps rfl rfl rfl rfl rfl rfl (ihR _ (d + 1) (turnM b d) hR (by omega)) (by first | rfl | assumption | (simp; done)) (by first | rfl | assumption | (simp; done)) ?_
            iterate 6 first | refine op_pure rfl rfl ?_ | refine op_nil ?_
            refine q_seq ?_
            iterate 3 first | refine co_seq ?_ | refine co_region ?_
            iterate 3 first | refine op_pure rfl rfl ?_ | refine op_nil ?_
            refine q_seq ?_
            refine co_dec rfl (by first | exact ltI_iff | exact eqI_iff | exact nlt_iff | exact neq_iff | exact dec_iff | exact bool_iff) (fun h3 => ?_) (fun h3 => ?_)
            · refine co_seq ?_
              refine co_region ?_
              iterate 3 first | refine op_pure rfl rfl ?_ | refine op_nil ?_
              refine q_seq ?_
              refine co_ret ?_
              refine q_seqx (by intro h; cases h) ?_
              refine q_blkn (by intro i h; cases h) ?_
              refine q_seqx (by intro h; cases h) ?_
              refine q_outk (by intro h; cases h) ?_
              refine q_blkn (by intro i h; cases h) ?_
              refine q_seqx (by intro h; cases h) ?_
              have e : T.ok d b (.fork tl tr) = false := by simp only [T.ok]; rw [show tr.ok (d + 1) (turnM b d) = false by simpa using h3]; simp
              rw [e]
              exact fin_eq (.inr rfl) rfl rfl
            · have hk : tr.ok (d + 1) (turnM b d) = true := by simpa using h3
              refine co_skip ?_
              refine q_seq ?_
              iterate 3 first | refine co_seq ?_ | refine co_region ?_
              refine op_pure rfl rfl ?_
              refine op_cmp rfl rfl (by first | exact ltI_iff | exact eqI_iff | exact nlt_iff | exact neq_iff | exact dec_iff | exact bool_iff) ?_
              refine op_nil ?_
              refine q_seq ?_
              refine co_dec rfl (by first | exact ltI_iff | exact eqI_iff | exact nlt_iff | exact neq_iff | exact dec_iff | exact bool_iff) (fun h4 => ?_) (fun h4 => ?_)
              · have hn : nnI tr = 1 := by have h4 : (0 : Int) < r := h4; unfold nnI; rw [nr, if_pos (decide_eq_true (by omega))]
                refine co_region ?_
                refine op_pure rfl rfl ?_
                first | refine op_wrap rfl rfl ⟨by omega, by omega⟩ ?_ | refine op_pure rfl rfl ?_
                refine op_pure rfl rfl ?_
                refine op_nil ?_
                refine q_seq ?_
                refine co_region ?_
                iterate 6 first | refine op_pure rfl rfl ?_ | refine op_nil ?_
                refine q_blkn (by intro i h; cases h) ?_
                refine q_seq ?_
                refine co_region ?_
                refine op_nat (2) rfl rfl (by first | rfl | omega) ⟨by omega, by omega⟩ ?_
                refine op_pure rfl rfl ?_
                refine op_nil ?_
                exact q_againK ((2, nnI tl + 1, tr.ok (d + 1) (turnM b d) && tr.isFork)) (.inr (.inr ⟨rfl, k1, hk, by simp only [hn], by simp [hk]⟩)) (by simp) ⟨rfl, rfl, rfl, trivial⟩ ⟨rfl, rfl, rfl, rfl, rfl, trivial⟩ (by repeat (first | exact trivial | refine ⟨by first | rfl | exact ref_pur (by first | rfl | (simp; done)), ?_⟩)) (by omega) (by repeat (first | exact keeps_refl | refine keeps_cons (by omega) ?_ | refine keeps_hset (by omega) ?_ | refine keeps_hdel (by omega) ?_)) rfl
              · have hn : nnI tr = 0 := by have h4 : ¬ (0 : Int) < r := h4; unfold nnI; rw [nr, if_neg (by simp; omega)]
                refine co_skip ?_
                refine q_seq ?_
                refine co_region ?_
                iterate 6 first | refine op_pure rfl rfl ?_ | refine op_nil ?_
                refine q_blkn (by intro i h; cases h) ?_
                refine q_seq ?_
                refine co_region ?_
                refine op_nat (2) rfl rfl (by first | rfl | omega) ⟨by omega, by omega⟩ ?_
                refine op_pure rfl rfl ?_
                refine op_nil ?_
                exact q_againK ((2, nnI tl, tr.ok (d + 1) (turnM b d) && tr.isFork)) (.inr (.inr ⟨rfl, k1, hk, by simp only [hn, Int.add_zero], by simp [hk]⟩)) (by simp) ⟨rfl, rfl, rfl, trivial⟩ ⟨rfl, rfl, rfl, rfl, rfl, trivial⟩ (by repeat (first | exact trivial | refine ⟨by first | rfl | exact ref_pur (by first | rfl | (simp; done)), ?_⟩)) (by omega) (by repeat (first | exact keeps_refl | refine keeps_cons (by omega) ?_ | refine keeps_hset (by omega) ?_ | refine keeps_hdel (by omega) ?_)) rfl
        · have e : T.ok d b (.fork tl tr) = T.two tl tr := by simp only [T.ok]; rw [decide_eq_true hd', k1, k2]; rfl
          have e2 : (T.fork tl tr).isFork = true := rfl
          rw [e, e2, Bool.and_true]
          have e3 : T.two tl tr = ((tl.isFork || tr.isFork) || decide (nnI tl + nnI tr = 2)) := by
            unfold T.two nnI
            congr 1
            cases tl.non <;> cases tr.non <;> rfl
          rw [e3]
          cases hw : (tl.isFork || tr.isFork) with
          | true =>
            skip
            refine co_seq ?_
            refine co_region ?_
            refine op_cmp rfl rfl (by first | exact ltI_iff | exact eqI_iff | exact nlt_iff | exact neq_iff | exact dec_iff | exact bool_iff) ?_
            refine op_nil ?_
            refine q_seq ?_
            iterate 3 first | refine co_seq ?_ | refine co_false rfl ?_ | refine co_exit ?_
            refine q_seqx (by intro h; cases h) ?_
            refine q_outk (by intro h; cases h) ?_
            refine q_blk ?_
            refine q_seq ?_
            refine co_seq ?_
            refine co_region ?_
            iterate 7 first | refine op_pure rfl rfl ?_ | refine op_skip rfl ?_ | refine op_nil ?_
            refine q_seq ?_
            refine co_seq ?_
            refine co_region ?_
            iterate 5 first | refine op_pure rfl rfl ?_ | refine op_nil ?_
            refine q_seq ?_
            refine co_ret ?_
            exact fin_eq (.inr rfl) rfl rfl
          | false =>
            skip
            refine co_seq ?_
            refine co_region ?_
            refine op_cmp rfl rfl (by first | exact ltI_iff | exact eqI_iff | exact nlt_iff | exact neq_iff | exact dec_iff | exact bool_iff) ?_
            refine op_nil ?_
            refine q_seq ?_
            iterate 3 first | refine co_seq ?_ | refine co_false rfl ?_ | refine co_exit ?_
            refine q_seqx (by intro h; cases h) ?_
            refine q_outk (by intro h; cases h) ?_
            refine q_blk ?_
            refine q_seq ?_
            refine co_seq ?_
            refine co_region ?_
            iterate 3 refine op_pure rfl rfl ?_
            refine op_cmp rfl rfl (by first | exact ltI_iff | exact eqI_iff | exact nlt_iff | exact neq_iff | exact dec_iff | exact bool_iff) ?_
            iterate 3 first | refine op_pure rfl rfl ?_ | refine op_nil ?_
            refine q_seq ?_
            refine co_seq ?_
            refine co_region ?_
            iterate 5 first | refine op_pure rfl rfl ?_ | refine op_nil ?_
            refine q_seq ?_
            refine co_ret ?_
            exact fin_eq (.inr rfl) rfl (by simp)
end Go.Proofs.Ytgeelfdgnehdnaa
namespace Go.Proofs.Ytgeelfdgnehdnaa
open Go.RowKit
set_option linter.unusedSimpArgs false
set_option linter.unusedVariables false
attribute [local irreducible] CoW OpW FlW Step Spec
variable {G : Nat → Option W}
def okN (ns : List Node) : Prop := ∀ i x, ns[i]? = some x → oneB x i
theorem rep_of {ns : List Node} (h : okN ns) : ∀ n, n ≤ ns.length → ∃ t, Rep ns n t := by
  intro n
  induction n using Nat.strongRecOn with
  | _ n ih =>
    intro hn
    cases n with
    | zero => exact ⟨_, .nil⟩
    | succ n =>
      obtain ⟨x, hx⟩ : ∃ x, ns[n]? = some x := ⟨_, List.getElem?_eq_getElem hn⟩
      have h1 := h n x hx
      obtain ⟨lf, k, v, l, r⟩ := x
      cases lf with
      | true => exact ⟨_, .leaf hx⟩
      | false =>
        simp only [oneB, Bool.false_eq_true, if_false] at h1
        obtain ⟨⟨a1, a2⟩, ⟨b1, b2⟩, _⟩ := h1
        obtain ⟨l, rfl⟩ := Int.eq_ofNat_of_zero_le a1
        obtain ⟨r, rfl⟩ := Int.eq_ofNat_of_zero_le b1
        obtain ⟨L, hL⟩ := ih l (by omega) (by omega)
        obtain ⟨R, hR⟩ := ih r (by omega) (by omega)
        exact ⟨_, .fork hx (by omega) (by omega) hL hR⟩
theorem Rep.uniq {ns : List Node} {n : Nat} {t : T} (h : Rep ns n t) : ∀ {t' : T}, Rep ns n t' → t = t' := by
  induction h with
  | nil => intro t' h'; cases h'; rfl
  | leaf h =>
    intro t' h'
    cases h' with
    | leaf h2 => rw [h] at h2; cases h2; rfl
    | fork h2 => rw [h] at h2; cases h2
  | fork h hl hr _ _ i1 i2 =>
    intro t' h'
    cases h' with
    | leaf h2 => rw [h] at h2; cases h2
    | fork h2 _ _ hL hR =>
      rw [h] at h2
      simp only [Option.some.injEq, Node.mk.injEq, Int.natCast_inj, true_and] at h2
      obtain ⟨_, _, rfl, rfl⟩ := h2
      rw [i1 hL, i2 hR]
def MayT (t : Tree) : Prop := t.nodes.length ≤ 262144 ∧ okN t.nodes ∧ ∃ (n : Nat) (t0 : T), t.root = n ∧ Rep t.nodes n t0 ∧ t0.ok 0 zeroD = true
noncomputable instance (t : Tree) : Decidable (MayT t) := Classical.propDecidable _
theorem tcheck_s (t : Tree) (hb : t.nodes.length ≤ 4611686018427387903) : PS cfg G 33 [tW t] (.int .i64 (if MayT t then 0 else 8)) := by
  have e : (t.nodes.map nW).length = t.nodes.length := List.length_map _
  have no : ∀ {R : Res} {k0 : Nat}, ¬ MayT t → W.int .i64 8 = W.int .i64 (if MayT t then 0 else 8) := fun h => by rw [if_neg h]
  refine ps_in (fn := Try.f33) rfl rfl rfl (Nat.le_of_ble_eq_true rfl) (fun R k0 => ?_)
  refine co_seq ?_
  refine co_region ?_
  refine op_mem rfl rfl ?_
  refine op_pure rfl rfl ?_
  refine op_nil ?_
  refine q_seq ?_
  iterate 2 refine co_seq ?_
  refine co_region ?_
  refine op_pure rfl rfl ?_
  refine op_mem rfl rfl ?_
  refine op_val (w' := .int .i64 (t.nodes.length : Int)) rfl rfl (by rw [← e]; rfl) ?_
  refine op_dec rfl rfl (by first | exact ltI_iff | exact eqI_iff | exact nlt_iff | exact neq_iff | exact dec_iff | exact bool_iff) (fun h1 => ?_) (fun h1 => ?_)
  · have hno : ¬ MayT t := fun h => by have := h.1; omega
    iterate 14 first | refine op_pure rfl rfl ?_ | refine op_skip rfl ?_ | refine op_nil ?_
    refine q_seq ?_
    refine co_true rfl ?_
    refine co_seq ?_
    refine co_region ?_
    refine op_pure rfl rfl ?_
    refine op_nil ?_
    refine q_seq ?_
    refine co_ret ?_
    refine q_seqx (by intro h; cases h) ?_
    exact fin_eq (.inr rfl) rfl (by rw [if_neg hno])
  iterate 2 refine op_pure rfl rfl ?_
  refine op_mem rfl rfl ?_
  refine op_dec rfl rfl (by first | exact ltI_iff | exact eqI_iff | exact nlt_iff | exact neq_iff | exact dec_iff | exact bool_iff) (fun h2 => ?_) (fun h2 => ?_)
  · have hno : ¬ MayT t := fun h => by obtain ⟨_, _, n, _, h, _⟩ := h; have h2 : t.root < 0 := h2; omega
    iterate 10 first | refine op_pure rfl rfl ?_ | refine op_skip rfl ?_ | refine op_nil ?_
    refine q_seq ?_
    refine co_true rfl ?_
    refine co_seq ?_
    refine co_region ?_
    refine op_pure rfl rfl ?_
    refine op_nil ?_
    refine q_seq ?_
    refine co_ret ?_
    refine q_seqx (by intro h; cases h) ?_
    exact fin_eq (.inr rfl) rfl (by rw [if_neg hno])
  iterate 6 first | refine op_pure rfl rfl ?_ | refine op_mem rfl rfl ?_
  refine op_val (w' := .int .i64 (t.nodes.length : Int)) rfl rfl (by rw [← e]; rfl) ?_
  refine op_cmp rfl rfl (by first | exact ltI_iff | exact eqI_iff | exact nlt_iff | exact neq_iff | exact dec_iff | exact bool_iff) ?_
  refine op_pure rfl rfl ?_
  refine op_nil ?_
  refine q_seq ?_
  refine co_dec rfl (by first | exact ltI_iff | exact eqI_iff | exact nlt_iff | exact neq_iff | exact dec_iff | exact bool_iff) (fun h3 => ?_) (fun h3 => ?_)
  · have hno : ¬ MayT t := fun h => by obtain ⟨_, _, n, _, h, hr, _⟩ := h; have h3 : (t.nodes.length : Int) < t.root := h3; have := hr.le; omega
    refine co_seq ?_
    refine co_region ?_
    refine op_pure rfl rfl ?_
    refine op_nil ?_
    refine q_seq ?_
    refine co_ret ?_
    refine q_seqx (by intro h; cases h) ?_
    exact fin_eq (.inr rfl) rfl (by rw [if_neg hno])
  have h2 : ¬ t.root < 0 := h2
  have h3 : ¬ (t.nodes.length : Int) < t.root := h3
  obtain ⟨n0, hn0⟩ := Int.eq_ofNat_of_zero_le (show 0 ≤ t.root by omega)
  refine co_skip ?_
  refine q_seq ?_
  iterate 2 refine co_seq ?_
  refine co_region ?_
  refine op_pure rfl rfl ?_
  refine op_mem rfl rfl ?_
  refine op_val (w' := .int .i64 (t.nodes.length : Int)) rfl rfl (by rw [← e]; rfl) ?_
  refine op_pure rfl rfl ?_
  refine op_nil ?_
  refine q_seq ?_
  refine co_block ?_
  refine co_loopK (α := Nat) (fun i => i ≤ t.nodes.length ∧ ∀ j x, j < i → t.nodes[j]? = some x → oneB x j) (fun i => [(27, .int .i64 (i : Int))]) [(1, _), (2, _), (25, _), (26, _)] (fun i => t.nodes.length - i) (0) ⟨rfl, rfl, rfl, rfl, trivial⟩ (⟨Nat.zero_le _, fun j x hj => by omega⟩) ⟨rfl, trivial⟩ (fun i hI => ?_)
  obtain ⟨hi, hI⟩ := hI
  refine co_seq ?_
  refine co_region ?_
  refine op_cmp rfl rfl (by first | exact ltI_iff | exact eqI_iff | exact nlt_iff | exact neq_iff | exact dec_iff | exact bool_iff) ?_
  refine op_nil ?_
  refine q_seq ?_
  refine co_seq ?_
  refine co_dec rfl (by first | exact ltI_iff | exact eqI_iff | exact nlt_iff | exact neq_iff | exact dec_iff | exact bool_iff) (fun h4 => ?_) (fun h4 => ?_)
  · have hi' : i < t.nodes.length := by omega
    obtain ⟨x, hx⟩ : ∃ x, t.nodes[i]? = some x := ⟨_, List.getElem?_eq_getElem hi'⟩
    refine co_skip ?_
    refine q_seq ?_
    iterate 4 first | refine co_seq ?_ | refine co_block ?_ | refine co_region ?_
    refine op_pure rfl rfl ?_
    refine op_pure rfl (ix_fz (i := i) rfl rfl rfl rfl rfl rfl rfl (map_at nW hx)) ?_
    iterate 5 first | refine op_mem rfl rfl ?_ | refine op_pure rfl rfl ?_ | refine op_nil ?_
    refine q_seq ?_
    refine co_seq ?_
    refine co_region ?_
    refine op_mem rfl rfl ?_
    refine op_pure rfl rfl ?_
    first | refine op_ps rfl rfl rfl rfl rfl rfl (one_s _ _ (by omega)) (by first | rfl | assumption | (simp; done)) (by first | rfl | assumption | (simp; done)) ?_ | refine op_ps rfl rfl rfl rfl rfl rfl (one_s _ _ (by omega)) (by first | rfl | assumption | (simp; done)) (by first | rfl | assumption | (simp; done)) ?_
    refine op_pure rfl rfl ?_
    refine op_nil ?_
    refine q_seq ?_
    refine co_dec rfl (by first | exact ltI_iff | exact eqI_iff | exact nlt_iff | exact neq_iff | exact dec_iff | exact bool_iff) (fun h5 => ?_) (fun h5 => ?_)
    · have hno : ¬ MayT t := fun h => by have := h.2.1 i x hx; simp [this] at h5
      refine co_seq ?_
      refine co_region ?_
      refine op_pure rfl rfl ?_
      refine op_nil ?_
      refine q_seq ?_
      refine co_ret ?_
      refine q_blkn (by intro i h; cases h) ?_
      refine q_seqx (by intro h; cases h) ?_
      refine q_outk (by intro h; cases h) ?_
      refine q_blkn (by intro i h; cases h) ?_
      refine q_seqx (by intro h; cases h) ?_
      exact fin_eq (.inr rfl) rfl (by rw [if_neg hno])
    · have h5 : oneB x i := by simpa using h5
      refine co_skip ?_
      refine q_blkn (by intro i h; cases h) ?_
      refine q_seq ?_
      refine co_region ?_
      refine op_nat (i + 1) rfl rfl (by first | rfl | omega) ⟨by omega, by omega⟩ ?_
      refine op_pure rfl rfl ?_
      refine op_nil ?_
      exact q_againK (i + 1) (⟨hi', fun j y hj hy => by rcases Nat.lt_succ_iff_lt_or_eq.1 hj with h | rfl; exact hI j y h hy; exact (Option.some.inj (hx.symm.trans hy)) ▸ h5⟩) (by omega) ⟨rfl, trivial⟩ ⟨rfl, rfl, rfl, rfl, trivial⟩ (by repeat (first | exact trivial | refine ⟨by first | rfl | exact ref_pur (by first | rfl | (simp; done)), ?_⟩)) (by omega) (by repeat (first | exact keeps_refl | refine keeps_cons (by omega) ?_ | refine keeps_hset (by omega) ?_ | refine keeps_hdel (by omega) ?_)) rfl
  · have okn : okN t.nodes := fun j x hx => hI j x (by have := (List.getElem?_eq_some_iff.1 hx).1; omega) hx
    obtain ⟨t0, ht0⟩ := rep_of okn n0 (by omega)
    have key : MayT t ↔ t0.ok 0 zeroD = true := by
      constructor
      · rintro ⟨_, _, n, t1, hn, hr, hk⟩
        obtain rfl : n = n0 := by omega
        rw [ht0.uniq hr]; exact hk
      · exact fun h => ⟨by omega, okn, n0, t0, hn0, ht0, h⟩
    refine co_exit ?_
    refine q_seqx (by intro h; cases h) ?_
    refine q_outk (by intro h; cases h) ?_
    refine q_blk ?_
    refine q_seq ?_
    iterate 2 refine co_seq ?_
    refine co_region ?_
    iterate 3 first | refine op_mem rfl rfl ?_ | refine op_pure rfl rfl ?_
    refine op_val rfl rfl dW_zero ?_
    refine op_ps rfl rfl rfl rfl rfl (by rw [hn0]; rfl) (right_s t (by omega) t0 n0 0 zeroD ht0 (by omega)) (by simp) (by simp) ?_
    iterate 5 refine op_pure rfl rfl ?_
    refine op_nil ?_
    refine q_seq ?_
    refine co_seq ?_
    refine co_region ?_
    iterate 2 refine op_pure rfl rfl ?_
    refine op_nil ?_
    refine q_seq ?_
    refine co_dec rfl (by first | exact ltI_iff | exact eqI_iff | exact nlt_iff | exact neq_iff | exact dec_iff | exact bool_iff) (fun h5 => ?_) (fun h5 => ?_)
    · have hno : ¬ MayT t := fun h => by have := key.1 h; simp [this] at h5
      refine co_seq ?_
      refine co_region ?_
      refine op_pure rfl rfl ?_
      refine op_nil ?_
      refine q_seq ?_
      refine co_ret ?_
      refine q_seqx (by intro h; cases h) ?_
      exact fin_eq (.inr rfl) rfl (by rw [if_neg hno])
    · have yes : MayT t := key.2 (by simpa using h5)
      refine co_skip ?_
      refine q_seq ?_
      refine co_seq ?_
      refine co_region ?_
      refine op_pure rfl rfl ?_
      refine op_nil ?_
      refine q_seq ?_
      refine co_ret ?_
      exact fin_eq (.inr rfl) rfl (by rw [if_pos yes])
inductive FTo (ns : List Node) (k : Dig) : Nat → Nat → Nat → Prop where
  | nil {d : Nat} : FTo ns k 0 d 0
  | hit {n d : Nat} {v : List UInt8} {l r : Int} (h : ns[n]? = some ⟨true, k, v, l, r⟩) : FTo ns k (n + 1) d (n + 1)
  | miss {n d : Nat} {k' : Dig} {v : List UInt8} {l r : Int} (h : ns[n]? = some ⟨true, k', v, l, r⟩) (hk : k' ≠ k) : FTo ns k (n + 1) d 0
  | go {n d l r m : Nat} {k' : Dig} {v : List UInt8} (h : ns[n]? = some ⟨false, k', v, l, r⟩) (hd : d < 256) (hg : FTo ns k (if bitN k d = 0 then l else r) (d + 1) m) : FTo ns k (n + 1) d m
theorem fto_of {ns : List Node} {k : Dig} {n : Nat} {t : T} (h : Rep ns n t) : ∀ {d : Nat} {b : Dig}, t.ok d b = true → ∃ m, FTo ns k n d m ∧ (t.find k d = none → m = 0) ∧ ∀ v, t.find k d = some v → ∃ j l r, m = j + 1 ∧ ns[j]? = some ⟨true, k, v, l, r⟩ := by
  induction h with
  | nil => exact fun _ => ⟨0, .nil, fun _ => rfl, fun v h => by simp [T.find] at h⟩
  | leaf h =>
    rename_i n k' v l r
    intro d b _
    by_cases e : k' = k
    · subst e
      exact ⟨n + 1, .hit h, fun hn => by simp [T.find] at hn, fun w hw => by simp only [T.find, if_true, Option.some.injEq] at hw; subst hw; exact ⟨n, l, r, rfl, h⟩⟩
    · exact ⟨0, .miss h e, fun _ => rfl, fun w hw => by simp [T.find, e] at hw⟩
  | fork h hl hr hL hR i1 i2 =>
    intro d b hk
    obtain ⟨hd, k1, k2, _⟩ := ok_fork.1 hk
    by_cases hb : bitN k d = 0
    · obtain ⟨m, g1, g2, g3⟩ := i1 k1
      exact ⟨m, .go h hd (by rw [if_pos hb]; exact g1), by simp only [T.find, if_pos hb]; exact g2, by simp only [T.find, if_pos hb]; exact g3⟩
    · obtain ⟨m, g1, g2, g3⟩ := i2 k2
      exact ⟨m, .go h hd (by rw [if_neg hb]; exact g1), by simp only [T.find, if_neg hb]; exact g2, by simp only [T.find, if_neg hb]; exact g3⟩
theorem tbit_c (k : Dig) (d c : Nat) (h : d < 256) (hc : bitN k d = c) : PS cfg G 62 [dW k, .int .i64 (d : Int)] (.int .u8 (c : Int)) := hc ▸ tbit_s k d h
theorem tfind_s (t : Tree) (k : Dig) (n m : Nat) (hn : t.root = n) (hf : FTo t.nodes k n 0 m) (hb : t.nodes.length ≤ 4611686018427387903) : PS cfg G 34 [tW t, dW k] (.int .i64 (m : Int)) := by
  obtain ⟨ns, root⟩ := t
  simp only at hn hf hb
  subst hn
  refine ps_in (fn := Try.f34) rfl rfl rfl (Nat.le_of_ble_eq_true rfl) (fun R k0 => ?_)
  refine co_seq ?_
  refine co_region ?_
  iterate 2 refine op_mem rfl rfl ?_
  refine op_pure rfl rfl ?_
  refine op_nil ?_
  refine q_seq ?_
  refine co_seq ?_
  refine co_region ?_
  iterate 3 first | refine op_pure rfl rfl ?_ | refine op_mem rfl rfl ?_
  refine op_nil ?_
  refine q_seq ?_
  iterate 2 refine co_seq ?_
  refine co_region ?_
  refine op_pure rfl rfl ?_
  refine op_nil ?_
  refine q_seq ?_
  refine co_block ?_
  refine co_loopK (α := Nat × Nat) (fun p => FTo ns k p.1 p.2 m ∧ p.2 ≤ 256) (fun p => [(5, .int .i64 (p.1 : Int)), (6, .int .i64 (p.2 : Int))]) [(2, _), (3, _), (4, _)] (fun p => 257 - p.2) ((n, 0)) ⟨rfl, rfl, rfl, trivial⟩ (⟨hf, by simp⟩) ⟨rfl, rfl, trivial⟩ (fun p hI => ?_)
  obtain ⟨i, d⟩ := p
  obtain ⟨hf, hd⟩ := hI
  simp only at hf hd ⊢
  iterate 2 refine co_seq ?_
  refine co_region ?_
  refine op_pure rfl rfl ?_
  refine op_cmp rfl rfl (by first | exact ltI_iff | exact eqI_iff | exact nlt_iff | exact neq_iff | exact dec_iff | exact bool_iff) ?_
  refine op_nil ?_
  refine q_seq ?_
  refine co_dec rfl (by first | exact ltI_iff | exact eqI_iff | exact nlt_iff | exact neq_iff | exact dec_iff | exact bool_iff) (fun h1 => ?_) (fun h1 => ?_)
  · cases hf with
    | nil => exfalso; omega
    | hit h =>
      skip
      rename_i i v l r
      have hi := (List.getElem?_eq_some_iff.1 h).1
      refine co_skip ?_
      refine q_seq ?_
      iterate 4 first | refine co_seq ?_ | refine co_block ?_ | refine co_region ?_
      iterate 3 first | refine op_pure rfl rfl ?_ | refine op_mem rfl rfl ?_
      refine op_nat (i) rfl rfl (by first | rfl | omega) ⟨by omega, by omega⟩ ?_
      refine op_pure rfl (ix_fz (i := i) rfl rfl rfl rfl rfl rfl rfl (map_at nW h)) ?_
      iterate 3 refine op_mem rfl rfl ?_
      refine op_nil ?_
      refine q_seq ?_
      iterate 2 refine co_seq ?_
      refine co_region ?_
      refine op_pure rfl rfl ?_
      refine op_mem rfl rfl ?_
      refine op_nil ?_
      refine q_seq ?_
      iterate 4 first | refine co_true rfl ?_ | refine co_seq ?_ | refine co_region ?_
      iterate 3 first | refine op_pure rfl rfl ?_ | refine op_mem rfl rfl ?_
      refine op_cmp rfl (bin_eql rfl rfl rfl rfl (eq_dig rfl rfl rfl rfl rfl rfl _ _ 250)) dec_iff ?_
      refine op_nil ?_
      refine q_seq ?_
      refine co_dec rfl (by first | exact ltI_iff | exact eqI_iff | exact nlt_iff | exact neq_iff | exact dec_iff | exact bool_iff) (fun h2 => ?_) (fun h2 => ?_)
      · refine co_seq ?_
        refine co_region ?_
        iterate 2 refine op_pure rfl rfl ?_
        refine op_nil ?_
        refine q_seq ?_
        refine co_ret ?_
        iterate 2 refine q_seqx (by intro h; cases h) ?_
        refine q_blkn (by intro i h; cases h) ?_
        refine q_seqx (by intro h; cases h) ?_
        refine q_outk (by intro h; cases h) ?_
        refine q_blkn (by intro i h; cases h) ?_
        refine q_seqx (by intro h; cases h) ?_
        first | exact fin_eq (.inr rfl) rfl rfl | exact fin_eq (.inl rfl) rfl rfl | (exfalso; omega)
      · exfalso; exact h2 rfl
    | miss h hk =>
      rename_i i k' v l r
      have hi := (List.getElem?_eq_some_iff.1 h).1
      refine co_skip ?_
      refine q_seq ?_
      iterate 4 first | refine co_seq ?_ | refine co_block ?_ | refine co_region ?_
      iterate 3 first | refine op_pure rfl rfl ?_ | refine op_mem rfl rfl ?_
      refine op_nat (i) rfl rfl (by first | rfl | omega) ⟨by omega, by omega⟩ ?_
      refine op_pure rfl (ix_fz (i := i) rfl rfl rfl rfl rfl rfl rfl (map_at nW h)) ?_
      iterate 3 refine op_mem rfl rfl ?_
      refine op_nil ?_
      refine q_seq ?_
      iterate 2 refine co_seq ?_
      refine co_region ?_
      refine op_pure rfl rfl ?_
      refine op_mem rfl rfl ?_
      refine op_nil ?_
      refine q_seq ?_
      iterate 4 first | refine co_true rfl ?_ | refine co_seq ?_ | refine co_region ?_
      iterate 3 first | refine op_pure rfl rfl ?_ | refine op_mem rfl rfl ?_
      refine op_cmp rfl (bin_eql rfl rfl rfl rfl (eq_dig rfl rfl rfl rfl rfl rfl _ _ 250)) dec_iff ?_
      refine op_nil ?_
      refine q_seq ?_
      refine co_dec rfl (by first | exact ltI_iff | exact eqI_iff | exact nlt_iff | exact neq_iff | exact dec_iff | exact bool_iff) (fun h2 => ?_) (fun h2 => ?_)
      · exfalso; exact hk h2
      · refine co_skip ?_
        refine q_seq ?_
        refine co_seq ?_
        refine co_region ?_
        refine op_pure rfl rfl ?_
        refine op_nil ?_
        refine q_seq ?_
        refine co_ret ?_
        refine q_seqx (by intro h; cases h) ?_
        refine q_blkn (by intro i h; cases h) ?_
        refine q_seqx (by intro h; cases h) ?_
        refine q_outk (by intro h; cases h) ?_
        refine q_blkn (by intro i h; cases h) ?_
        refine q_seqx (by intro h; cases h) ?_
        first | exact fin_eq (.inr rfl) rfl rfl | exact fin_eq (.inl rfl) rfl rfl | (exfalso; omega)
    | go h hd' hg =>
      rename_i i l r k' v
      have hi := (List.getElem?_eq_some_iff.1 h).1
      have bl := bitN_le k d
      rcases Nat.lt_or_ge 0 (bitN k d) with hb1 | hb0
      · skip
        have hc : bitN k d = 1 := by omega
        rw [if_neg (by omega)] at hg
        refine co_skip ?_
        refine q_seq ?_
        iterate 4 first | refine co_seq ?_ | refine co_block ?_ | refine co_region ?_
        iterate 3 first | refine op_pure rfl rfl ?_ | refine op_mem rfl rfl ?_
        refine op_nat (i) rfl rfl (by first | rfl | omega) ⟨by omega, by omega⟩ ?_
        refine op_pure rfl (ix_fz (i := i) rfl rfl rfl rfl rfl rfl rfl (map_at nW h)) ?_
        iterate 3 refine op_mem rfl rfl ?_
        refine op_nil ?_
        refine q_seq ?_
        iterate 2 refine co_seq ?_
        refine co_region ?_
        refine op_pure rfl rfl ?_
        refine op_mem rfl rfl ?_
        refine op_nil ?_
        refine q_seq ?_
        refine co_false rfl ?_
        refine co_skip ?_
        refine q_seq ?_
        refine co_flow ?_
        refine fl_mem rfl rfl (by first | rfl | kernel_rfl) ?_
        refine fl_ps rfl rfl rfl rfl rfl rfl (roads_s _) (by first | rfl | assumption | (simp; done)) (by first | rfl | assumption | (simp; done)) (by first | rfl | kernel_rfl) ?_
        refine fl_mem rfl rfl (by first | rfl | kernel_rfl) ?_
        refine fl_pure rfl rfl ?_
        first | refine fl_ps rfl rfl rfl rfl rfl rfl (tbit_c k d 1 hd' hc) (by first | rfl | assumption | (simp; done)) (by first | rfl | assumption | (simp; done)) (by first | rfl | kernel_rfl) ?_ | refine fl_ps rfl rfl rfl rfl rfl rfl (tbit_s _ _ (by omega)) (by first | rfl | assumption | (simp; done)) (by first | rfl | assumption | (simp; done)) (by first | rfl | kernel_rfl) ?_
        iterate 2 refine fl_pure rfl rfl ?_
        refine fl_nil ?_
        refine q_blkn (by intro i h; cases h) ?_
        refine q_seq ?_
        refine co_region ?_
        refine op_pure rfl rfl ?_
        refine op_nat (d + 1) rfl rfl (by first | rfl | omega) ⟨by omega, by omega⟩ ?_
        refine op_pure rfl rfl ?_
        refine op_nil ?_
        exact q_againK ((r, d + 1)) (⟨hg, hd'⟩) (by simp only; omega) ⟨rfl, rfl, trivial⟩ ⟨rfl, rfl, rfl, trivial⟩ (by repeat (first | exact trivial | refine ⟨by first | rfl | exact ref_pur (by first | rfl | (simp; done)), ?_⟩)) (by omega) (by repeat (first | exact keeps_refl | refine keeps_cons (by omega) ?_ | refine keeps_hset (by omega) ?_ | refine keeps_hdel (by omega) ?_)) rfl
      · have hc : bitN k d = 0 := by omega
        rw [if_pos hc] at hg
        refine co_skip ?_
        refine q_seq ?_
        iterate 4 first | refine co_seq ?_ | refine co_block ?_ | refine co_region ?_
        iterate 3 first | refine op_pure rfl rfl ?_ | refine op_mem rfl rfl ?_
        refine op_nat (i) rfl rfl (by first | rfl | omega) ⟨by omega, by omega⟩ ?_
        refine op_pure rfl (ix_fz (i := i) rfl rfl rfl rfl rfl rfl rfl (map_at nW h)) ?_
        iterate 3 refine op_mem rfl rfl ?_
        refine op_nil ?_
        refine q_seq ?_
        iterate 2 refine co_seq ?_
        refine co_region ?_
        refine op_pure rfl rfl ?_
        refine op_mem rfl rfl ?_
        refine op_nil ?_
        refine q_seq ?_
        refine co_false rfl ?_
        refine co_skip ?_
        refine q_seq ?_
        refine co_flow ?_
        refine fl_mem rfl rfl (by first | rfl | kernel_rfl) ?_
        refine fl_ps rfl rfl rfl rfl rfl rfl (roads_s _) (by first | rfl | assumption | (simp; done)) (by first | rfl | assumption | (simp; done)) (by first | rfl | kernel_rfl) ?_
        refine fl_mem rfl rfl (by first | rfl | kernel_rfl) ?_
        refine fl_pure rfl rfl ?_
        refine fl_ps rfl rfl rfl rfl rfl rfl (tbit_c k d 0 hd' hc) (by first | rfl | assumption | (simp; done)) (by first | rfl | assumption | (simp; done)) (by first | rfl | kernel_rfl) ?_
        iterate 2 refine fl_pure rfl rfl ?_
        refine fl_nil ?_
        refine q_blkn (by intro i h; cases h) ?_
        refine q_seq ?_
        refine co_region ?_
        refine op_pure rfl rfl ?_
        refine op_nat (d + 1) rfl rfl (by first | rfl | omega) ⟨by omega, by omega⟩ ?_
        refine op_pure rfl rfl ?_
        refine op_nil ?_
        exact q_againK ((l, d + 1)) (⟨hg, hd'⟩) (by simp only; omega) ⟨rfl, rfl, trivial⟩ ⟨rfl, rfl, rfl, trivial⟩ (by repeat (first | exact trivial | refine ⟨by first | rfl | exact ref_pur (by first | rfl | (simp; done)), ?_⟩)) (by omega) (by repeat (first | exact keeps_refl | refine keeps_cons (by omega) ?_ | refine keeps_hset (by omega) ?_ | refine keeps_hdel (by omega) ?_)) rfl
  · obtain rfl : i = 0 := by omega
    cases hf
    refine co_exit ?_
    refine q_seqx (by intro h; cases h) ?_
    refine q_outk (by intro h; cases h) ?_
    refine q_blk ?_
    refine q_seq ?_
    refine co_seq ?_
    refine co_region ?_
    refine op_pure rfl rfl ?_
    refine op_nil ?_
    refine q_seq ?_
    refine co_ret ?_
    first | exact fin_eq (.inr rfl) rfl rfl | exact fin_eq (.inl rfl) rfl rfl | (exfalso; omega)
structure IsT (t : Tree) (n : Nat) (t0 : T) : Prop where
  len : t.nodes.length ≤ 262144
  okn : okN t.nodes
  root : t.root = n
  rep : Rep t.nodes n t0
  ok : t0.ok 0 zeroD = true
theorem IsT.may {t : Tree} {n : Nat} {t0 : T} (h : IsT t n t0) : MayT t := ⟨h.len, h.okn, n, t0, h.root, h.rep, h.ok⟩
theorem may_is {t : Tree} (h : MayT t) : ∃ n t0, IsT t n t0 := by
  obtain ⟨h1, h2, n, t0, h3, h4, h5⟩ := h
  exact ⟨n, t0, h1, h2, h3, h4, h5⟩
theorem okN_val {ns : List Node} (h : okN ns) {i : Nat} {k : Dig} {v : List UInt8} {l r : Int} (hx : ns[i]? = some ⟨true, k, v, l, r⟩) : 0 < v.length ∧ v.length ≤ 64 := by
  have h1 := h i _ hx
  simp only [oneB, if_true] at h1
  have h2 := (h1.2.2.2 0 (by simp) (k, v) rfl).1
  simp only [valB, Bool.and_eq_true, decide_eq_true_eq] at h2
  exact h2
noncomputable def getW' : Option (List UInt8) → W
  | none => .tup [.nils, .bool false]
  | some v => .tup [bW v, .bool true]
theorem tget_s (t : Tree) (n : Nat) (t0 : T) (k : Dig) (h : IsT t n t0) : PS cfg G 12 [tW t, dW k] (getW' (t0.find k 0)) := by
  have hl := h.len
  have hy := h.may
  obtain ⟨m, f1, f2, f3⟩ := fto_of (k := k) h.rep h.ok
  cases hf : t0.find k 0 with
  | none =>
    obtain rfl := f2 hf
    refine ps_in (fn := Try.f12) rfl rfl rfl (Nat.le_of_ble_eq_true rfl) (fun R k0 => ?_)
    refine co_seq ?_
    refine co_region ?_
    iterate 5 first | refine op_mem rfl rfl ?_ | refine op_pure rfl rfl ?_ | refine op_nil ?_
    refine q_seq ?_
    iterate 2 refine co_seq ?_
    refine co_region ?_
    refine op_mem rfl rfl ?_
    first | refine op_ps rfl rfl rfl rfl rfl rfl (ps_eq (w' := .int .i64 0) (tcheck_s t (by omega)) (by rw [if_pos hy])) (by first | rfl | assumption | (simp; done)) (by first | rfl | assumption | (simp; done)) ?_ | refine op_ps rfl rfl rfl rfl rfl rfl (tcheck_s _ (by omega)) (by first | rfl | assumption | (simp; done)) (by first | rfl | assumption | (simp; done)) ?_ | refine op_ps rfl rfl rfl rfl rfl rfl (tcheck_s _ (by omega)) (by first | rfl | assumption | (simp; done)) (by first | rfl | assumption | (simp; done)) ?_
    refine op_cmp rfl rfl (by first | exact ltI_iff | exact eqI_iff | exact nlt_iff | exact neq_iff | exact dec_iff | exact bool_iff) ?_
    refine op_nil ?_
    refine q_seq ?_
    refine co_false rfl ?_
    refine co_skip ?_
    refine q_seq ?_
    refine co_seq ?_
    refine co_region ?_
    iterate 2 refine op_mem rfl rfl ?_
    refine op_ps rfl rfl rfl rfl rfl rfl (tfind_s t k n _ h.root f1 (by omega)) (by first | rfl | assumption | (simp; done)) (by first | rfl | assumption | (simp; done)) ?_
    refine op_pure rfl rfl ?_
    refine op_nil ?_
    refine q_seq ?_
    iterate 2 refine co_seq ?_
    refine co_region ?_
    refine op_pure rfl rfl ?_
    refine op_cmp rfl rfl (by first | exact ltI_iff | exact eqI_iff | exact nlt_iff | exact neq_iff | exact dec_iff | exact bool_iff) ?_
    refine op_nil ?_
    refine q_seq ?_
    refine co_true rfl ?_
    refine co_seq ?_
    refine co_region ?_
    iterate 2 refine op_pure rfl rfl ?_
    refine op_nil ?_
    refine q_seq ?_
    refine co_ret ?_
    refine q_seqx (by intro h; cases h) ?_
    exact fin_eq (.inr rfl) rfl rfl
  | some v =>
    obtain ⟨j, l, r, rfl, hx⟩ := f3 v hf
    have hv := okN_val h.okn hx
    have hj := (List.getElem?_eq_some_iff.1 hx).1
    refine ps_in (fn := Try.f12) rfl rfl rfl (Nat.le_of_ble_eq_true rfl) (fun R k0 => ?_)
    refine co_seq ?_
    refine co_region ?_
    iterate 5 first | refine op_mem rfl rfl ?_ | refine op_pure rfl rfl ?_ | refine op_nil ?_
    refine q_seq ?_
    iterate 2 refine co_seq ?_
    refine co_region ?_
    refine op_mem rfl rfl ?_
    first | refine op_ps rfl rfl rfl rfl rfl rfl (ps_eq (w' := .int .i64 0) (tcheck_s t (by omega)) (by rw [if_pos hy])) (by first | rfl | assumption | (simp; done)) (by first | rfl | assumption | (simp; done)) ?_ | refine op_ps rfl rfl rfl rfl rfl rfl (tcheck_s _ (by omega)) (by first | rfl | assumption | (simp; done)) (by first | rfl | assumption | (simp; done)) ?_ | refine op_ps rfl rfl rfl rfl rfl rfl (tcheck_s _ (by omega)) (by first | rfl | assumption | (simp; done)) (by first | rfl | assumption | (simp; done)) ?_
    refine op_cmp rfl rfl (by first | exact ltI_iff | exact eqI_iff | exact nlt_iff | exact neq_iff | exact dec_iff | exact bool_iff) ?_
    refine op_nil ?_
    refine q_seq ?_
    refine co_false rfl ?_
    refine co_skip ?_
    refine q_seq ?_
    refine co_seq ?_
    refine co_region ?_
    iterate 2 refine op_mem rfl rfl ?_
    refine op_ps rfl rfl rfl rfl rfl rfl (tfind_s t k n _ h.root f1 (by omega)) (by first | rfl | assumption | (simp; done)) (by first | rfl | assumption | (simp; done)) ?_
    refine op_pure rfl rfl ?_
    refine op_nil ?_
    refine q_seq ?_
    iterate 2 refine co_seq ?_
    refine co_region ?_
    refine op_pure rfl rfl ?_
    refine op_cmp rfl rfl (by first | exact ltI_iff | exact eqI_iff | exact nlt_iff | exact neq_iff | exact dec_iff | exact bool_iff) ?_
    refine op_nil ?_
    refine q_seq ?_
    refine co_dec rfl (by first | exact ltI_iff | exact eqI_iff | exact nlt_iff | exact neq_iff | exact dec_iff | exact bool_iff) (fun h1 => ?_) (fun h1 => ?_)
    · exfalso; omega
    · refine co_skip ?_
      refine q_seq ?_
      refine co_seq ?_
      refine co_region ?_
      iterate 3 first | refine op_pure rfl rfl ?_ | refine op_mem rfl rfl ?_
      refine op_nat (j) rfl rfl (by first | rfl | omega) ⟨by omega, by omega⟩ ?_
      refine op_pure rfl (ix_fz (i := j) rfl rfl rfl rfl rfl rfl rfl (map_at nW hx)) ?_
      refine op_pure rfl rfl ?_
      refine op_mem rfl rfl ?_
      refine op_ps rfl rfl rfl rfl rfl rfl (clone_s v false (by omega)) (by simp) (by simp) ?_
      iterate 2 refine op_pure rfl rfl ?_
      refine op_nil ?_
      refine q_seq ?_
      refine co_ret ?_
      exact fin_eq (.inr rfl) rfl rfl
theorem teach_s (t : Tree) (n : Int) : PS cfg G 77 [tW t, .int .i64 n] (.fn 89 [] [.fel (.int .i64 n), .fel (tW t)]) := by
  refine ps_in (fn := Try.f77) rfl rfl rfl (Nat.le_of_ble_eq_true rfl) (fun R k0 => ?_)
  refine co_seq ?_
  refine co_region ?_
  iterate 2 refine op_mem rfl rfl ?_
  refine op_pure rfl rfl ?_
  refine op_nil ?_
  refine q_seq ?_
  refine co_seq ?_
  refine co_region ?_
  iterate 2 refine op_pure rfl rfl ?_
  refine op_nil ?_
  refine q_seq ?_
  refine co_ret ?_
  refine fin_frz (fr2 := [(4, _)]) (by first | exact .inr rfl | exact .inl rfl) ?_ rfl rfl
  (repeat (first | exact trivial | refine And.symm ⟨?_, _, rfl, ?_⟩)) <;> (repeat (first | exact .nil | refine .cons ?_ ?_ | refine .fn ?_ ?_ | (refine view_box rfl ?_ rfl; (first | rfl | (focus (simp; done)))) | (refine .sl rfl ?_ rfl (by intro h; cases h); (first | rfl | (focus (simp; done)))) | (refine .pur ?_; (first | rfl | (focus (simp; done)))) | refine .agg ?_ | refine .arr ?_ | refine .tup ?_))
noncomputable def enc1 (p : Pr) : List W := [pW p]
theorem yl_same {L : Nat} {E : Res → Prop} {b : Bool} {R1 : Res} {l : List (List W)} (h : match b with | true => Yl cfg G L E [] R1 | false => E R1) : E R1 := by cases b <;> exact h
def restL (tl tr : T) : Nat → List Pr
  | 0 => tl.all ++ tr.all
  | 1 => tr.all
  | _ => []
theorem drop_at {α : Type} {l : List α} {i : Nat} {x : α} (h : l[i]? = some x) : l.drop i = x :: l.drop (i + 1) := by
  obtain ⟨hl, h2⟩ := List.getElem?_eq_some_iff.1 h
  rw [List.drop_eq_getElem_cons hl, h2]
theorem teach_it (t : Tree) (hv : ∀ (i : Nat) (k : Dig) (v : List UInt8) (l r : Int), t.nodes[i]? = some (Node.mk true k v l r) → v.length ≤ 70368744177664) (hb : t.nodes.length ≤ 4611686018427387903) : ∀ (t0 : T) (n : Nat), Rep t.nodes n t0 → IterSpec cfg G 89 [.fel (.int .i64 (n : Int)), .fel (tW t)] (t0.all.map enc1) := by
  intro t0
  induction t0 with
  | nil =>
    intro n hr
    obtain rfl : n = 0 := by cases hr; rfl
    refine iter_in (fn := Try.f89) rfl rfl rfl (Nat.le_of_ble_eq_true rfl) (fun L E R hy k0 => ?_)
    refine co_seq ?_
    refine co_region ?_
    refine op_mem rfl rfl ?_
    refine op_nil ?_
    refine q_seq ?_
    iterate 2 refine co_seq ?_
    refine co_region ?_
    refine op_mem rfl rfl ?_
    refine op_cmp rfl rfl (by first | exact ltI_iff | exact eqI_iff | exact nlt_iff | exact neq_iff | exact dec_iff | exact bool_iff) ?_
    refine op_nil ?_
    refine q_seq ?_
    refine co_true rfl ?_
    refine co_ret ?_
    refine q_seqx (by intro h; cases h) ?_
    exact fin_it (.inr rfl) rfl hy
  | leaf k v =>
    intro n hr
    have hle := hr.le
    cases hr with
    | leaf h =>
    rename_i n l r
    have hvl := hv _ _ _ _ _ h
    refine iter_in (fn := Try.f89) rfl rfl rfl (Nat.le_of_ble_eq_true rfl) (fun L E R hy k0 => ?_)
    refine co_seq ?_
    refine co_region ?_
    refine op_mem rfl rfl ?_
    refine op_nil ?_
    refine q_seq ?_
    iterate 2 refine co_seq ?_
    refine co_region ?_
    refine op_mem rfl rfl ?_
    refine op_cmp rfl rfl (by first | exact ltI_iff | exact eqI_iff | exact nlt_iff | exact neq_iff | exact dec_iff | exact bool_iff) ?_
    refine op_nil ?_
    refine q_seq ?_
    refine co_dec rfl (by first | exact ltI_iff | exact eqI_iff | exact nlt_iff | exact neq_iff | exact dec_iff | exact bool_iff) (fun h1 => ?_) (fun h1 => ?_)
    · exfalso; omega
    · refine co_skip ?_
      refine q_seq ?_
      refine co_seq ?_
      refine co_region ?_
      iterate 3 first | refine op_pure rfl rfl ?_ | refine op_mem rfl rfl ?_
      refine op_nat (n) rfl rfl (by first | rfl | omega) ⟨by omega, by omega⟩ ?_
      refine op_pure rfl (ix_fz (i := n) rfl rfl rfl rfl rfl rfl rfl (map_at nW h)) ?_
      iterate 3 refine op_mem rfl rfl ?_
      refine op_nil ?_
      refine q_seq ?_
      iterate 2 refine co_seq ?_
      refine co_region ?_
      refine op_pure rfl rfl ?_
      refine op_mem rfl rfl ?_
      refine op_nil ?_
      refine q_seq ?_
      refine co_true rfl ?_
      refine co_seq ?_
      refine co_flow ?_
      iterate 5 first | refine fl_mem rfl rfl (by first | rfl | kernel_rfl) ?_ | refine fl_pure rfl rfl ?_
      refine fl_ps rfl rfl rfl rfl rfl rfl (clone_s v false hvl) (by simp) (by simp) (by first | rfl | kernel_rfl) ?_
      refine fl_pure rfl rfl ?_
      refine fl_step rfl (step_yield rfl rfl rfl (hy) (fun b R1 hb => ?_))
      refine ⟨by first | rfl | kernel_rfl, ?_⟩
      refine fl_nil ?_
      refine q_seq ?_
      refine co_ret ?_
      refine q_seqx (by intro h; cases h) ?_
      exact fin_it (.inr rfl) rfl (yl_same (l := []) hb)
  | fork tl tr ihL ihR =>
    intro n hr
    have hle := hr.le
    cases hr with
    | fork h hl hr hL hR =>
    rename_i n l r k v
    refine iter_in (fn := Try.f89) rfl rfl rfl (Nat.le_of_ble_eq_true rfl) (fun L E R hy k0 => ?_)
    refine co_seq ?_
    refine co_region ?_
    refine op_mem rfl rfl ?_
    refine op_nil ?_
    refine q_seq ?_
    iterate 2 refine co_seq ?_
    refine co_region ?_
    refine op_mem rfl rfl ?_
    refine op_cmp rfl rfl (by first | exact ltI_iff | exact eqI_iff | exact nlt_iff | exact neq_iff | exact dec_iff | exact bool_iff) ?_
    refine op_nil ?_
    refine q_seq ?_
    refine co_dec rfl (by first | exact ltI_iff | exact eqI_iff | exact nlt_iff | exact neq_iff | exact dec_iff | exact bool_iff) (fun h1 => ?_) (fun h1 => ?_)
    · exfalso; omega
    · refine co_skip ?_
      refine q_seq ?_
      refine co_seq ?_
      refine co_region ?_
      iterate 3 first | refine op_pure rfl rfl ?_ | refine op_mem rfl rfl ?_
      refine op_nat (n) rfl rfl (by first | rfl | omega) ⟨by omega, by omega⟩ ?_
      refine op_pure rfl (ix_fz (i := n) rfl rfl rfl rfl rfl rfl rfl (map_at nW h)) ?_
      iterate 3 refine op_mem rfl rfl ?_
      refine op_nil ?_
      refine q_seq ?_
      iterate 2 refine co_seq ?_
      refine co_region ?_
      refine op_pure rfl rfl ?_
      refine op_mem rfl rfl ?_
      refine op_nil ?_
      refine q_seq ?_
      refine co_false rfl ?_
      refine co_skip ?_
      refine q_seq ?_
      refine co_seq ?_
      refine co_region ?_
      refine op_mem rfl rfl ?_
      refine op_ps rfl rfl rfl rfl rfl rfl (roads_s _) (by first | rfl | assumption | (simp; done)) (by first | rfl | assumption | (simp; done)) ?_
      refine op_pure rfl rfl ?_
      refine op_nil ?_
      refine q_seq ?_
      refine co_block ?_
      refine co_loopQ (α := Nat × Res) (fun p => p.1 ≤ 2 ∧ Yl cfg G L E ((restL tl tr p.1).map enc1) p.2) (fun p => [(28, .int .i64 (p.1 : Int))]) [(2, _), (3, _), (27, _)] (fun p => p.2) (fun p => 2 - p.1) ((0, R)) ⟨rfl, rfl, rfl, trivial⟩ (⟨by simp, hy⟩) ⟨rfl, trivial⟩ rfl (fun p hI => ?_)
      obtain ⟨i, R⟩ := p
      obtain ⟨hi, hy⟩ := hI
      simp only at hi hy ⊢
      refine co_seq ?_
      refine co_region ?_
      refine op_cmp rfl rfl (by first | exact ltI_iff | exact eqI_iff | exact nlt_iff | exact neq_iff | exact dec_iff | exact bool_iff) ?_
      refine op_nil ?_
      refine q_seq ?_
      refine co_seq ?_
      refine co_dec rfl (by first | exact ltI_iff | exact eqI_iff | exact nlt_iff | exact neq_iff | exact dec_iff | exact bool_iff) (fun h2 => ?_) (fun h2 => ?_)
      · have hi' : i = 0 ∨ i = 1 := by omega
        rcases hi' with rfl | rfl
        · skip
          refine co_skip ?_
          refine q_seq ?_
          iterate 4 first | refine co_seq ?_ | refine co_block ?_ | refine co_region ?_
          iterate 2 refine op_pure rfl rfl ?_
          refine op_nil ?_
          refine q_seq ?_
          refine co_seq ?_
          refine co_region ?_
          refine op_mem rfl rfl ?_
          refine op_pure rfl rfl ?_
          refine op_ps rfl rfl rfl rfl rfl rfl (teach_s t l) (by first | rfl | assumption | (simp; done)) (by first | rfl | assumption | (simp; done)) ?_
          refine op_nil ?_
          refine q_seq ?_
          refine co_block ?_
          refine co_rangeQ (enc1) (tl.all) (fun i a => Yl cfg G L E (((tl.all.drop i) ++ tr.all).map enc1) a) (fun a => a) (R) rfl (by first | rfl | assumption | (simp; done)) (ihL _ hL) (fun y _ => ⟨by simp [enc1], rfl⟩) (hy) rfl (fun i a y hy hI => ?_) (fun a hI => ?_)
          · have hd := drop_at hy
            rw [hd, List.cons_append, List.map_cons] at hI
            refine co_region ?_
            iterate 3 first | refine op_mem rfl rfl ?_ | refine op_nil ?_
            refine q_asg ?_
            iterate 3 first | refine co_block ?_ | refine co_seq ?_ | refine co_region ?_
            iterate 2 refine op_mem rfl rfl ?_
            refine op_step rfl (step_yield rfl rfl rfl (hI) (fun b R1 hb => ?_))
            refine op_pure rfl rfl ?_
            refine op_nil ?_
            refine q_seq ?_
            refine co_dec rfl (by first | exact ltI_iff | exact eqI_iff | exact nlt_iff | exact neq_iff | exact dec_iff | exact bool_iff) (fun h3 => ?_) (fun h3 => ?_)
            · cases b with
              | true => cases h3
              | false =>
                refine co_ret ?_
                refine q_blkn (by intro i h; cases h) ?_
                refine q_leavek (by intro h; cases h) ?_
                iterate 2 refine q_blkn (by intro i h; cases h) ?_
                refine q_seqx (by intro h; cases h) ?_
                refine q_outk (by intro h; cases h) ?_
                refine q_blkn (by intro i h; cases h) ?_
                exact fin_it (.inr rfl) rfl hb
            · cases b with
              | false => exact absurd rfl h3
              | true =>
                refine co_skip ?_
                refine q_blkn (by intro i h; cases h) ?_
                exact q_roundk (R1) (hb) (by omega) (by repeat (first | exact keeps_refl | refine keeps_cons (by omega) ?_ | refine keeps_hset (by omega) ?_ | refine keeps_hdel (by omega) ?_)) rfl
          · rw [List.drop_length, List.nil_append] at hI
            iterate 2 refine q_blkn (by intro i h; cases h) ?_
            refine q_seq ?_
            refine co_region ?_
            refine op_nat (1) rfl rfl (by first | rfl | omega) ⟨by omega, by omega⟩ ?_
            refine op_pure rfl rfl ?_
            refine op_nil ?_
            exact q_againK ((1, a)) (⟨by simp, hI⟩) (by simp) ⟨rfl, trivial⟩ ⟨rfl, rfl, rfl, trivial⟩ (by repeat (first | exact trivial | refine ⟨by first | rfl | exact ref_pur (by first | rfl | (simp; done)), ?_⟩)) (by omega) (by repeat (first | exact keeps_refl | refine keeps_cons (by omega) ?_ | refine keeps_hset (by omega) ?_ | refine keeps_hdel (by omega) ?_)) rfl
        · skip
          refine co_skip ?_
          refine q_seq ?_
          iterate 4 first | refine co_seq ?_ | refine co_block ?_ | refine co_region ?_
          iterate 2 refine op_pure rfl rfl ?_
          refine op_nil ?_
          refine q_seq ?_
          refine co_seq ?_
          refine co_region ?_
          refine op_mem rfl rfl ?_
          refine op_pure rfl rfl ?_
          refine op_ps rfl rfl rfl rfl rfl rfl (teach_s t r) (by first | rfl | assumption | (simp; done)) (by first | rfl | assumption | (simp; done)) ?_
          refine op_nil ?_
          refine q_seq ?_
          refine co_block ?_
          refine co_rangeQ (enc1) (tr.all) (fun i a => Yl cfg G L E ((tr.all.drop i).map enc1) a) (fun a => a) (R) rfl (by first | rfl | assumption | (simp; done)) (ihR _ hR) (fun y _ => ⟨by simp [enc1], rfl⟩) (hy) rfl (fun i a y hy hI => ?_) (fun a hI => ?_)
          · have hd := drop_at hy
            rw [hd, List.map_cons] at hI
            refine co_region ?_
            iterate 3 first | refine op_mem rfl rfl ?_ | refine op_nil ?_
            refine q_asg ?_
            iterate 3 first | refine co_block ?_ | refine co_seq ?_ | refine co_region ?_
            iterate 2 refine op_mem rfl rfl ?_
            refine op_step rfl (step_yield rfl rfl rfl (hI) (fun b R1 hb => ?_))
            refine op_pure rfl rfl ?_
            refine op_nil ?_
            refine q_seq ?_
            refine co_dec rfl (by first | exact ltI_iff | exact eqI_iff | exact nlt_iff | exact neq_iff | exact dec_iff | exact bool_iff) (fun h3 => ?_) (fun h3 => ?_)
            · cases b with
              | true => cases h3
              | false =>
                refine co_ret ?_
                refine q_blkn (by intro i h; cases h) ?_
                refine q_leavek (by intro h; cases h) ?_
                iterate 2 refine q_blkn (by intro i h; cases h) ?_
                refine q_seqx (by intro h; cases h) ?_
                refine q_outk (by intro h; cases h) ?_
                refine q_blkn (by intro i h; cases h) ?_
                exact fin_it (.inr rfl) rfl hb
            · cases b with
              | false => exact absurd rfl h3
              | true =>
                refine co_skip ?_
                refine q_blkn (by intro i h; cases h) ?_
                exact q_roundk (R1) (hb) (by omega) (by repeat (first | exact keeps_refl | refine keeps_cons (by omega) ?_ | refine keeps_hset (by omega) ?_ | refine keeps_hdel (by omega) ?_)) rfl
          · rw [List.drop_length] at hI
            iterate 2 refine q_blkn (by intro i h; cases h) ?_
            refine q_seq ?_
            refine co_region ?_
            refine op_nat (2) rfl rfl (by first | rfl | omega) ⟨by omega, by omega⟩ ?_
            refine op_pure rfl rfl ?_
            refine op_nil ?_
            exact q_againK ((2, a)) (⟨by simp, hI⟩) (by simp) ⟨rfl, trivial⟩ ⟨rfl, rfl, rfl, trivial⟩ (by repeat (first | exact trivial | refine ⟨by first | rfl | exact ref_pur (by first | rfl | (simp; done)), ?_⟩)) (by omega) (by repeat (first | exact keeps_refl | refine keeps_cons (by omega) ?_ | refine keeps_hset (by omega) ?_ | refine keeps_hdel (by omega) ?_)) rfl
      · refine co_exit ?_
        refine q_seqx (by intro h; cases h) ?_
        refine q_outk (by intro h; cases h) ?_
        refine q_blk ?_
        obtain rfl : i = 2 := by omega
        exact fin_it (.inl rfl) rfl hy
end Go.Proofs.Ytgeelfdgnehdnaa
namespace Go.Proofs.Ytgeelfdgnehdnaa
open Go.RowKit
set_option linter.unusedSimpArgs false
set_option linter.unusedVariables false
attribute [local irreducible] CoW OpW FlW Step Spec
variable {G : Nat → Option W}
noncomputable def psW (ps : List Pr) : W := .fz (ps.map pW) 33 false
@[simp] theorem psW_p (ps : List Pr) : purW (psW ps) = true := psW_pur ps
noncomputable def gat (ps : List Pr) : HpW := match ps with
  | [] => [(0, 45, .nils)]
  | _ => [(0, 45, .sl 1 0 0 ps.length 33 none), (1, 88, .arr (ps.length * 33) 33 (ps.map pW))]
theorem gat_snoc (a : List Pr) (y : Pr) : gat (a ++ [y]) = [(0, 45, .sl 1 0 0 (a.length + 1) 33 none), (1, 88, .arr ((a.length + 1) * 33) 33 (a.map pW ++ [pW y]))] := by
  cases a with
  | nil => rfl
  | cons x a => simp [gat]
theorem pur1 {a : List Pr} {y : Pr} {n : Nat} (e : Nat) : purW (.arr n e (a.map pW ++ [pW y])) = true := by simp
theorem aseq_s (f : FuncId) (cs : List W) (ls : List Pr) (hc : purL cs = true) (it : IterSpec cfg G f cs (ls.map enc1)) (hb : ls.length ≤ 1000000000) : PS cfg G 88 [.nils, .fn f [] cs] (psW ls) := by
  refine ps_inV (fn := Try.f88) rfl rfl rfl (Nat.le_of_ble_eq_true rfl) (fun R k0 => ?_)
  refine co_seq ?_
  refine co_region ?_
  refine op_mem rfl rfl ?_
  refine op_pure rfl rfl ?_
  refine op_nil ?_
  refine q_seq ?_
  iterate 2 refine co_seq ?_
  refine co_region ?_
  refine op_pure rfl rfl ?_
  refine op_nil ?_
  refine q_seq ?_
  refine co_block ?_
  refine co_rangeN (α := List Pr) (enc1) (ls) (fun i a => a = ls.take i) (fun a => gat a) (fun a => (match a with | [] => 1 | _ => 2)) (fun a => R) ([]) rfl (by first | rfl | assumption | (simp; done)) (it) (fun y _ => ⟨by simp [enc1], rfl⟩) (rfl) rfl rfl rfl (fun i a y hy hI => ?_) (fun a hI => ?_)
  · have hi := (List.getElem?_eq_some_iff.1 hy).1
    have hn : ls.take (i + 1) = a ++ [y] := by rw [List.take_add_one, hy, hI]; rfl
    cases a with
    | nil =>
      skip
      refine co_region ?_
      iterate 2 refine op_mem rfl rfl ?_
      refine op_nil ?_
      refine q_asg ?_
      refine co_block ?_
      refine co_region ?_
      iterate 3 refine op_mem rfl rfl ?_
      refine op_mem rfl (ap_op rfl rfl (app_nil (news := [pW y]) (k := ti88) rfl rfl rfl rfl (src_sl rfl rfl rfl rfl) (by simp) (by show 1 * ti88.bytes ≤ _; decide) (by show 1 ≤ _; decide))) ?_
      refine op_mem rfl rfl ?_
      refine op_nil ?_
      refine q_blkn (by intro i h; cases h) ?_
      refine q_round (ls.take (i + 1)) rfl ?_
      rw [hn, gat_snoc]
      refine ent_last (b := 1) (k := 3) (by omega) (by omega) (by show 3 < 4; omega) trivial ⟨⟨by omega, rfl, rfl⟩, ⟨by omega, ?_, ref_pur (pur1 _)⟩, trivial⟩ (by simp)
      rw [ren_pur (pur1 _)]
      rfl
    | cons x a =>
      have hl : (x :: a).length ≤ 1000000000 := by rw [hI, List.length_take]; omega
      have el : ((x :: a).map pW).length = (x :: a).length := List.length_map _
      refine co_region ?_
      iterate 2 refine op_mem rfl rfl ?_
      refine op_nil ?_
      refine q_asg ?_
      refine co_block ?_
      refine co_region ?_
      iterate 3 refine op_mem rfl rfl ?_
      refine op_mem rfl (ap_op rfl rfl (app_sl (len := (x :: a).length) (news := [pW y]) (olds := (x :: a).map pW) (k := ti88) rfl rfl rfl rfl (src_sl rfl rfl rfl rfl) (by simp) (by show ((x :: a).length + 1) * 56 ≤ _; omega) (by show (x :: a).length + 1 ≤ _; omega) rfl (by show (x :: a).length * 33 < 0 + ((x :: a).length + 1) * 33; omega) rfl (sub_wholeE (by decide) el.symm rfl))) ?_
      refine op_mem rfl rfl ?_
      refine op_nil ?_
      refine q_blkn (by intro i h; cases h) ?_
      refine q_round (ls.take (i + 1)) rfl ?_
      rw [hn, gat_snoc]
      refine ent_last (b := 1) (k := 4) (by omega) (by omega) (by show 4 < 5; omega) trivial ⟨⟨by omega, rfl, rfl⟩, ⟨by omega, ?_, ref_pur (pur1 _)⟩, trivial⟩ (by simp)
      rw [ren_pur (pur1 _)]
      rfl
  · obtain rfl : a = ls := by rw [hI, List.take_length]
    cases a with
    | nil =>
      skip
      refine q_blkn (by intro i h; cases h) ?_
      refine q_seq ?_
      refine co_seq ?_
      refine co_region ?_
      refine op_mem rfl rfl ?_
      refine op_pure rfl rfl ?_
      refine op_nil ?_
      refine q_seq ?_
      refine co_ret ?_
      refine fin_v (by first | exact .inr rfl | exact .inl rfl) rfl ?_
      (repeat (first | exact .nil | refine .cons ?_ ?_ | exact view_zero | exact .nilfz | refine .fn ?_ ?_ | (refine view_box rfl ?_ rfl; (first | rfl | (focus (simp; done)))) | (refine .sl rfl ?_ rfl (by intro h; cases h); (first | rfl | (focus (simp; done)))) | (refine .pur ?_; (first | rfl | (focus (simp; done)))) | (refine .fzw ?_; (first | rfl | (focus (simp; done)))) | refine .agg ?_ | refine .arr ?_ | refine .tup ?_))
    | cons x a =>
      refine q_blkn (by intro i h; cases h) ?_
      refine q_seq ?_
      refine co_seq ?_
      refine co_region ?_
      refine op_mem rfl rfl ?_
      refine op_pure rfl rfl ?_
      refine op_nil ?_
      refine q_seq ?_
      refine co_ret ?_
      refine fin_v (by first | exact .inr rfl | exact .inl rfl) rfl ?_
      exact .sl rfl (by show purL ((x :: a).map pW) = true; exact psW_pur _) (sub_wholeE (by decide) (List.length_map _).symm rfl) (by intro h; cases h)
theorem collect_s (f : FuncId) (cs : List W) (ls : List Pr) (hc : purL cs = true) (it : IterSpec cfg G f cs (ls.map enc1)) (hb : ls.length ≤ 1000000000) : PS cfg G 76 [.fn f [] cs] (psW ls) := by
  refine ps_in (fn := Try.f76) rfl rfl rfl (Nat.le_of_ble_eq_true rfl) (fun R k0 => ?_)
  refine co_seq ?_
  refine co_region ?_
  refine op_pure rfl rfl ?_
  refine op_nil ?_
  refine q_seq ?_
  refine co_seq ?_
  refine co_region ?_
  refine op_pure rfl rfl ?_
  refine op_ps rfl rfl rfl rfl rfl rfl (aseq_s f cs ls hc it hb) (by simp [hc]) (by simp) ?_
  refine op_pure rfl rfl ?_
  refine op_nil ?_
  refine q_seq ?_
  refine co_ret ?_
  exact fin_eq (.inr rfl) rfl rfl
theorem nodup_le {α : Type} [DecidableEq α] : ∀ (l m : List α), l.Nodup → (∀ x ∈ l, x ∈ m) → l.length ≤ m.length
  | [], m, _, _ => Nat.zero_le _
  | x :: l, m, hn, hs => by
    obtain ⟨h1, h2⟩ := List.nodup_cons.1 hn
    have hx := hs x (by simp)
    have ih := nodup_le l (m.erase x) h2 fun y hy => (List.mem_erase_of_ne (fun e : y = x => h1 (by rw [← e]; exact hy))).2 (hs y (by simp [hy]))
    rw [List.length_erase_of_mem hx] at ih
    have : 0 < m.length := List.length_pos_of_mem hx
    simp only [List.length_cons]
    omega
theorem rep_mem {ns : List Node} {n : Nat} {t : T} (h : Rep ns n t) : ∀ p ∈ t.all, ∃ (i : Nat) (l r : Int), ns[i]? = some (Node.mk true p.1 p.2 l r) := by
  induction h with
  | nil => intro p hp; simp [T.all] at hp
  | leaf h => intro p hp; simp only [T.all, List.mem_singleton] at hp; subst hp; exact ⟨_, _, _, h⟩
  | fork h hl hr _ _ i1 i2 =>
    intro p hp
    rcases List.mem_append.1 hp with hp | hp
    · exact i1 p hp
    · exact i2 p hp
theorem srt_nodup {l : List Pr} (h : Srt l) : (l.map (·.1)).Nodup := by
  rw [List.nodup_iff_pairwise_ne, List.pairwise_map]
  exact h.imp fun h => ahead_ne h
theorem IsT.srt {t : Tree} {n : Nat} {t0 : T} (h : IsT t n t0) : Srt t0.all := ok_srt zr_zero h.ok
theorem IsT.all_le {t : Tree} {n : Nat} {t0 : T} (h : IsT t n t0) : t0.all.length ≤ t.nodes.length := by
  have := nodup_le (t0.all.map (·.1)) (t.nodes.map (·.key)) (srt_nodup h.srt) fun k hk => by
    obtain ⟨p, hp, rfl⟩ := List.mem_map.1 hk
    obtain ⟨i, l, r, hx⟩ := rep_mem h.rep p hp
    exact List.mem_map.2 ⟨_, List.mem_of_getElem? hx, rfl⟩
  simpa using this
theorem IsT.val {t : Tree} {n : Nat} {t0 : T} (h : IsT t n t0) : ∀ p ∈ t0.all, 0 < p.2.length ∧ p.2.length ≤ 64 := fun p hp => by
  obtain ⟨i, l, r, hx⟩ := rep_mem h.rep p hp
  exact okN_val h.okn hx
theorem tpairs_s (t : Tree) (n : Nat) (t0 : T) (h : IsT t n t0) : PS cfg G 59 [tW t] (.tup [psW t0.all, .int .i64 0]) := by
  have hl := h.len
  have hy := h.may
  have ha := h.all_le
  have hr := h.root
  obtain ⟨ns, root⟩ := t
  simp only at hl hr ha
  subst hr
  refine ps_in (fn := Try.f59) rfl rfl rfl (Nat.le_of_ble_eq_true rfl) (fun R k0 => ?_)
  refine co_seq ?_
  refine co_region ?_
  iterate 3 first | refine op_mem rfl rfl ?_ | refine op_pure rfl rfl ?_
  refine op_nil ?_
  refine q_seq ?_
  iterate 2 refine co_seq ?_
  refine co_region ?_
  refine op_mem rfl rfl ?_
  first | refine op_ps rfl rfl rfl rfl rfl rfl (ps_eq (w' := .int .i64 0) (tcheck_s ⟨ns, (n : Int)⟩ (by show ns.length ≤ _; omega)) (by rw [if_pos hy])) (by first | rfl | assumption | (simp; done)) (by first | rfl | assumption | (simp; done)) ?_ | refine op_ps rfl rfl rfl rfl rfl rfl (tcheck_s _ (by omega)) (by first | rfl | assumption | (simp; done)) (by first | rfl | assumption | (simp; done)) ?_
  refine op_pure rfl rfl ?_
  refine op_nil ?_
  refine q_seq ?_
  refine co_seq ?_
  refine co_region ?_
  refine op_pure rfl rfl ?_
  refine op_cmp rfl rfl (by first | exact ltI_iff | exact eqI_iff | exact nlt_iff | exact neq_iff | exact dec_iff | exact bool_iff) ?_
  refine op_nil ?_
  refine q_seq ?_
  refine co_false rfl ?_
  refine co_skip ?_
  refine q_seq ?_
  refine co_seq ?_
  refine co_region ?_
  iterate 3 first | refine op_mem rfl rfl ?_ | refine op_pure rfl rfl ?_
  refine op_ps rfl rfl rfl rfl rfl rfl (teach_s ⟨ns, (n : Int)⟩ (n : Int)) (by simp) (by simp) ?_
  refine op_ps rfl rfl rfl rfl rfl rfl (collect_s _ _ t0.all (by simp) (teach_it ⟨ns, (n : Int)⟩ (fun i k v l r hx => by have := (okN_val h.okn hx).2; omega) (by show ns.length ≤ _; omega) t0 n h.rep) (by omega)) (by simp) (by simp) ?_
  iterate 2 refine op_pure rfl rfl ?_
  refine op_nil ?_
  refine q_seq ?_
  refine co_ret ?_
  exact fin_eq (.inr rfl) rfl rfl
theorem tpairs_no (t : Tree) (hb : t.nodes.length ≤ 4611686018427387903) (h : ¬ MayT t) : PS cfg G 59 [tW t] (.tup [.nils, .int .i64 8]) := by
  refine ps_in (fn := Try.f59) rfl rfl rfl (Nat.le_of_ble_eq_true rfl) (fun R k0 => ?_)
  refine co_seq ?_
  refine co_region ?_
  iterate 3 first | refine op_mem rfl rfl ?_ | refine op_pure rfl rfl ?_
  refine op_nil ?_
  refine q_seq ?_
  iterate 2 refine co_seq ?_
  refine co_region ?_
  refine op_mem rfl rfl ?_
  refine op_ps rfl rfl rfl rfl rfl rfl (ps_eq (w' := .int .i64 8) (tcheck_s t hb) (by rw [if_neg h])) (by first | rfl | assumption | (simp; done)) (by first | rfl | assumption | (simp; done)) ?_
  refine op_pure rfl rfl ?_
  refine op_nil ?_
  refine q_seq ?_
  refine co_seq ?_
  refine co_region ?_
  refine op_pure rfl rfl ?_
  refine op_cmp rfl rfl (by first | exact ltI_iff | exact eqI_iff | exact nlt_iff | exact neq_iff | exact dec_iff | exact bool_iff) ?_
  refine op_nil ?_
  refine q_seq ?_
  refine co_true rfl ?_
  refine co_seq ?_
  refine co_region ?_
  iterate 3 refine op_pure rfl rfl ?_
  refine op_nil ?_
  refine q_seq ?_
  refine co_ret ?_
  refine q_seqx (by intro h; cases h) ?_
  exact fin_eq (.inr rfl) rfl rfl
end Go.Proofs.Ytgeelfdgnehdnaa
namespace Go.Proofs.Ytgeelfdgnehdnaa
open Go.RowKit
set_option linter.unusedSimpArgs false
set_option linter.unusedVariables false
attribute [local irreducible] CoW OpW FlW Step Spec
variable {G : Nat → Option W}
theorem aeach_s (t : Tree) : PS cfg G 32 [tW t] (.fn 58 [] [.fel (tW t)]) := by
  refine ps_in (fn := Try.f32) rfl rfl rfl (Nat.le_of_ble_eq_true rfl) (fun R k0 => ?_)
  refine co_seq ?_
  refine co_region ?_
  refine op_mem rfl rfl ?_
  refine op_pure rfl rfl ?_
  refine op_nil ?_
  refine q_seq ?_
  refine co_seq ?_
  refine co_region ?_
  iterate 2 refine op_pure rfl rfl ?_
  refine op_nil ?_
  refine q_seq ?_
  refine co_ret ?_
  refine fin_frz (fr2 := [(2, _)]) (by first | exact .inr rfl | exact .inl rfl) ?_ rfl rfl
  (repeat (first | exact trivial | refine And.symm ⟨?_, _, rfl, ?_⟩)) <;> (repeat (first | exact .nil | refine .cons ?_ ?_ | refine .fn ?_ ?_ | (refine view_box rfl ?_ rfl; (first | rfl | (focus (simp; done)))) | (refine .sl rfl ?_ rfl (by intro h; cases h); (first | rfl | (focus (simp; done)))) | (refine .pur ?_; (first | rfl | (focus (simp; done)))) | refine .agg ?_ | refine .arr ?_ | refine .tup ?_))
noncomputable def encA (p : Pr) : List W := [aW (readA p.2).1, .bool (decide ((((readA p.2).2 : Nat) : Int) = 0))]
noncomputable def encZ (_ : Unit) : List W := [aW .zero, .bool false]
theorem aeach_no (t : Tree) (hb : t.nodes.length ≤ 4611686018427387903) (h : ¬ MayT t) : IterSpec cfg G 58 [.fel (tW t)] ([()].map encZ) := by
  refine iter_in (fn := Try.f58) rfl rfl rfl (Nat.le_of_ble_eq_true rfl) (fun L E R hy k0 => ?_)
  refine co_seq ?_
  refine co_region ?_
  refine op_mem rfl rfl ?_
  refine op_ps rfl rfl rfl rfl rfl rfl (tpairs_no t hb h) (by first | rfl | assumption | (simp; done)) (by first | rfl | assumption | (simp; done)) ?_
  iterate 5 refine op_pure rfl rfl ?_
  refine op_nil ?_
  refine q_seq ?_
  iterate 2 refine co_seq ?_
  refine co_region ?_
  refine op_pure rfl rfl ?_
  refine op_cmp rfl rfl (by first | exact ltI_iff | exact eqI_iff | exact nlt_iff | exact neq_iff | exact dec_iff | exact bool_iff) ?_
  refine op_nil ?_
  refine q_seq ?_
  refine co_true rfl ?_
  refine co_seq ?_
  refine co_region ?_
  iterate 2 refine op_pure rfl rfl ?_
  refine op_step rfl (step_yield rfl rfl rfl (hy) (fun b R1 hb => ?_))
  refine op_nil ?_
  refine q_seq ?_
  refine co_ret ?_
  refine q_seqx (by intro h; cases h) ?_
  exact fin_it (.inr rfl) rfl (yl_same (l := []) hb)
theorem aeach_it (t : Tree) (n : Nat) (t0 : T) (h : IsT t n t0) : IterSpec cfg G 58 [.fel (tW t)] (t0.all.map encA) := by
  have e : (t0.all.map pW).length = t0.all.length := List.length_map _
  have hl := h.len
  have ha := h.all_le
  refine iter_in (fn := Try.f58) rfl rfl rfl (Nat.le_of_ble_eq_true rfl) (fun L E R hy k0 => ?_)
  refine co_seq ?_
  refine co_region ?_
  refine op_mem rfl rfl ?_
  refine op_ps rfl rfl rfl rfl rfl rfl (tpairs_s t n t0 h) (by first | rfl | assumption | (simp; done)) (by first | rfl | assumption | (simp; done)) ?_
  iterate 5 refine op_pure rfl rfl ?_
  refine op_nil ?_
  refine q_seq ?_
  iterate 2 refine co_seq ?_
  refine co_region ?_
  refine op_pure rfl rfl ?_
  refine op_cmp rfl rfl (by first | exact ltI_iff | exact eqI_iff | exact nlt_iff | exact neq_iff | exact dec_iff | exact bool_iff) ?_
  refine op_nil ?_
  refine q_seq ?_
  refine co_false rfl ?_
  refine co_skip ?_
  refine q_seq ?_
  refine co_seq ?_
  refine co_region ?_
  refine op_pure rfl rfl ?_
  refine op_val (w' := .int .i64 (t0.all.length : Int)) rfl rfl (by rw [← e]; rfl) ?_
  refine op_pure rfl rfl ?_
  refine op_nil ?_
  refine q_seq ?_
  refine co_block ?_
  refine co_loopQ (α := Nat × Res) (fun p => p.1 ≤ t0.all.length ∧ Yl cfg G L E ((t0.all.drop p.1).map encA) p.2) (fun p => [(21, .int .i64 (p.1 : Int))]) [(0, _), (19, _), (20, _)] (fun p => p.2) (fun p => t0.all.length - p.1) ((0, R)) ⟨rfl, rfl, rfl, trivial⟩ (⟨by simp, hy⟩) ⟨rfl, trivial⟩ rfl (fun p hI => ?_)
  obtain ⟨i, R⟩ := p
  obtain ⟨hi, hy⟩ := hI
  simp only at hi hy ⊢
  refine co_seq ?_
  refine co_region ?_
  refine op_cmp rfl rfl (by first | exact ltI_iff | exact eqI_iff | exact nlt_iff | exact neq_iff | exact dec_iff | exact bool_iff) ?_
  refine op_nil ?_
  refine q_seq ?_
  refine co_seq ?_
  refine co_dec rfl (by first | exact ltI_iff | exact eqI_iff | exact nlt_iff | exact neq_iff | exact dec_iff | exact bool_iff) (fun h1 => ?_) (fun h1 => ?_)
  · have hi' : i < t0.all.length := by omega
    obtain ⟨x, hx⟩ : ∃ x, t0.all[i]? = some x := ⟨_, List.getElem?_eq_getElem hi'⟩
    have hv := h.val x (List.mem_of_getElem? hx)
    rw [drop_at hx, List.map_cons] at hy
    refine co_skip ?_
    refine q_seq ?_
    iterate 4 first | refine co_seq ?_ | refine co_block ?_ | refine co_region ?_
    refine op_pure rfl (ix_fz (i := i) rfl rfl rfl rfl rfl rfl rfl (map_at pW hx)) ?_
    iterate 3 refine op_mem rfl rfl ?_
    refine op_nil ?_
    refine q_seq ?_
    refine co_seq ?_
    refine co_region ?_
    refine op_pure rfl rfl ?_
    refine op_mem rfl rfl ?_
    refine op_ps rfl rfl rfl rfl rfl rfl (aread_s x.2 false (by omega)) (by simp) (by simp) ?_
    iterate 7 first | refine op_pure rfl rfl ?_ | refine op_mem rfl rfl ?_ | refine op_nil ?_
    refine q_seq ?_
    refine co_seq ?_
    refine co_region ?_
    iterate 3 first | refine op_pure rfl rfl ?_ | refine op_mem rfl rfl ?_
    refine op_cmp rfl rfl (by first | exact ltI_iff | exact eqI_iff | exact nlt_iff | exact neq_iff | exact dec_iff | exact bool_iff) ?_
    refine op_step rfl (step_yield rfl rfl rfl (hy) (fun b R1 hb => ?_))
    refine op_pure rfl rfl ?_
    refine op_nil ?_
    refine q_seq ?_
    refine co_dec rfl (by first | exact ltI_iff | exact eqI_iff | exact nlt_iff | exact neq_iff | exact dec_iff | exact bool_iff) (fun h2 => ?_) (fun h2 => ?_)
    · cases b with
      | true => cases h2
      | false =>
        refine co_ret ?_
        refine q_blkn (by intro i h; cases h) ?_
        refine q_seqx (by intro h; cases h) ?_
        refine q_outk (by intro h; cases h) ?_
        refine q_blkn (by intro i h; cases h) ?_
        exact fin_it (.inr rfl) rfl hb
    · cases b with
      | false => exact absurd rfl h2
      | true =>
        refine co_skip ?_
        refine q_blkn (by intro i h; cases h) ?_
        refine q_seq ?_
        refine co_region ?_
        refine op_nat (i + 1) rfl rfl (by first | rfl | omega) ⟨by omega, by omega⟩ ?_
        refine op_pure rfl rfl ?_
        refine op_nil ?_
        exact q_againK ((i + 1, R1)) (⟨hi', hb⟩) (by simp only; omega) ⟨rfl, trivial⟩ ⟨rfl, rfl, rfl, trivial⟩ (by repeat (first | exact trivial | refine ⟨by first | rfl | exact ref_pur (by first | rfl | (simp; done)), ?_⟩)) (by omega) (by repeat (first | exact keeps_refl | refine keeps_cons (by omega) ?_ | refine keeps_hset (by omega) ?_ | refine keeps_hdel (by omega) ?_)) rfl
  · refine co_exit ?_
    refine q_seqx (by intro h; cases h) ?_
    refine q_outk (by intro h; cases h) ?_
    refine q_blk ?_
    obtain rfl : i = t0.all.length := by omega
    rw [List.drop_length] at hy
    exact fin_it (.inl rfl) rfl hy
theorem encA_ok {l : List Pr} : ∀ y ∈ l, purL (encA y) = true ∧ (encA y).length = 2 := fun y _ => ⟨rfl, rfl⟩
structure IsA (t : Tree) (n : Nat) (t0 : T) : Prop extends IsT t n t0 where
  held : ∀ p ∈ t0.all, (readA p.2).2 = 0
def MayA (t : Tree) : Prop := ∃ n t0, IsA t n t0
noncomputable instance (t : Tree) : Decidable (MayA t) := Classical.propDecidable _
theorem acheck_s (t : Tree) (hb : t.nodes.length ≤ 4611686018427387903) : PS cfg G 10 [tW t] (.int .i64 (if MayA t then 0 else 8)) := by
  by_cases h : MayT t
  · obtain ⟨n, t0, h⟩ := may_is h
    refine ps_in (fn := Try.f10) rfl rfl rfl (Nat.le_of_ble_eq_true rfl) (fun R k0 => ?_)
    refine co_seq ?_
    refine co_region ?_
    iterate 2 refine op_mem rfl rfl ?_
    refine op_nil ?_
    refine q_seq ?_
    iterate 2 refine co_seq ?_
    refine co_region ?_
    refine op_mem rfl rfl ?_
    refine op_ps rfl rfl rfl rfl rfl rfl (aeach_s _) (by first | rfl | assumption | (simp; done)) (by first | rfl | assumption | (simp; done)) ?_
    refine op_nil ?_
    refine q_seq ?_
    refine co_block ?_
    refine co_rangeQ (encA) (t0.all) (fun i (_ : Unit) => ∀ j p, j < i → t0.all[j]? = some p → (readA p.2).2 = 0) (fun _ => R) (()) rfl (by first | rfl | assumption | (simp; done)) (aeach_it t n t0 h) (encA_ok) (fun j p hj => by omega) rfl (fun i a y hy hI => ?_) (fun a hI => ?_)
    · refine co_region ?_
      refine op_pure rfl rfl ?_
      refine op_nil ?_
      refine q_asg ?_
      refine co_block ?_
      refine co_seq ?_
      refine co_region ?_
      iterate 2 refine op_pure rfl rfl ?_
      refine op_nil ?_
      refine q_seq ?_
      refine co_dec rfl (by first | exact ltI_iff | exact eqI_iff | exact nlt_iff | exact neq_iff | exact dec_iff | exact bool_iff) (fun h1 => ?_) (fun h1 => ?_)
      · have hno : ¬ MayA t := by
          rintro ⟨n', t1, ha⟩
          obtain rfl : n' = n := by have := ha.root; have := h.root; omega
          obtain rfl := ha.rep.uniq h.rep
          have := ha.held y (List.mem_of_getElem? hy)
          rw [this] at h1
          simp at h1
        refine co_seq ?_
        refine co_region ?_
        refine op_mem rfl rfl ?_
        refine op_nil ?_
        refine q_seq ?_
        refine co_ret ?_
        refine q_blkn (by intro i h; cases h) ?_
        refine q_leavek (by intro h; cases h) ?_
        refine q_blkn (by intro i h; cases h) ?_
        refine q_seqx (by intro h; cases h) ?_
        exact fin_eq (.inr rfl) rfl (by rw [if_neg hno])
      · have hok : (readA y.2).2 = 0 := by simp at h1; omega
        refine co_skip ?_
        refine q_blkn (by intro i h; cases h) ?_
        exact q_roundk (()) (fun j p hj hp => by rcases Nat.lt_succ_iff_lt_or_eq.1 hj with q | rfl; exact hI j p q hp; exact (Option.some.inj (hy.symm.trans hp)) ▸ hok) (by omega) (by repeat (first | exact keeps_refl | refine keeps_cons (by omega) ?_ | refine keeps_hset (by omega) ?_ | refine keeps_hdel (by omega) ?_)) rfl
    · have yes : MayA t := ⟨n, t0, h, fun p hp => by
        obtain ⟨j, hj, hjp⟩ := List.getElem_of_mem hp
        exact hI j p hj (by rw [List.getElem?_eq_getElem hj, hjp])⟩
      refine q_blkn (by intro i h; cases h) ?_
      refine q_seq ?_
      refine co_seq ?_
      refine co_region ?_
      refine op_mem rfl rfl ?_
      refine op_nil ?_
      refine q_seq ?_
      refine co_ret ?_
      exact fin_eq (.inr rfl) rfl (by rw [if_pos yes])
  · have hno : ¬ MayA t := fun ⟨n, t0, ha⟩ => h ha.toIsT.may
    refine ps_in (fn := Try.f10) rfl rfl rfl (Nat.le_of_ble_eq_true rfl) (fun R k0 => ?_)
    refine co_seq ?_
    refine co_region ?_
    iterate 2 refine op_mem rfl rfl ?_
    refine op_nil ?_
    refine q_seq ?_
    iterate 2 refine co_seq ?_
    refine co_region ?_
    refine op_mem rfl rfl ?_
    refine op_ps rfl rfl rfl rfl rfl rfl (aeach_s _) (by first | rfl | assumption | (simp; done)) (by first | rfl | assumption | (simp; done)) ?_
    refine op_nil ?_
    refine q_seq ?_
    refine co_block ?_
    refine co_rangeK (encZ) ([()]) (fun i => i = 0) rfl (by first | rfl | assumption | (simp; done)) (aeach_no t hb h) (fun y _ => ⟨rfl, rfl⟩) (rfl) (fun i y hy hI => ?_) (fun hI => ?_)
    · refine co_region ?_
      refine op_pure rfl rfl ?_
      refine op_nil ?_
      refine q_asg ?_
      refine co_block ?_
      refine co_seq ?_
      refine co_region ?_
      iterate 2 refine op_pure rfl rfl ?_
      refine op_nil ?_
      refine q_seq ?_
      refine co_true rfl ?_
      refine co_seq ?_
      refine co_region ?_
      refine op_mem rfl rfl ?_
      refine op_nil ?_
      refine q_seq ?_
      refine co_ret ?_
      refine q_blkn (by intro i h; cases h) ?_
      refine q_leave (by intro h; cases h) ?_
      refine q_blkn (by intro i h; cases h) ?_
      refine q_seqx (by intro h; cases h) ?_
      exact fin_eq (.inr rfl) rfl (by rw [if_neg hno])
    · exfalso; simp at hI
def acctOf (t0 : T) (k : Dig) : Acct := match t0.find k 0 with
  | none => .zero
  | some v => (readA v).1
theorem IsA.acct {t : Tree} {n : Nat} {t0 : T} (h : IsA t n t0) {k : Dig} {v : List UInt8} (hv : t0.find k 0 = some v) : (k, v) ∈ t0.all ∧ (readA v).2 = 0 := by
  rw [find_spec k zr_zero h.ok] at hv
  have := (findL_some h.srt).1 hv
  exact ⟨this, h.held _ this⟩
theorem aget_s (t : Tree) (n : Nat) (t0 : T) (h : IsA t n t0) (k : Dig) : PS cfg G 11 [tW t, dW k] (.tup [aW (acctOf t0 k), .int .i64 0]) := by
  have yes : MayA t := ⟨n, t0, h⟩
  have hl := h.len
  cases hf : t0.find k 0 with
  | none =>
    have e : acctOf t0 k = .zero := by unfold acctOf; rw [hf]
    rw [e]
    refine ps_in (fn := Try.f11) rfl rfl rfl (Nat.le_of_ble_eq_true rfl) (fun R k0 => ?_)
    refine co_seq ?_
    refine co_region ?_
    iterate 3 refine op_mem rfl rfl ?_
    refine op_pure rfl rfl ?_
    refine op_nil ?_
    refine q_seq ?_
    iterate 2 refine co_seq ?_
    refine co_region ?_
    refine op_mem rfl rfl ?_
    first | refine op_ps rfl rfl rfl rfl rfl rfl (ps_eq (w' := .int .i64 0) (acheck_s t (by omega)) (by rw [if_pos yes])) (by first | rfl | assumption | (simp; done)) (by first | rfl | assumption | (simp; done)) ?_ | refine op_ps rfl rfl rfl rfl rfl rfl (acheck_s _ (by omega)) (by first | rfl | assumption | (simp; done)) (by first | rfl | assumption | (simp; done)) ?_
    refine op_pure rfl rfl ?_
    refine op_nil ?_
    refine q_seq ?_
    refine co_seq ?_
    refine co_region ?_
    refine op_pure rfl rfl ?_
    refine op_cmp rfl rfl (by first | exact ltI_iff | exact eqI_iff | exact nlt_iff | exact neq_iff | exact dec_iff | exact bool_iff) ?_
    refine op_nil ?_
    refine q_seq ?_
    refine co_false rfl ?_
    refine co_skip ?_
    refine q_seq ?_
    refine co_seq ?_
    refine co_region ?_
    iterate 2 refine op_mem rfl rfl ?_
    refine op_ps rfl rfl rfl rfl rfl rfl (ps_eq (w' := .tup [.nils, .bool false]) (tget_s t n t0 k h.toIsT) (by rw [hf]; rfl)) (by first | rfl | assumption | (simp; done)) (by first | rfl | assumption | (simp; done)) ?_
    iterate 5 refine op_pure rfl rfl ?_
    refine op_nil ?_
    refine q_seq ?_
    iterate 2 refine co_seq ?_
    refine co_region ?_
    iterate 2 refine op_pure rfl rfl ?_
    refine op_nil ?_
    refine q_seq ?_
    refine co_true rfl ?_
    refine co_seq ?_
    refine co_region ?_
    iterate 4 first | refine op_pure rfl rfl ?_ | refine op_mem rfl rfl ?_ | refine op_nil ?_
    refine q_seq ?_
    refine co_ret ?_
    refine q_seqx (by intro h; cases h) ?_
    exact fin_eq (.inr rfl) rfl rfl
  | some v =>
    obtain ⟨h1, h2⟩ := h.acct hf
    have hv := h.val _ h1
    have e : acctOf t0 k = (readA v).1 := by unfold acctOf; rw [hf]
    rw [e]
    refine ps_in (fn := Try.f11) rfl rfl rfl (Nat.le_of_ble_eq_true rfl) (fun R k0 => ?_)
    refine co_seq ?_
    refine co_region ?_
    iterate 3 refine op_mem rfl rfl ?_
    refine op_pure rfl rfl ?_
    refine op_nil ?_
    refine q_seq ?_
    iterate 2 refine co_seq ?_
    refine co_region ?_
    refine op_mem rfl rfl ?_
    first | refine op_ps rfl rfl rfl rfl rfl rfl (ps_eq (w' := .int .i64 0) (acheck_s t (by omega)) (by rw [if_pos yes])) (by first | rfl | assumption | (simp; done)) (by first | rfl | assumption | (simp; done)) ?_ | refine op_ps rfl rfl rfl rfl rfl rfl (acheck_s _ (by omega)) (by first | rfl | assumption | (simp; done)) (by first | rfl | assumption | (simp; done)) ?_
    refine op_pure rfl rfl ?_
    refine op_nil ?_
    refine q_seq ?_
    refine co_seq ?_
    refine co_region ?_
    refine op_pure rfl rfl ?_
    refine op_cmp rfl rfl (by first | exact ltI_iff | exact eqI_iff | exact nlt_iff | exact neq_iff | exact dec_iff | exact bool_iff) ?_
    refine op_nil ?_
    refine q_seq ?_
    refine co_false rfl ?_
    refine co_skip ?_
    refine q_seq ?_
    refine co_seq ?_
    refine co_region ?_
    iterate 2 refine op_mem rfl rfl ?_
    refine op_ps rfl rfl rfl rfl rfl rfl (ps_eq (w' := .tup [bW v, .bool true]) (tget_s t n t0 k h.toIsT) (by rw [hf]; rfl)) (by first | rfl | assumption | (simp; done)) (by first | rfl | assumption | (simp; done)) ?_
    iterate 5 refine op_pure rfl rfl ?_
    refine op_nil ?_
    refine q_seq ?_
    iterate 2 refine co_seq ?_
    refine co_region ?_
    iterate 2 refine op_pure rfl rfl ?_
    refine op_nil ?_
    refine q_seq ?_
    refine co_false rfl ?_
    refine co_skip ?_
    refine q_seq ?_
    refine co_seq ?_
    refine co_region ?_
    refine op_pure rfl rfl ?_
    refine op_ps rfl rfl rfl rfl rfl rfl (aread_s v false (by simp only at hv; omega)) (by simp) (by simp) ?_
    iterate 5 first | refine op_pure rfl rfl ?_ | refine op_mem rfl rfl ?_ | refine op_nil ?_
    refine q_seq ?_
    refine co_ret ?_
    exact fin_eq (.inr rfl) rfl (by rw [h2]; rfl)
theorem aget_no (t : Tree) (hb : t.nodes.length ≤ 4611686018427387903) (h : ¬ MayA t) (k : Dig) : PS cfg G 11 [tW t, dW k] (.tup [aW .zero, .int .i64 8]) := by
  refine ps_in (fn := Try.f11) rfl rfl rfl (Nat.le_of_ble_eq_true rfl) (fun R k0 => ?_)
  refine co_seq ?_
  refine co_region ?_
  iterate 3 refine op_mem rfl rfl ?_
  refine op_pure rfl rfl ?_
  refine op_nil ?_
  refine q_seq ?_
  iterate 2 refine co_seq ?_
  refine co_region ?_
  refine op_mem rfl rfl ?_
  refine op_ps rfl rfl rfl rfl rfl rfl (ps_eq (w' := .int .i64 8) (acheck_s t hb) (by rw [if_neg h])) (by first | rfl | assumption | (simp; done)) (by first | rfl | assumption | (simp; done)) ?_
  refine op_pure rfl rfl ?_
  refine op_nil ?_
  refine q_seq ?_
  refine co_seq ?_
  refine co_region ?_
  refine op_pure rfl rfl ?_
  refine op_cmp rfl rfl (by first | exact ltI_iff | exact eqI_iff | exact nlt_iff | exact neq_iff | exact dec_iff | exact bool_iff) ?_
  refine op_nil ?_
  refine q_seq ?_
  refine co_true rfl ?_
  refine co_seq ?_
  refine co_region ?_
  iterate 4 first | refine op_pure rfl rfl ?_ | refine op_mem rfl rfl ?_
  refine op_nil ?_
  refine q_seq ?_
  refine co_ret ?_
  refine q_seqx (by intro h; cases h) ?_
  exact fin_eq (.inr rfl) rfl rfl
end Go.Proofs.Ytgeelfdgnehdnaa
namespace Go.Proofs.Ytgeelfdgnehdnaa
open Go.RowKit
set_option linter.unusedSimpArgs false
set_option linter.unusedVariables false
attribute [local irreducible] CoW OpW FlW Step Spec
variable {G : Nat → Option W}
noncomputable def nsW (ns : List Node) : W := .arr (ns.length * 36) 36 (ns.map nW)
@[simp] theorem nsW_p (ns : List Node) : purW (nsW ns) = true := nsW_pur ns
theorem nclone_s (ns : List Node) (f : Bool) (hl : ns.length ≤ 1000000000) : PSpec cfg G 56 0 [.fz (ns.map nW) 36 f] [] fun w hp nw =>
    (ns = [] ∧ w = .nils ∧ hp = [] ∧ nw = 0) ∨ (w = .sl 0 0 0 ns.length 36 none ∧ hp = [(0, 70, nsW ns)] ∧ nw = 1) := by
  intro R
  have e : (ns.map nW).length = ns.length := List.length_map _
  refine spec_in (fn := Try.f56) rfl rfl rfl (Nat.le_of_ble_eq_true rfl) (fun k0 => ?_)
  refine co_seq ?_
  refine co_region ?_
  refine op_pure rfl rfl ?_
  refine op_nil ?_
  refine q_seq ?_
  iterate 2 refine co_seq ?_
  refine co_region ?_
  refine op_pure rfl rfl ?_
  first | refine op_pure rfl rfl ?_ | refine op_step rfl (step_nil rfl rfl rfl rfl rfl (fun bn hn => ?_))
  refine op_nil ?_
  refine q_seq ?_
  refine co_dec rfl (by first | exact ltI_iff | exact eqI_iff | exact nlt_iff | exact neq_iff | exact dec_iff | exact bool_iff) (fun h1 => ?_) (fun h1 => ?_)
  · cases bn with
    | false => cases h1
    | true =>
      have hn := hn rfl
      have hl0 : ns = [] := by cases ns with
        | nil => rfl
        | cons c l => simp at hn
      refine co_seq ?_
      refine co_region ?_
      refine op_pure rfl rfl ?_
      refine op_nil ?_
      refine q_seq ?_
      refine co_ret ?_
      refine q_seqx (by intro h; cases h) ?_
      exact fin (.inr rfl) Ent.refl rfl ⟨rfl, .inl ⟨hl0, rfl, rfl, rfl⟩⟩
  · cases ns with
    | nil =>
      skip
      refine co_skip ?_
      refine q_seq ?_
      refine co_seq ?_
      refine co_region ?_
      refine op_mem rfl rfl ?_
      refine op_pure rfl rfl ?_
      refine op_mem rfl (ap_op rfl rfl (app_sl0 rfl rfl rfl rfl rfl)) ?_
      refine op_pure rfl rfl ?_
      refine op_nil ?_
      refine q_seq ?_
      refine co_ret ?_
      exact fin (.inr rfl) Ent.refl rfl ⟨rfl, .inr ⟨rfl, rfl, rfl⟩⟩
    | cons c l =>
      refine co_skip ?_
      refine q_seq ?_
      refine co_seq ?_
      refine co_region ?_
      refine op_mem rfl rfl ?_
      refine op_pure rfl rfl ?_
      refine op_mem rfl (ap_op rfl rfl (app_sl (len := 0) (news := (c :: l).map nW) (olds := []) (k := ti70) rfl rfl rfl rfl rfl (by simp) (by show (0 + ((c :: l).map nW).length) * ti70.bytes ≤ _; rw [e]; show (0 + (c :: l).length) * 80 ≤ _; omega) (by rw [e]; omega) rfl (by show 0 < 0 + (0 + ((c :: l).map nW).length) * 36; rw [e]; simp only [List.length_cons]; omega) rfl rfl)) ?_
      refine op_pure rfl rfl ?_
      refine op_nil ?_
      refine q_seq ?_
      refine co_ret ?_
      refine fin (.inr rfl) (ent_last (b := 0) (k := 1) (fr2 := [(2, .sl 0 0 0 (c :: l).length 36 none)]) (hp2 := [(0, 70, nsW (c :: l))]) (by omega) (by omega) (by show 1 < 2; omega) ⟨⟨?_, rfl⟩, trivial⟩ ⟨⟨by omega, ?_, ref_pur (nsW_p _)⟩, trivial⟩ (by simp)) rfl ⟨rfl, .inr ⟨rfl, rfl, rfl⟩⟩
      · show some (W.sl 1 0 0 (0 + ((c :: l).map nW).length) 36 none) = some (W.sl 1 0 0 (c :: l).length 36 none)
        rw [e, Nat.zero_add]
      · rw [ren_pur (nsW_p _)]
        show some (70, W.arr ((0 + ((c :: l).map nW).length) * 36) 36 ([] ++ (c :: l).map nW)) = some (70, nsW (c :: l))
        rw [e, Nat.zero_add]
        rfl
theorem node_get (ns : List Node) {i : Nat} {x : Node} (h : ns[i]? = some x) : getAtW 50 (nsW ns) (0 + i * 36 + 33) 1 false = some (bW x.val) :=
  get_in (map_at nW h) (by omega) (by omega) (by simp) rfl
theorem node_put (ns : List Node) {i : Nat} {x : Node} (h : ns[i]? = some x) : putAtW 50 (nsW ns) (0 + i * 36 + 33) (bW x.val) = some (nsW ns) := by
  have h1 := map_at nW h
  rw [nsW, put_in (x' := nW x) h1 (by omega) (by omega) (by simp [W.isAgg, bW]) rfl, set_same h1]
theorem twin_s (ns : List Node) (root : Int) (hl : ns.length ≤ 1000000000) (hv : ∀ x ∈ ns, x.val.length ≤ 70368744177664) : PSpec cfg G 30 0 [tW ⟨ns, root⟩] [] fun w hp nw =>
    (ns = [] ∧ w = .agg 2 [.nils, .int .i64 root] ∧ hp = [(1, 24, .agg 2 [.nils, .int .i64 root]), (0, 24, .agg 2 [.nils, .int .i64 root])] ∧ nw = 2) ∨
    (w = .agg 2 [.sl 2 0 0 ns.length 36 none, .int .i64 root] ∧ hp = [(2, 70, nsW ns), (1, 24, .agg 2 [.sl 2 0 0 ns.length 36 none, .int .i64 root]), (0, 24, .agg 2 [.sl 2 0 0 ns.length 36 none, .int .i64 root])] ∧ nw = 3) := by
  intro R
  refine spec_in (fn := Try.f30) rfl rfl rfl (Nat.le_of_ble_eq_true rfl) (fun k0 => ?_)
  refine co_seq ?_
  refine co_region ?_
  iterate 2 refine op_mem rfl rfl ?_
  refine op_nil ?_
  refine q_seq ?_
  refine co_seq ?_
  refine co_region ?_
  refine op_pure rfl rfl ?_
  refine op_mem rfl rfl ?_
  skip
  refine op_step rfl (step_own rfl rfl rfl rfl rfl (by simp [nsW_pur]) (nclone_s ns false hl) ?_)
  rintro w hp1 nw1 (⟨hn, rfl, rfl, rfl⟩ | ⟨rfl, rfl, rfl⟩)
  · skip
    skip
    refine op_pure rfl rfl ?_
    refine op_mem rfl rfl ?_
    refine op_nil ?_
    refine q_seq ?_
    iterate 2 refine co_seq ?_
    refine co_region ?_
    refine op_pure rfl rfl ?_
    refine op_mem rfl rfl ?_
    first | refine op_len rfl rfl ?_ | refine op_pure rfl rfl ?_
    refine op_pure rfl rfl ?_
    refine op_nil ?_
    refine q_seq ?_
    refine co_block ?_
    refine co_loopK (α := Nat) (fun i => i = 0) (fun i => [(11, .int .i64 (i : Int))]) [(1, _), (2, _), (10, _)] (fun i => 1 - i) (0) ⟨rfl, rfl, rfl, trivial⟩ (rfl) ⟨rfl, trivial⟩ (fun i hI => ?_)
    subst hI
    refine co_seq ?_
    refine co_region ?_
    refine op_cmp rfl rfl (by first | exact ltI_iff | exact eqI_iff | exact nlt_iff | exact neq_iff | exact dec_iff | exact bool_iff) ?_
    refine op_nil ?_
    refine q_seq ?_
    refine co_seq ?_
    refine co_false rfl ?_
    refine co_exit ?_
    refine q_seqx (by intro h; cases h) ?_
    refine q_outk (by intro h; cases h) ?_
    refine q_blk ?_
    refine q_seq ?_
    refine co_seq ?_
    refine co_region ?_
    iterate 2 refine op_mem rfl rfl ?_
    refine op_nil ?_
    refine q_seq ?_
    refine co_ret ?_
    exact fin (.inr rfl) Ent.refl rfl ⟨rfl, .inl ⟨hn, rfl, rfl, rfl⟩⟩
  · rw [renH_pur1 (nsW_p _)]
    show OpW cfg G _ _ _ _ [(2, 70, nsW ns), (1, 24, .agg 2 [.nils, .int .i64 0]), (0, 24, tW ⟨ns, root⟩)] 3 R _
    refine op_pure rfl rfl ?_
    refine op_mem rfl rfl ?_
    refine op_nil ?_
    refine q_seq ?_
    iterate 2 refine co_seq ?_
    refine co_region ?_
    refine op_pure rfl rfl ?_
    refine op_mem rfl rfl ?_
    first | refine op_len rfl rfl ?_ | refine op_pure rfl rfl ?_
    refine op_pure rfl rfl ?_
    refine op_nil ?_
    refine q_seq ?_
    refine co_block ?_
    refine co_loopK (α := Nat) (fun i => i ≤ ns.length) (fun i => [(11, .int .i64 (i : Int))]) [(1, _), (2, _), (10, _)] (fun i => ns.length - i) (0) ⟨rfl, rfl, rfl, trivial⟩ (Nat.zero_le _) ⟨rfl, trivial⟩ (fun i hI => ?_)
    refine co_seq ?_
    refine co_region ?_
    refine op_cmp rfl rfl (by first | exact ltI_iff | exact eqI_iff | exact nlt_iff | exact neq_iff | exact dec_iff | exact bool_iff) ?_
    refine op_nil ?_
    refine q_seq ?_
    refine co_seq ?_
    refine co_dec rfl (by first | exact ltI_iff | exact eqI_iff | exact nlt_iff | exact neq_iff | exact dec_iff | exact bool_iff) (fun h1 => ?_) (fun h1 => ?_)
    · have hi : i < ns.length := by omega
      obtain ⟨x, hx⟩ : ∃ x, ns[i]? = some x := ⟨_, List.getElem?_eq_getElem hi⟩
      have hxv := hv x (List.mem_of_getElem? hx)
      refine co_skip ?_
      refine q_seq ?_
      iterate 4 first | refine co_seq ?_ | refine co_block ?_ | refine co_region ?_
      iterate 2 refine op_pure rfl rfl ?_
      refine op_nil ?_
      refine q_seq ?_
      refine co_flow ?_
      iterate 6 first | refine fl_pure rfl rfl ?_ | refine fl_mem rfl rfl (by first | rfl | kernel_rfl) ?_
      refine fl_pure rfl (ix_sl (i := i) rfl rfl rfl rfl rfl rfl rfl hi) ?_
      refine fl_pure rfl rfl ?_
      refine fl_mem rfl (ld_own rfl rfl rfl (node_get ns hx)) (by first | rfl | kernel_rfl) ?_
      refine fl_ps rfl rfl rfl rfl rfl rfl (clone_s x.val false hxv) (by simp) (by simp) (by first | rfl | kernel_rfl) ?_
      refine fl_pure rfl (ix_sl (i := i) rfl rfl rfl rfl rfl rfl rfl hi) ?_
      refine fl_pure rfl rfl ?_
      refine fl_mem rfl (st_same rfl rfl rfl rfl rfl (node_put ns hx)) (by first | rfl | kernel_rfl) ?_
      refine fl_nil ?_
      refine q_blkn (by intro i h; cases h) ?_
      refine q_seq ?_
      refine co_region ?_
      refine op_nat (i + 1) rfl rfl (by first | rfl | omega) ⟨by omega, by omega⟩ ?_
      refine op_pure rfl rfl ?_
      refine op_nil ?_
      exact q_againK (i + 1) (hi) (by omega) ⟨rfl, trivial⟩ ⟨rfl, rfl, rfl, trivial⟩ (by repeat (first | exact trivial | refine ⟨by first | rfl | exact ref_pur (by first | rfl | (simp; done)), ?_⟩)) (by omega) (by repeat (first | exact keeps_refl | refine keeps_cons (by omega) ?_ | refine keeps_hset (by omega) ?_ | refine keeps_hdel (by omega) ?_)) rfl
    · refine co_exit ?_
      refine q_seqx (by intro h; cases h) ?_
      refine q_outk (by intro h; cases h) ?_
      refine q_blk ?_
      refine q_seq ?_
      refine co_seq ?_
      refine co_region ?_
      iterate 2 refine op_mem rfl rfl ?_
      refine op_nil ?_
      refine q_seq ?_
      refine co_ret ?_
      exact fin (.inr rfl) Ent.refl rfl ⟨rfl, .inr ⟨rfl, rfl, rfl⟩⟩
end Go.Proofs.Ytgeelfdgnehdnaa

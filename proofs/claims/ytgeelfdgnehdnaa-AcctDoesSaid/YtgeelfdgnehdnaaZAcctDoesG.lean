/-
  What the proof of AcctDoes stands on, part 7. No condition.
-/
import Derived.Test.YtgeelfdgnehdnaaZAcctDoesF
namespace Go.Proofs.Ytgeelfdgnehdnaa
set_option linter.unusedSimpArgs false
set_option linter.unusedVariables false
abbrev Pr := Dig × List UInt8
inductive T where
  | nil
  | leaf (k : Dig) (v : List UInt8)
  | fork (l r : T)
  deriving Inhabited
def T.all : T → List Pr
  | .nil => []
  | .leaf k v => [(k, v)]
  | .fork l r => l.all ++ r.all
def T.isFork : T → Bool
  | .fork _ _ => true
  | _ => false
def T.non : T → Bool
  | .nil => false
  | _ => true
def T.two (l r : T) : Bool := l.isFork || r.isFork || (l.non && r.non)
def T.ok : Nat → Dig → T → Bool
  | _, _, .nil => true
  | d, b, .leaf k _ => decide (d ≤ yfq k b)
  | d, b, .fork l r => decide (d < 256) && T.ok (d + 1) b l && T.ok (d + 1) (qgq b d) r && T.two l r
def T.find (k : Dig) : Nat → T → Option (List UInt8)
  | _, .nil => none
  | _, .leaf k' v => if k' = k then some v else none
  | d, .fork l r => if bitN k d = 0 then l.find k (d + 1) else r.find k (d + 1)
def T.roads (d : Nat) : T → T × T
  | .nil => (.nil, .nil)
  | .leaf k v => if bitN k d = 0 then (.leaf k v, .nil) else (.nil, .leaf k v)
  | .fork l r => (l, r)
def T.put (k : Dig) (v : List UInt8) : Nat → T → T
  | _, .nil => .leaf k v
  | 0, .leaf _ _ => .leaf k v
  | 0, .fork l r => .fork l r
  | f + 1, .leaf k' v' => if k' = k then .leaf k v else
    if bitN k (255 - f) = 0 then .fork (T.put k v f (T.roads (255 - f) (.leaf k' v')).1) (T.roads (255 - f) (.leaf k' v')).2
    else .fork (T.roads (255 - f) (.leaf k' v')).1 (T.put k v f (T.roads (255 - f) (.leaf k' v')).2)
  | f + 1, .fork l r => if bitN k (255 - f) = 0 then .fork (T.put k v f l) r else .fork l (T.put k v f r)
def T.alone (l r : T) : Option T :=
  match l, r with
  | .nil, .nil => some .nil
  | .nil, .leaf k v => some (.leaf k v)
  | .leaf k v, .nil => some (.leaf k v)
  | _, _ => none
def T.join (l r : T) : T := (T.alone l r).getD (.fork l r)
def T.drop (k : Dig) : Nat → T → T
  | _, .nil => .nil
  | _, .leaf _ _ => .nil
  | d, .fork l r => if bitN k d = 0 then T.join (l.drop k (d + 1)) r else T.join l (r.drop k (d + 1))
def Srt (l : List Pr) : Prop := l.Pairwise fun a b => yrq a.1 b.1 = true
def kAq (l : List Pr) (k : Dig) (v : List UInt8) : List Pr := l.filter (fun p => yrq p.1 k) ++ (k, v) :: l.filter (fun p => yrq k p.1)
def yeq (l : List Pr) (k : Dig) : List Pr := l.filter fun p => decide (p.1 ≠ k)
def xxq (l : List Pr) (k : Dig) : Option (List UInt8) := (l.find? fun p => decide (p.1 = k)).map (·.2)
theorem findL_none {l : List Pr} {k : Dig} : xxq l k = none ↔ ∀ p ∈ l, p.1 ≠ k := by
  simp only [xxq, Option.map_eq_none_iff, List.find?_eq_none, decide_eq_true_eq]
theorem srt_uniq {l : List Pr} (h : Srt l) {p q : Pr} (hp : p ∈ l) (hq : q ∈ l) (e : p.1 = q.1) : p = q := by
  induction l with
  | nil => simp at hp
  | cons x l ih =>
    have h := List.pairwise_cons.1 h
    simp only [List.mem_cons] at hp hq
    rcases hp with rfl | hp <;> rcases hq with rfl | hq
    · rfl
    · exact absurd e (k7q (h.1 q hq))
    · exact absurd e.symm (k7q (h.1 p hp))
    · exact ih h.2 hp hq
theorem findL_some {l : List Pr} (h : Srt l) {k : Dig} {v : List UInt8} : xxq l k = some v ↔ (k, v) ∈ l := by
  simp only [xxq, Option.map_eq_some_iff]
  constructor
  · rintro ⟨⟨k', v'⟩, h1, rfl⟩
    have h2 := List.find?_some h1
    have := List.mem_of_find?_eq_some h1
    simp only [decide_eq_true_eq] at h2
    subst h2; exact this
  · intro hm
    cases hf : l.find? fun p => decide (p.1 = k) with
    | none =>
      have := List.find?_eq_none.1 hf _ hm
      simp at this
    | some p =>
      have h2 := List.find?_some hf
      have h3 := List.mem_of_find?_eq_some hf
      simp only [decide_eq_true_eq] at h2
      have := srt_uniq h h3 hm h2
      exact ⟨p, rfl, by rw [this]⟩
theorem mem_withL {l : List Pr} {k : Dig} {v : List UInt8} {p : Pr} : p ∈ kAq l k v ↔ p = (k, v) ∨ (p ∈ l ∧ p.1 ≠ k) := by
  simp only [kAq, List.mem_append, List.mem_filter, List.mem_cons]
  constructor
  · rintro (⟨h1, h2⟩ | rfl | ⟨h1, h2⟩)
    · exact .inr ⟨h1, k7q h2⟩
    · exact .inl rfl
    · exact .inr ⟨h1, fun e => k7q h2 e.symm⟩
  · rintro (rfl | ⟨h1, h2⟩)
    · exact .inr (.inl rfl)
    · rcases Ziq h2 with h | h
      · exact .inl ⟨h1, h⟩
      · exact .inr (.inr ⟨h1, h⟩)
theorem mem_withoutL {l : List Pr} {k : Dig} {p : Pr} : p ∈ yeq l k ↔ p ∈ l ∧ p.1 ≠ k := by simp [yeq]
def Zr (d : Nat) (b : Dig) : Prop := ∀ j, d ≤ j → j < 256 → bitN b j = 0
theorem qZq {d : Nat} {b : Dig} (h : Zr d b) : Zr (d + 1) b := fun j h1 h2 => h j (by omega) h2
theorem qYq {d : Nat} {b : Dig} (h : Zr d b) (hd : d < 256) : Zr (d + 1) (qgq b d) := fun j h1 h2 => by rw [Zdq b d j hd h2 (by omega)]; exact h j (by omega) h2
theorem j2q : Zr 0 qSq := fun j _ hj => by
  unfold bitN
  have : kn qSq (j / 8) = 0 := by
    unfold kn qSq
    simp only [List.getElem?_replicate]
    split <;> rfl
  rw [this]; simp
theorem Ybq {b : Dig} {d : Nat} (hd : d < 256) {j : Nat} (hj : j < d) : bitN (qgq b d) j = bitN b j := Zdq b d j hd (by omega) (by omega)
theorem side_l {b k : Dig} {d : Nat} (hz : Zr d b) (hd : d < 256) (h : d + 1 ≤ yfq k b) : d ≤ yfq k b ∧ bitN k d = 0 :=
  ⟨by omega, by rw [(yDq (by omega)).1 h d (by omega)]; exact hz d (Nat.le_refl _) hd⟩
theorem side_r {b k : Dig} {d : Nat} (hz : Zr d b) (hd : d < 256) (h : d + 1 ≤ yfq k (qgq b d)) : d ≤ yfq k b ∧ bitN k d = 1 := by
  have h1 := (yDq (by omega)).1 h
  refine ⟨(yDq (by omega)).2 fun j hj => ?_, ?_⟩
  · rw [h1 j (by omega), Ybq hd hj]
  · rw [h1 d (by omega), Zeq b d hd, hz d (Nat.le_refl _) hd]
theorem kbq {b k : Dig} {d : Nat} (hz : Zr d b) (hd : d < 256) (h : d ≤ yfq k b) (hb : bitN k d = 0) : d + 1 ≤ yfq k b := by
  refine (yDq (by omega)).2 fun j hj => ?_
  rcases Nat.lt_succ_iff_lt_or_eq.1 hj with hj | rfl
  · exact (yDq (by omega)).1 h j hj
  · rw [hb, hz j (Nat.le_refl _) hd]
theorem kaq {b k : Dig} {d : Nat} (hz : Zr d b) (hd : d < 256) (h : d ≤ yfq k b) (hb : ¬ bitN k d = 0) : d + 1 ≤ yfq k (qgq b d) := by
  refine (yDq (by omega)).2 fun j hj => ?_
  rcases Nat.lt_succ_iff_lt_or_eq.1 hj with hj | rfl
  · rw [Ybq hd hj]; exact (yDq (by omega)).1 h j hj
  · rw [Zeq b j hd, hz j (Nat.le_refl _) hd]
    have := qGq k j
    omega
theorem ok_fork {d : Nat} {b : Dig} {l r : T} : T.ok d b (.fork l r) = true ↔ d < 256 ∧ T.ok (d + 1) b l = true ∧ T.ok (d + 1) (qgq b d) r = true ∧ T.two l r = true := by
  simp only [T.ok, Bool.and_eq_true, decide_eq_true_eq, and_assoc]
theorem kHq : ∀ {t : T} {d : Nat} {b : Dig}, Zr d b → t.ok d b = true → ∀ p ∈ t.all, d ≤ yfq p.1 b
  | .nil, _, _, _, _, p, hp => by simp [T.all] at hp
  | .leaf k v, d, b, _, h, p, hp => by
    simp only [T.all, List.mem_singleton] at hp
    subst hp
    exact of_decide_eq_true h
  | .fork l r, d, b, hz, h, p, hp => by
    obtain ⟨hd, h1, h2, _⟩ := ok_fork.1 h
    simp only [T.all, List.mem_append] at hp
    rcases hp with hp | hp
    · exact (side_l hz hd (kHq (qZq hz) h1 p hp)).1
    · exact (side_r hz hd (kHq (qYq hz hd) h2 p hp)).1
theorem ok_bits {l r : T} {d : Nat} {b : Dig} (hz : Zr d b) (h : (T.fork l r).ok d b = true) : (∀ p ∈ l.all, bitN p.1 d = 0) ∧ ∀ p ∈ r.all, bitN p.1 d = 1 := by
  obtain ⟨hd, h1, h2, _⟩ := ok_fork.1 h
  exact ⟨fun p hp => (side_l hz hd (kHq (qZq hz) h1 p hp)).2, fun p hp => (side_r hz hd (kHq (qYq hz hd) h2 p hp)).2⟩
theorem uaq {a b c : Dig} {d : Nat} (hd : d < 256) (ha : d ≤ yfq a c) (hb : d ≤ yfq b c) (h0 : bitN a d = 0) (h1 : bitN b d = 1) : yrq a b = true :=
  ahead_iff.2 ⟨d, hd, fun j hj => by rw [(yDq (by omega)).1 ha j hj, (yDq (by omega)).1 hb j hj], h0, h1⟩
theorem ok_srt : ∀ {t : T} {d : Nat} {b : Dig}, Zr d b → t.ok d b = true → Srt t.all
  | .nil, _, _, _, _ => List.Pairwise.nil
  | .leaf k v, _, _, _, _ => List.pairwise_singleton _ _
  | .fork l r, d, b, hz, h => by
    obtain ⟨hd, h1, h2, _⟩ := ok_fork.1 h
    refine List.pairwise_append.2 ⟨ok_srt (qZq hz) h1, ok_srt (qYq hz hd) h2, fun p hp q hq => ?_⟩
    have a1 := side_l hz hd (kHq (qZq hz) h1 p hp)
    have a2 := side_r hz hd (kHq (qYq hz hd) h2 q hq)
    exact uaq hd a1.1 a2.1 a1.2 a2.2
theorem kNq (k : Dig) : ∀ {t : T} {d : Nat} {b : Dig}, Zr d b → t.ok d b = true → t.find k d = xxq t.all k
  | .nil, _, _, _, _ => rfl
  | .leaf k' v, _, _, _, _ => by
    simp only [T.find, T.all, xxq, List.find?_cons, List.find?_nil]
    by_cases e : k' = k <;> simp [e]
  | .fork l r, d, b, hz, h => by
    obtain ⟨hd, h1, h2, _⟩ := ok_fork.1 h
    obtain ⟨k1, k2⟩ := ok_bits hz h
    have i1 := kNq k (qZq hz) h1
    have i2 := kNq k (qYq hz hd) h2
    simp only [T.find, T.all, xxq, List.find?_append]
    simp only [xxq] at i1 i2
    split
    · rename_i hb
      have : r.all.find? (fun p => decide (p.1 = k)) = none := List.find?_eq_none.2 fun p hp e => by
        have := k2 p hp
        rw [of_decide_eq_true e] at this; omega
      rw [this, Option.or_none, i1]
    · rename_i hb
      have : l.all.find? (fun p => decide (p.1 = k)) = none := List.find?_eq_none.2 fun p hp e => by
        have := k1 p hp
        rw [of_decide_eq_true e] at this; omega
      rw [this, Option.none_or, i2]
theorem Ypq (k : Dig) (v : List UInt8) : ∀ (f : Nat) (t : T), (t.put k v f).non = true
  | f, .nil => by cases f <;> rfl
  | 0, .leaf _ _ => rfl
  | 0, .fork _ _ => rfl
  | f + 1, .leaf k' v' => by
    simp only [T.put]
    split
    · rfl
    · split <;> rfl
  | f + 1, .fork l r => by
    simp only [T.put]
    split <;> rfl
theorem put_fork (k : Dig) (v : List UInt8) (f : Nat) {t : T} (h : t.isFork = true) : (t.put k v f).isFork = true := by
  cases t with
  | nil => cases h
  | leaf _ _ => cases h
  | fork l r =>
    cases f with
    | zero => rfl
    | succ f => simp only [T.put]; split <;> rfl
theorem tput_leaf (k k' : Dig) (v v' : List UInt8) (f : Nat) (h : k' ≠ k) : ((T.leaf k' v').put k v (f + 1)).isFork = true := by
  simp only [T.put, if_neg h]
  split <;> rfl
theorem two_l {l l' r : T} (h : T.two l r = true) (h1 : l.isFork = true → l'.isFork = true) (h2 : l'.non = true) : T.two l' r = true := by
  cases l <;> cases l' <;> cases r <;> simp [T.two, T.isFork, T.non] at h h1 h2 ⊢
theorem two_r {l r r' : T} (h : T.two l r = true) (h1 : r.isFork = true → r'.isFork = true) (h2 : r'.non = true) : T.two l r' = true := by
  cases l <;> cases r <;> cases r' <;> simp [T.two, T.isFork, T.non] at h h1 h2 ⊢
theorem YJq {l : List Pr} {p : Pr → Bool} (h : ∀ x ∈ l, p x = true) : l.filter p = l := List.filter_eq_self.2 h
theorem vQq {l : List Pr} {p : Pr → Bool} (h : ∀ x ∈ l, p x = false) : l.filter p = [] := List.filter_eq_nil_iff.2 fun x hx => by rw [h x hx]; exact Bool.false_ne_true
theorem withL_l {l r : List Pr} {k : Dig} (v : List UInt8) (h : ∀ p ∈ r, yrq k p.1 = true) : kAq (l ++ r) k v = kAq l k v ++ r := by
  simp only [kAq, List.filter_append]
  rw [vQq (l := r) (p := fun p => yrq p.1 k) fun p hp => qHq (h p hp), YJq (l := r) (p := fun p => yrq k p.1) h]
  simp
theorem withL_r {l r : List Pr} {k : Dig} (v : List UInt8) (h : ∀ p ∈ l, yrq p.1 k = true) : kAq (l ++ r) k v = l ++ kAq r k v := by
  simp only [kAq, List.filter_append]
  rw [YJq (l := l) (p := fun p => yrq p.1 k) h, vQq (l := l) (p := fun p => yrq k p.1) fun p hp => qHq (h p hp)]
  simp
theorem withL_one (k : Dig) (v v' : List UInt8) : kAq [(k, v')] k v = [(k, v)] := by
  simp [kAq, j1q]
theorem jEq (k : Dig) (v : List UInt8) : ∀ (f : Nat) (t : T) {d : Nat} {b : Dig}, d + f = 256 → Zr d b → t.ok d b = true → d ≤ yfq k b → (t.put k v f).ok d b = true ∧ (t.put k v f).all = kAq t.all k v
  | f, .nil, d, b, _, hz, h, hk => by
    cases f <;> exact ⟨decide_eq_true hk, by simp [T.put, T.all, kAq]⟩
  | 0, .leaf k' v', d, b, hf, hz, h, hk => by
    have h := of_decide_eq_true h
    have : k' = k := vgq fun j hj => by rw [(yDq (by omega)).1 h j (by omega), (yDq (by omega)).1 hk j (by omega)]
    subst this
    exact ⟨decide_eq_true hk, by simp only [T.put, T.all]; rw [withL_one]⟩
  | 0, .fork l r, d, b, hf, hz, h, hk => by
    obtain ⟨hd, _⟩ := ok_fork.1 h
    omega
  | f + 1, .leaf k' v', d, b, hf, hz, h, hk => by
    have hd : d < 256 := by omega
    have ed : 255 - f = d := by omega
    have h := of_decide_eq_true h
    simp only [T.put, ed]
    by_cases e : k' = k
    · subst e
      simp only [if_true]
      exact ⟨decide_eq_true hk, by simp only [T.all]; rw [withL_one]⟩
    · rw [if_neg e]
      have b1 := qGq k' d
      have b2 := qGq k d
      by_cases hb : bitN k d = 0
      · rw [if_pos hb]
        by_cases hb' : bitN k' d = 0
        · simp only [T.roads, hb', if_true]
          have hs : (T.leaf k' v').ok (d + 1) b = true := decide_eq_true (kbq hz hd h hb')
          obtain ⟨i1, i2⟩ := jEq k v f (.leaf k' v') (d := d + 1) (by omega) (qZq hz) hs (kbq hz hd hk hb)
          refine ⟨ok_fork.2 ⟨hd, i1, rfl, ?_⟩, by simp only [T.all, List.append_nil]; exact i2⟩
          cases f with
          | zero =>
            exfalso
            refine e (vgq fun j hj => ?_)
            rcases Nat.lt_or_ge j d with h1 | h1
            · rw [(yDq (by omega)).1 h j h1, (yDq (by omega)).1 hk j h1]
            · have : j = d := by omega
              rw [this, hb, hb']
          | succ f => simp only [T.two, tput_leaf k k' v v' f e, Bool.true_or]
        · simp only [T.roads, hb', if_false]
          obtain ⟨i1, i2⟩ := jEq k v f .nil (d := d + 1) (by omega) (qZq hz) rfl (kbq hz hd hk hb)
          refine ⟨ok_fork.2 ⟨hd, i1, decide_eq_true (kaq hz hd h hb'), ?_⟩, ?_⟩
          · rw [show T.put k v f .nil = .leaf k v by cases f <;> rfl]; rfl
          · simp only [T.all]
            have ha : yrq k k' = true := uaq hd hk h hb (by omega)
            have e0 : (T.put k v f .nil).all = [(k, v)] := by cases f <;> rfl
            rw [e0]
            simp [kAq, ha, qHq ha]
      · rw [if_neg hb]
        by_cases hb' : bitN k' d = 0
        · simp only [T.roads, hb', if_true]
          obtain ⟨i1, i2⟩ := jEq k v f .nil (d := d + 1) (by omega) (qYq hz hd) rfl (kaq hz hd hk hb)
          refine ⟨ok_fork.2 ⟨hd, decide_eq_true (kbq hz hd h hb'), i1, ?_⟩, ?_⟩
          · rw [show T.put k v f .nil = .leaf k v by cases f <;> rfl]; rfl
          · simp only [T.all]
            have ha : yrq k' k = true := uaq hd h hk hb' (by omega)
            have e0 : (T.put k v f .nil).all = [(k, v)] := by cases f <;> rfl
            rw [e0]
            simp [kAq, ha, qHq ha]
        · simp only [T.roads, hb', if_false]
          have hs : (T.leaf k' v').ok (d + 1) (qgq b d) = true := decide_eq_true (kaq hz hd h hb')
          obtain ⟨i1, i2⟩ := jEq k v f (.leaf k' v') (d := d + 1) (by omega) (qYq hz hd) hs (kaq hz hd hk hb)
          refine ⟨ok_fork.2 ⟨hd, rfl, i1, ?_⟩, by simp only [T.all, List.nil_append]; exact i2⟩
          cases f with
          | zero =>
            exfalso
            refine e (vgq fun j hj => ?_)
            rcases Nat.lt_or_ge j d with h1 | h1
            · rw [(yDq (by omega)).1 h j h1, (yDq (by omega)).1 hk j h1]
            · have : j = d := by omega
              rw [this]; omega
          | succ f => simp only [T.two, tput_leaf k k' v v' f e, Bool.true_or, Bool.or_true]
  | f + 1, .fork l r, d, b, hf, hz, h, hk => by
    have hd : d < 256 := by omega
    have ed : 255 - f = d := by omega
    obtain ⟨_, h1, h2, h3⟩ := ok_fork.1 h
    obtain ⟨k1, k2⟩ := ok_bits hz h
    simp only [T.put, ed]
    have b2 := qGq k d
    split
    · rename_i hb
      obtain ⟨i1, i2⟩ := jEq k v f l (d := d + 1) (by omega) (qZq hz) h1 (kbq hz hd hk hb)
      refine ⟨ok_fork.2 ⟨hd, i1, h2, two_l h3 (put_fork k v f) (Ypq k v f l)⟩, ?_⟩
      simp only [T.all, i2]
      exact (withL_l v fun p hp => uaq hd hk (side_r hz hd (kHq (qYq hz hd) h2 p hp)).1 hb (k2 p hp)).symm
    · rename_i hb
      obtain ⟨i1, i2⟩ := jEq k v f r (d := d + 1) (by omega) (qYq hz hd) h2 (kaq hz hd hk hb)
      refine ⟨ok_fork.2 ⟨hd, h1, i1, two_r h3 (put_fork k v f) (Ypq k v f r)⟩, ?_⟩
      simp only [T.all, i2]
      exact (withL_r v fun p hp => uaq hd (side_l hz hd (kHq (qZq hz) h1 p hp)).1 hk (k1 p hp) (by omega)).symm
theorem join_all (l r : T) : (T.join l r).all = l.all ++ r.all := by
  cases l <;> cases r <;> simp [T.join, T.alone, T.all]
theorem ok_up {t : T} {d : Nat} {b : Dig} (h : t.ok (d + 1) b = true) (hf : t.isFork = false) : t.ok d b = true := by
  cases t with
  | nil => rfl
  | leaf k v => exact decide_eq_true (by have := of_decide_eq_true h; omega)
  | fork l r => cases hf
theorem ok_upr {t : T} {d : Nat} {b : Dig} (hd : d < 256) (h : t.ok (d + 1) (qgq b d) = true) (hf : t.isFork = false) : t.ok d b = true := by
  cases t with
  | nil => rfl
  | leaf k v =>
    have h := of_decide_eq_true h
    refine decide_eq_true ((yDq (by omega)).2 fun j hj => ?_)
    rw [(yDq (by omega)).1 h j (by omega), Ybq hd hj]
  | fork l r => cases hf
theorem join_ok {l r : T} {d : Nat} {b : Dig} (hd : d < 256) (h1 : l.ok (d + 1) b = true) (h2 : r.ok (d + 1) (qgq b d) = true) : (T.join l r).ok d b = true := by
  cases l <;> cases r <;> simp only [T.join, T.alone, Option.getD_some, Option.getD_none]
  · rfl
  · exact ok_upr hd h2 rfl
  · exact ok_fork.2 ⟨hd, h1, h2, rfl⟩
  · exact ok_up h1 rfl
  · exact ok_fork.2 ⟨hd, h1, h2, rfl⟩
  · exact ok_fork.2 ⟨hd, h1, h2, rfl⟩
  · exact ok_fork.2 ⟨hd, h1, h2, rfl⟩
  · exact ok_fork.2 ⟨hd, h1, h2, rfl⟩
  · exact ok_fork.2 ⟨hd, h1, h2, rfl⟩
theorem jkq {l : List Pr} {k : Dig} (h : ∀ p ∈ l, p.1 ≠ k) : yeq l k = l := List.filter_eq_self.2 fun p hp => decide_eq_true (h p hp)
theorem x3q (k : Dig) : ∀ (t : T) {d : Nat} {b : Dig}, Zr d b → t.ok d b = true → (t.find k d).isSome = true → (t.drop k d).ok d b = true ∧ (t.drop k d).all = yeq t.all k
  | .nil, d, b, _, _, h => by simp [T.find] at h
  | .leaf k' v, d, b, _, _, h => by
    simp only [T.find] at h
    split at h
    · rename_i e; subst e
      exact ⟨rfl, by simp [T.drop, T.all, yeq]⟩
    · cases h
  | .fork l r, d, b, hz, h, hs => by
    obtain ⟨hd, h1, h2, h3⟩ := ok_fork.1 h
    obtain ⟨k1, k2⟩ := ok_bits hz h
    simp only [T.find] at hs
    simp only [T.drop, T.all, yeq, List.filter_append]
    split
    · rename_i hb
      rw [if_pos hb] at hs
      obtain ⟨i1, i2⟩ := x3q k l (qZq hz) h1 hs
      refine ⟨join_ok hd i1 h2, ?_⟩
      rw [join_all, i2]
      congr 1
      exact (jkq fun p hp e => by have := k2 p hp; rw [e] at this; omega).symm
    · rename_i hb
      rw [if_neg hb] at hs
      obtain ⟨i1, i2⟩ := x3q k r (qYq hz hd) h2 hs
      refine ⟨join_ok hd h1 i1, ?_⟩
      rw [join_all, i2]
      congr 1
      exact (jkq fun p hp e => by have := k1 p hp; rw [e] at this; omega).symm
end Go.Proofs.Ytgeelfdgnehdnaa
namespace Go.Proofs.Ytgeelfdgnehdnaa
open Go.RowKit
set_option linter.unusedSimpArgs false
set_option linter.unusedVariables false
attribute [local irreducible] CoW OpW FlW Step Spec
variable {G : Nat → Option W}
noncomputable def pW (x : Pr) : W := .agg 33 [dW x.1, bW x.2]
@[simp] theorem pW_pur (x : Pr) : purW (pW x) = true := by simp [pW]
structure Node where
  leaf : Bool
  key : Dig
  val : List UInt8
  left : Int
  right : Int
noncomputable def nW (x : Node) : W := .agg 36 [.bool x.leaf, dW x.key, bW x.val, .int .i64 x.left, .int .i64 x.right]
@[simp] theorem nW_pur (x : Node) : purW (nW x) = true := by simp [nW]
def forkN (l r : Int) : Node := ⟨false, qSq, [], l, r⟩
theorem tbit_s (k : Dig) (d : Nat) (h : d < 256) : PS cfg G 62 [dW k, .int .i64 (d : Int)] (.int .u8 (bitN k d : Nat)) := by
  refine ynq (fn := Try.f62) rfl rfl rfl (Nat.le_of_ble_eq_true rfl) (fun R k0 => ?_)
  refine zcq (zbq (zdq rfl rfl (zaq rfl rfl (zeq ?_))))
  refine zfq (zcq (zbq (zdq rfl rfl (zaq rfl rfl (zsq rfl rfl rfl rfl rfl rfl (bit_in _ _ (by omega)) ?_)))))
  refine zaq rfl rfl (zaq rfl rfl (zaq rfl rfl (zaq rfl rfl (zaq rfl rfl (zeq ?_)))))
  refine zfq (zcq (zbq (zaq rfl rfl (zaq rfl rfl (zeq ?_)))))
  refine zfq (zjq ?_)
  first | exact znq (.inr rfl) rfl rfl | exact znq (.inl rfl) rfl rfl | (exfalso; omega)
theorem jvq (x : Node) : PS cfg G 61 [nW x] (.arr 2 1 [.int .i64 x.left, .int .i64 x.right]) := by
  refine ynq (fn := Try.f61) rfl rfl rfl (Nat.le_of_ble_eq_true rfl) (fun R k0 => ?_)
  refine zcq (zbq (zdq rfl rfl (zdq rfl rfl (zeq ?_))))
  refine zfq (zcq (zbq (zaq rfl rfl (zdq rfl rfl (zaq rfl rfl (zdq rfl rfl (zaq rfl rfl (zdq rfl rfl (zeq ?_)))))))))
  refine zfq (zjq ?_)
  first | exact znq (.inr rfl) rfl rfl | exact znq (.inl rfl) rfl rfl | (exfalso; omega)
theorem qWq (l r : Int) : PS cfg G 75 [.arr 2 1 [.int .i64 l, .int .i64 r]] (nW (forkN l r)) := by
  refine xbq (fn := Try.f75) rfl rfl rfl (Nat.le_of_ble_eq_true rfl) (fun R k0 => ?_)
  refine zcq (zbq (zdq rfl rfl (zdq rfl rfl (zeq ?_))))
  refine zfq (zcq (zbq ?_))
  first | refine zaq rfl (z8q rfl rfl rfl rfl rfl rfl rfl (by first | assumption | (simp; done))) ?_ | refine zaq rfl (ylq rfl rfl rfl rfl rfl rfl rfl (by omega)) ?_ | refine zaq rfl (z1q rfl rfl rfl rfl rfl rfl (by omega)) ?_ | refine zaq rfl rfl ?_
  refine zdq rfl rfl ?_
  first | refine zaq rfl (z8q rfl rfl rfl rfl rfl rfl rfl (by first | assumption | (simp; done))) ?_ | refine zaq rfl (ylq rfl rfl rfl rfl rfl rfl rfl (by omega)) ?_ | refine zaq rfl (z1q rfl rfl rfl rfl rfl rfl (by omega)) ?_ | refine zaq rfl rfl ?_
  refine zdq rfl rfl (zaq rfl rfl (zdq rfl rfl (zeq ?_)))
  refine zfq (zjq ?_)
  refine kPq (by first | exact .inr rfl | exact .inl rfl) rfl ?_
  (repeat (first | exact .nil | refine .cons ?_ ?_ | exact qiq | exact .nilfz | refine .fn ?_ ?_ | (refine y7q rfl ?_ rfl; (first | rfl | (focus (simp; done)))) | (refine .sl rfl ?_ rfl (by intro h; cases h); (first | rfl | (focus (simp; done)))) | (refine .pur ?_; (first | rfl | (focus (simp; done)))) | (refine .fzw ?_; (first | rfl | (focus (simp; done)))) | refine .agg ?_ | refine .arr ?_ | refine .tup ?_))
def valB (l : List UInt8) : Bool := decide (0 < l.length) && decide (l.length ≤ 64)
theorem value_s (l : List UInt8) (f : Bool) : PS cfg G 86 [.fz (zDq l) 1 f] (.bool (valB l)) := by
  have e := yqq l
  refine ynq (fn := Try.f86) rfl rfl rfl (Nat.le_of_ble_eq_true rfl) (fun R k0 => ?_)
  refine zcq (zbq (zaq rfl rfl (zeq ?_)))
  refine zfq (zcq (zbq (zaq rfl rfl (zXq (w' := .int .i64 (l.length : Int)) rfl rfl (by rw [← e]; rfl) ?_))))
  refine yYq rfl rfl (fun h1 => ?_) (fun h1 => ?_)
  · refine zaq rfl rfl (zaq rfl rfl (zXq (w' := .int .i64 (l.length : Int)) rfl rfl (by rw [← e]; rfl) ?_))
    refine zEq rfl rfl ?_
    refine zaq rfl rfl (zaq rfl rfl (zeq ?_))
    refine zfq (zjq ?_)
    have h0 : 0 < l.length := by omega
    exact znq (.inr rfl) rfl (by unfold valB; congr 1; rw [decide_eq_true h0, Bool.true_and, decide_eq_decide]; omega)
  · refine zaq rfl rfl (zgq rfl (zgq rfl (zgq rfl (zaq rfl rfl (zaq rfl rfl (zeq ?_))))))
    refine zfq (zjq ?_)
    have h0 : ¬ 0 < l.length := by omega
    exact znq (.inr rfl) rfl (by unfold valB; rw [decide_eq_false h0]; rfl)
def okAt (ps : List Pr) (i : Nat) : Prop := ∀ x, ps[i]? = some x → valB x.2 = true ∧ ∀ y, 0 < i → ps[i - 1]? = some y → yrq y.1 x.1 = true
def MayP (ps : List Pr) : Prop := ps.length ≤ 512 ∧ ∀ i, i < ps.length → okAt ps i
noncomputable instance (ps : List Pr) : Decidable (MayP ps) := Classical.propDecidable _
theorem jKq (ps : List Pr) : purL (ps.map pW) = true := YBq pW_pur ps
@[simp] theorem psW_pur' (ps : List Pr) : purL (ps.map pW) = true := jKq ps
theorem pcheck_s (ps : List Pr) (f : Bool) (hb : ps.length ≤ 9223372036854775807) : PS cfg G 73 [.fz (ps.map pW) 33 f] (.int .i64 (if MayP ps then 0 else 8)) := by
  have e : (ps.map pW).length = ps.length := List.length_map _
  refine ynq (fn := Try.f73) rfl rfl rfl (Nat.le_of_ble_eq_true rfl) (fun R k0 => ?_)
  refine zcq (zbq (zaq rfl rfl (zeq ?_)))
  refine zfq (zcq (zcq (zbq (zaq rfl rfl (zXq (w' := .int .i64 (ps.length : Int)) rfl rfl (by rw [← e]; rfl) ?_)))))
  refine zEq rfl rfl ?_
  refine zeq ?_
  refine zfq ?_
  refine zHq rfl (fun h1 => ?_) (fun h1 => ?_)
  · refine zcq (zbq (zaq rfl rfl (zeq ?_)))
    refine zfq (zjq ?_)
    refine zlq (by intro h; cases h) ?_
    exact znq (.inr rfl) rfl (by rw [if_neg fun h : MayP ps => by have := h.1; omega])
  · refine ziq (zfq (zcq (zcq (zbq (zaq rfl rfl (zXq (w' := .int .i64 (ps.length : Int)) rfl rfl (by rw [← e]; rfl) ?_))))))
    refine zaq rfl rfl (zeq ?_)
    refine zfq (zmq ?_)
    refine ySq (α := Nat) (fun i => i ≤ ps.length ∧ ∀ j, j < i → okAt ps j) (fun i => [(10, .int .i64 (i : Int))]) [(0, _), (2, _), (8, _), (9, _)] (fun i => ps.length - i) (0) ⟨rfl, rfl, rfl, rfl, trivial⟩ (⟨Nat.zero_le _, fun j hj => by omega⟩) ⟨rfl, trivial⟩ (fun i hI => ?_)
    obtain ⟨hi, hI⟩ := hI
    refine zcq (zbq (zEq rfl rfl ?_))
    refine zeq ?_
    refine zfq (zcq ?_)
    refine zHq rfl (fun h2 => ?_) (fun h2 => ?_)
    · have hi' : i < ps.length := by omega
      obtain ⟨x, hx⟩ : ∃ x, ps[i]? = some x := ⟨_, List.getElem?_eq_getElem hi'⟩
      refine ziq (zfq (zcq (zmq (zcq (zbq (zaq rfl rfl (zaq rfl (z8q (i := i) rfl rfl rfl rfl rfl rfl rfl (yKq pW hx)) (zdq rfl rfl (zdq rfl rfl (zaq rfl rfl (zdq rfl rfl (zeq ?_))))))))))))
      refine zfq (zcq (z0q (zhq rfl rfl (zGq rfl rfl ?_))))
      refine qKq rfl rfl rfl rfl rfl rfl (value_s _ _) ?_
      refine fl_bz (fun h3 => ?_) (fun h3 => ?_)
      · refine zhq rfl rfl (zhq rfl rfl (zhq rfl rfl ?_))
        refine fl_dz rfl rfl (fun h4 => ?_) (fun h4 => ?_)
        · refine zhq rfl rfl (zhq rfl rfl (zhq rfl rfl (jyq (i - 1) rfl rfl (by first | rfl | omega) ⟨by omega, by omega⟩ ?_)))
          refine zhq rfl (z8q (i := i - 1) rfl rfl rfl rfl rfl rfl rfl (yKq pW (List.getElem?_eq_getElem (by omega)))) ?_
          refine zhq rfl rfl (zGq rfl rfl ?_)
          refine zhq rfl rfl (zGq rfl rfl ?_)
          refine qKq rfl rfl rfl rfl rfl rfl (ahead_s _ _) ?_
          refine zhq rfl rfl (zhq rfl rfl (zhq rfl rfl (z9q ?_)))
          refine zfq ?_
          refine zHq rfl (fun h5 => ?_) (fun h5 => ?_)
          · refine zcq (zbq (zaq rfl rfl (zeq ?_)))
            refine zfq (zjq ?_)
            refine ztq (by intro i h; cases h) ?_
            refine zlq (by intro h; cases h) ?_
            refine ykq (by intro h; cases h) ?_
            refine ztq (by intro i h; cases h) ?_
            refine zlq (by intro h; cases h) ?_
            have no : ¬ MayP ps := fun h => by
              have := (h.2 i hi' x hx).2 _ (by omega) (List.getElem?_eq_getElem (by omega))
              rw [this] at h5
              simp at h5
            exact znq (.inr rfl) rfl (by rw [if_neg no])
          · have ok : okAt ps i := fun x' hx' => by
              obtain rfl := Option.some.inj (hx.symm.trans hx')
              refine ⟨h3, fun y h0 hy => ?_⟩
              obtain rfl := Option.some.inj ((List.getElem?_eq_getElem (show i - 1 < ps.length by omega)).symm.trans hy)
              simpa using h5
            refine ziq (ztq (by intro i h; cases h) ?_)
            refine zfq (zbq (zAq (i + 1) rfl rfl (by first | rfl | omega) ⟨by omega, by omega⟩ ?_))
            refine zaq rfl rfl (zeq ?_)
            exact yjq (i + 1) (⟨hi', fun j hj => by rcases Nat.lt_succ_iff_lt_or_eq.1 hj with h | rfl <;> first | exact hI j h | exact ok⟩) (by omega) ⟨rfl, trivial⟩ ⟨rfl, rfl, rfl, rfl, trivial⟩ (by repeat (first | exact trivial | refine ⟨by first | rfl | exact zyq (by first | rfl | (simp; done)), ?_⟩)) (by omega) (by repeat (first | exact zMq | refine zPq (by omega) ?_ | refine zNq (by omega) ?_ | refine zOq (by omega) ?_)) rfl
        · have ok : okAt ps i := fun x' hx' => by
            obtain rfl := Option.some.inj (hx.symm.trans hx')
            exact ⟨h3, fun y h0 hy => by omega⟩
          refine zhq rfl rfl (zSq rfl (zSq rfl (zSq rfl (zSq rfl (zSq rfl (zSq rfl (zSq rfl (zSq rfl (zSq rfl (zSq rfl (zhq rfl rfl (zhq rfl rfl (z9q ?_)))))))))))))
          refine zfq (zCq rfl (ziq (ztq (by intro i h; cases h) ?_)))
          refine zfq (zbq (zAq (i + 1) rfl rfl (by first | rfl | omega) ⟨by omega, by omega⟩ ?_))
          refine zaq rfl rfl (zeq ?_)
          exact yjq (i + 1) (⟨hi', fun j hj => by rcases Nat.lt_succ_iff_lt_or_eq.1 hj with h | rfl <;> first | exact hI j h | exact ok⟩) (by omega) ⟨rfl, trivial⟩ ⟨rfl, rfl, rfl, rfl, trivial⟩ (by repeat (first | exact trivial | refine ⟨by first | rfl | exact zyq (by first | rfl | (simp; done)), ?_⟩)) (by omega) (by repeat (first | exact zMq | refine zPq (by omega) ?_ | refine zNq (by omega) ?_ | refine zOq (by omega) ?_)) rfl
      · refine zhq rfl rfl (zhq rfl rfl (zSq rfl (zSq rfl (zSq rfl (zSq rfl (zSq rfl (zSq rfl (zSq rfl (zSq rfl (zSq rfl (zSq rfl (zSq rfl (zSq rfl (zSq rfl (zSq rfl (zhq rfl rfl (z9q ?_)))))))))))))))))
        refine zfq (zQq rfl (zcq (zbq (zaq rfl rfl (zeq ?_)))))
        refine zfq (zjq ?_)
        refine ztq (by intro i h; cases h) ?_
        refine zlq (by intro h; cases h) ?_
        refine ykq (by intro h; cases h) ?_
        refine ztq (by intro i h; cases h) ?_
        refine zlq (by intro h; cases h) ?_
        exact znq (.inr rfl) rfl (by rw [if_neg fun h : MayP ps => h3 (h.2 i hi' x hx).1])
    · refine ytq ?_
      refine zlq (by intro h; cases h) ?_
      refine ykq (by intro h; cases h) ?_
      refine qpq (zfq (zcq (zbq (zaq rfl rfl (zeq ?_)))))
      refine zfq (zjq ?_)
      have yes : MayP ps := ⟨by omega, fun j hj => hI j (by omega)⟩
      exact znq (.inr rfl) rfl (by rw [if_pos yes])
def oneB (x : Node) (n : Nat) : Prop := if x.leaf then x.left = 0 ∧ x.right = 0 ∧ MayP [(x.key, x.val)] else (0 ≤ x.left ∧ x.left ≤ n) ∧ (0 ≤ x.right ∧ x.right ≤ n) ∧ x.key = qSq ∧ x.val = [] ∧ 0 < x.left + x.right
noncomputable instance (x : Node) (n : Nat) : Decidable (oneB x n) := Classical.propDecidable _
theorem one_s (x : Node) (n : Nat) (hn : n ≤ 4611686018427387903) : PS cfg G 54 [nW x, .int .i64 (n : Int)] (.bool (decide (oneB x n))) := by
  refine ynq (fn := Try.f54) rfl rfl rfl (Nat.le_of_ble_eq_true rfl) (fun R k0 => ?_)
  refine zcq (zbq (zdq rfl rfl (zaq rfl rfl (zeq ?_))))
  refine zfq (zcq (zcq (zbq (zaq rfl rfl (zdq rfl rfl (zeq ?_))))))
  refine zfq ?_
  refine zHq rfl (fun h1 => ?_) (fun h1 => ?_)
  · refine zcq (zbq (zaq rfl rfl (zdq rfl rfl ?_)))
    refine yYq rfl rfl (fun h2 => ?_) (fun h2 => ?_)
    · refine zaq rfl rfl (zaq rfl rfl (zdq rfl rfl ?_))
      refine yYq rfl rfl (fun h3 => ?_) (fun h3 => ?_)
      · refine zaq rfl rfl (zaq rfl rfl (zaq rfl rfl (zdq rfl rfl (zaq rfl rfl (zdq rfl rfl (zaq rfl rfl (zdq rfl rfl ?_)))))))
        refine op_lk rfl rfl rfl rfl rfl (by (repeat (first | exact .nil | refine .cons ?_ ?_ | (refine .sl rfl ?_ rfl (by intro h; cases h); first | rfl | (focus (simp; done))) | (refine y7q rfl ?_ rfl; first | rfl | (focus (simp; done))) | (refine .pur ?_; first | rfl | (focus (simp; done)))))) (pcheck_s [(x.key, x.val)] false (by simp)) (by first | rfl | assumption | (simp; done)) (by first | rfl | assumption | (simp; done)) ?_
        refine zEq rfl rfl ?_
        refine zaq rfl rfl (zaq rfl rfl (zeq ?_))
        refine zfq (zjq ?_)
        refine zlq (by intro h; cases h) ?_
        refine znq (.inr rfl) rfl ?_
        congr 1
        rw [decide_eq_decide, oneB, if_pos h1]
        split
        · rename_i h
          exact ⟨fun _ => ⟨h2, h3, h⟩, fun _ => rfl⟩
        · rename_i h
          exact ⟨fun h => by omega, fun q => absurd q.2.2 h⟩
      · refine zaq rfl rfl (zaq rfl rfl (zgq rfl (zgq rfl (zgq rfl (zgq rfl (zgq rfl (zgq rfl (zgq rfl (zgq rfl (zaq rfl rfl (zaq rfl rfl (zeq ?_))))))))))))
        refine zfq (zjq ?_)
        refine zlq (by intro h; cases h) ?_
        exact znq (.inr rfl) rfl (by rw [decide_eq_false]; intro h; rw [oneB, if_pos h1] at h; exact h3 h.2.1)
    · refine zaq rfl rfl (zgq rfl (zgq rfl (zgq rfl (zaq rfl rfl (zaq rfl rfl (zgq rfl (zgq rfl (zgq rfl (zgq rfl (zgq rfl (zgq rfl (zgq rfl (zgq rfl (zaq rfl rfl (zaq rfl rfl (zeq ?_))))))))))))))))
      refine zfq (zjq ?_)
      refine zlq (by intro h; cases h) ?_
      exact znq (.inr rfl) rfl (by rw [decide_eq_false]; intro h; rw [oneB, if_pos h1] at h; exact h2 h.1)
  · refine ziq (zfq (zcq (zcq (zbq (zdq rfl rfl (zsq rfl rfl rfl rfl rfl rfl (jvq _) ?_))))))
    refine zaq rfl rfl (zeq ?_)
    refine zfq (zmq ?_)
    refine ySq (α := Nat) (fun i => i ≤ 2 ∧ (0 < i → 0 ≤ x.left ∧ x.left ≤ n) ∧ (1 < i → 0 ≤ x.right ∧ x.right ≤ n)) (fun i => [(29, .int .i64 (i : Int))]) [(1, _), (2, _), (4, _), (28, _)] (fun i => 2 - i) (0) ⟨rfl, rfl, rfl, rfl, trivial⟩ (⟨by omega, by omega, by omega⟩) ⟨rfl, trivial⟩ (fun i hI => ?_)
    obtain ⟨hi, hl, hr⟩ := hI
    refine zcq (zbq (zEq rfl rfl ?_))
    refine zeq ?_
    refine zfq (zcq ?_)
    refine zHq rfl (fun h2 => ?_) (fun h2 => ?_)
    · have hi' : i = 0 ∨ i = 1 := by omega
      rcases hi' with rfl | rfl
      · skip
        refine ziq (zfq (zcq (zmq (zcq (zbq (zaq rfl rfl (zaq rfl rfl (zeq ?_))))))))
        refine zfq (zcq (zbq (zaq rfl rfl ?_)))
        refine yYq rfl rfl (fun h3 => ?_) (fun h3 => ?_)
        · refine zaq rfl rfl (zgq rfl (zgq rfl (zgq rfl (zaq rfl rfl (zeq ?_)))))
          refine zfq (zQq rfl (zcq (zbq (zaq rfl rfl (zeq ?_)))))
          refine zfq (zjq ?_)
          refine ztq (by intro i h; cases h) ?_
          refine zlq (by intro h; cases h) ?_
          refine ykq (by intro h; cases h) ?_
          refine ztq (by intro i h; cases h) ?_
          refine zlq (by intro h; cases h) ?_
          exact znq (.inr rfl) rfl (by rw [decide_eq_false]; intro h; rw [oneB, if_neg h1] at h; omega)
        · refine zaq rfl rfl (zaq rfl rfl (zaq rfl rfl (zEq rfl rfl ?_)))
          refine zaq rfl rfl (zeq ?_)
          refine zfq ?_
          refine zHq rfl (fun h4 => ?_) (fun h4 => ?_)
          · refine zcq (zbq (zaq rfl rfl (zeq ?_)))
            refine zfq (zjq ?_)
            refine ztq (by intro i h; cases h) ?_
            refine zlq (by intro h; cases h) ?_
            refine ykq (by intro h; cases h) ?_
            refine ztq (by intro i h; cases h) ?_
            refine zlq (by intro h; cases h) ?_
            exact znq (.inr rfl) rfl (by rw [decide_eq_false]; intro h; rw [oneB, if_neg h1] at h; omega)
          · refine ziq (ztq (by intro i h; cases h) ?_)
            refine zfq (zbq (zAq (1) rfl rfl (by first | rfl | omega) ⟨by omega, by omega⟩ ?_))
            refine zaq rfl rfl (zeq ?_)
            exact yjq (1) (⟨by omega, by omega, by omega⟩) (by omega) ⟨rfl, trivial⟩ ⟨rfl, rfl, rfl, rfl, trivial⟩ (by repeat (first | exact trivial | refine ⟨by first | rfl | exact zyq (by first | rfl | (simp; done)), ?_⟩)) (by omega) (by repeat (first | exact zMq | refine zPq (by omega) ?_ | refine zNq (by omega) ?_ | refine zOq (by omega) ?_)) rfl
      · refine ziq (zfq (zcq (zmq (zcq (zbq (zaq rfl rfl (zaq rfl rfl (zeq ?_))))))))
        refine zfq (zcq (zbq (zaq rfl rfl ?_)))
        refine yYq rfl rfl (fun h3 => ?_) (fun h3 => ?_)
        · refine zaq rfl rfl (zgq rfl (zgq rfl (zgq rfl (zaq rfl rfl (zeq ?_)))))
          refine zfq (zQq rfl (zcq (zbq (zaq rfl rfl (zeq ?_)))))
          refine zfq (zjq ?_)
          refine ztq (by intro i h; cases h) ?_
          refine zlq (by intro h; cases h) ?_
          refine ykq (by intro h; cases h) ?_
          refine ztq (by intro i h; cases h) ?_
          refine zlq (by intro h; cases h) ?_
          exact znq (.inr rfl) rfl (by rw [decide_eq_false]; intro h; rw [oneB, if_neg h1] at h; omega)
        · refine zaq rfl rfl (zaq rfl rfl (zaq rfl rfl (zEq rfl rfl ?_)))
          refine zaq rfl rfl (zeq ?_)
          refine zfq ?_
          refine zHq rfl (fun h4 => ?_) (fun h4 => ?_)
          · refine zcq (zbq (zaq rfl rfl (zeq ?_)))
            refine zfq (zjq ?_)
            refine ztq (by intro i h; cases h) ?_
            refine zlq (by intro h; cases h) ?_
            refine ykq (by intro h; cases h) ?_
            refine ztq (by intro i h; cases h) ?_
            refine zlq (by intro h; cases h) ?_
            exact znq (.inr rfl) rfl (by rw [decide_eq_false]; intro h; rw [oneB, if_neg h1] at h; omega)
          · refine ziq (ztq (by intro i h; cases h) ?_)
            refine zfq (zbq (zAq (2) rfl rfl (by first | rfl | omega) ⟨by omega, by omega⟩ ?_))
            refine zaq rfl rfl (zeq ?_)
            exact yjq (2) (⟨by omega, by omega, by omega⟩) (by omega) ⟨rfl, trivial⟩ ⟨rfl, rfl, rfl, rfl, trivial⟩ (by repeat (first | exact trivial | refine ⟨by first | rfl | exact zyq (by first | rfl | (simp; done)), ?_⟩)) (by omega) (by repeat (first | exact zMq | refine zPq (by omega) ?_ | refine zNq (by omega) ?_ | refine zOq (by omega) ?_)) rfl
    · have e := yqq x.val
      have hl := hl (by omega)
      have hr := hr (by omega)
      have key : oneB x n ↔ (x.key = qSq ∧ x.val = [] ∧ 0 < x.left + x.right) := by rw [oneB, if_neg h1]; exact ⟨fun h => h.2.2, fun h => ⟨hl, hr, h⟩⟩
      rw [show decide (oneB x n) = decide (x.key = qSq ∧ x.val = [] ∧ 0 < x.left + x.right) from decide_eq_decide.2 key]
      refine ytq ?_
      refine zlq (by intro h; cases h) ?_
      refine ykq (by intro h; cases h) ?_
      refine qpq (zfq (zcq (zbq (zaq rfl rfl (zdq rfl rfl (zXq rfl rfl uyq ?_))))))
      refine op_dec rfl (qbq rfl rfl rfl rfl (qPq rfl rfl rfl rfl rfl rfl _ _ 250)) yQq (fun h3 => ?_) (fun h3 => ?_)
      · refine zaq rfl rfl (zaq rfl rfl (zdq rfl rfl (zXq (w' := .int .i64 (x.val.length : Int)) rfl rfl (by rw [← e]; rfl) ?_)))
        refine yYq rfl rfl (fun h4 => ?_) (fun h4 => ?_)
        · have hv : x.val = [] := List.eq_nil_of_length_eq_zero (by omega)
          refine zaq rfl rfl (zaq rfl rfl (zaq rfl rfl (zdq rfl rfl (zaq rfl rfl (zdq rfl rfl ?_)))))
          first | refine unq rfl rfl ⟨by omega, by omega⟩ ?_ | refine zaq rfl rfl ?_
          refine zEq rfl rfl ?_
          refine zaq rfl rfl (zaq rfl rfl (zeq ?_))
          refine zfq (zjq ?_)
          refine znq (.inr rfl) rfl ?_
          congr 1
          rw [decide_eq_decide]
          exact ⟨fun h => ⟨h3, hv, h⟩, fun h => h.2.2⟩
        · have hv : x.val ≠ [] := fun h => h4 (by rw [h]; rfl)
          refine zaq rfl rfl (zaq rfl rfl (zgq rfl (zgq rfl (zgq rfl (zgq rfl (zgq rfl (zgq rfl (zaq rfl rfl (zaq rfl rfl (zeq ?_))))))))))
          refine zfq (zjq ?_)
          exact znq (.inr rfl) rfl (by rw [decide_eq_false fun h => hv h.2.1])
      · refine zaq rfl rfl (zgq rfl (zgq rfl (zgq rfl (zgq rfl (zaq rfl rfl (zaq rfl rfl (zgq rfl (zgq rfl (zgq rfl (zgq rfl (zgq rfl (zgq rfl (zaq rfl rfl (zaq rfl rfl (zeq ?_)))))))))))))))
        refine zfq (zjq ?_)
        exact znq (.inr rfl) rfl (by rw [decide_eq_false fun h => h3 h.1])
end Go.Proofs.Ytgeelfdgnehdnaa
namespace Go.Proofs.Ytgeelfdgnehdnaa
open Go.RowKit
set_option linter.unusedSimpArgs false
set_option linter.unusedVariables false
attribute [local irreducible] CoW OpW FlW Step Spec
variable {G : Nat → Option W}
inductive Rep (ns : List Node) : Nat → T → Prop where
  | nil : Rep ns 0 .nil
  | leaf {n : Nat} {k : Dig} {v : List UInt8} {l r : Int} (h : ns[n]? = some ⟨true, k, v, l, r⟩) : Rep ns (n + 1) (.leaf k v)
  | fork {n l r : Nat} {k : Dig} {v : List UInt8} {L R : T} (h : ns[n]? = some ⟨false, k, v, l, r⟩) (hl : l ≤ n) (hr : r ≤ n) (hL : Rep ns l L) (hR : Rep ns r R) : Rep ns (n + 1) (.fork L R)
theorem Rep.le {ns : List Node} {n : Nat} {t : T} (h : Rep ns n t) : n ≤ ns.length := by
  cases h with
  | nil => exact Nat.zero_le _
  | leaf h => exact (List.getElem?_eq_some_iff.1 h).1
  | fork h => exact (List.getElem?_eq_some_iff.1 h).1
theorem Rep.non {ns : List Node} {n : Nat} {t : T} (h : Rep ns n t) : t.non = decide (0 < n) := by cases h <;> simp [T.non]
theorem Rep.app {ns : List Node} (ms : List Node) {n : Nat} {t : T} (h : Rep ns n t) : Rep (ns ++ ms) n t := by
  have key : ∀ {i : Nat} {x : Node}, ns[i]? = some x → (ns ++ ms)[i]? = some x := fun {i x} h => by rw [List.getElem?_append_left (List.getElem?_eq_some_iff.1 h).1]; exact h
  induction h with
  | nil => exact .nil
  | leaf h => exact .leaf (key h)
  | fork h hl hr _ _ i1 i2 => exact .fork (key h) hl hr i1 i2
structure Tree where
  nodes : List Node
  root : Int
noncomputable def tW (t : Tree) : W := .agg 2 [.fz (t.nodes.map nW) 36 false, .int .i64 t.root]
theorem xnq (ns : List Node) : purL (ns.map nW) = true := YBq nW_pur ns
@[simp] theorem tW_pur (t : Tree) : purW (tW t) = true := by simp [tW, xnq]
def nnI (t : T) : Int := if t.non then 1 else 0
theorem right_s (t0 : Tree) (hb : t0.nodes.length ≤ 4611686018427387903) : ∀ (t : T) (n d : Nat) (b : Dig), Rep t0.nodes n t → d ≤ 256 → PS cfg G 60 [tW t0, .int .i64 (n : Int), .int .i64 (d : Int), dW b] (.tup [.bool (t.ok d b), .bool (t.ok d b && t.isFork)]) := by
  intro t
  induction t with
  | nil =>
    intro n d b hr hd
    obtain rfl : n = 0 := by cases hr; rfl
    refine ynq (fn := Try.f60) rfl rfl rfl (Nat.le_of_ble_eq_true rfl) (fun R k0 => ?_)
    refine zcq (zbq (zdq rfl rfl (zdq rfl rfl (zaq rfl rfl (zaq rfl rfl (zeq ?_))))))
    refine zfq (zcq (zcq (zbq (zaq rfl rfl (zEq rfl rfl ?_)))))
    refine zeq ?_
    refine zfq ?_
    refine zHq rfl (fun h1 => ?_) (fun h1 => ?_)
    · refine zcq (zbq (zaq rfl rfl (zaq rfl rfl (zeq ?_))))
      refine zfq (zjq ?_)
      refine zlq (by intro h; cases h) ?_
      exact znq (.inr rfl) rfl rfl
    · exfalso; omega
  | leaf k v =>
    intro n d b hr hd
    have hle := hr.le
    cases hr with
    | leaf h =>
    rename_i n l r
    refine ynq (fn := Try.f60) rfl rfl rfl (Nat.le_of_ble_eq_true rfl) (fun R k0 => ?_)
    refine zcq (zbq (zdq rfl rfl (zdq rfl rfl (zaq rfl rfl (zaq rfl rfl (zeq ?_))))))
    refine zfq (zcq (zcq (zbq (zaq rfl rfl (zEq rfl rfl ?_)))))
    refine zeq ?_
    refine zfq ?_
    refine zHq rfl (fun h1 => ?_) (fun h1 => ?_)
    · exfalso; omega
    · refine ziq (zfq (zcq (zbq (zaq rfl rfl (zdq rfl rfl (zaq rfl rfl (zAq (n) rfl rfl (by first | rfl | omega) ⟨by omega, by omega⟩ ?_)))))))
      refine zaq rfl (z8q (i := n) rfl rfl rfl rfl rfl rfl rfl (yKq nW h)) (zdq rfl rfl (zdq rfl rfl (zdq rfl rfl (zeq ?_))))
      refine zfq (zcq (zcq (zbq (zaq rfl rfl (zdq rfl rfl (zeq ?_))))))
      refine zfq (zQq rfl (zcq (zbq (zaq rfl rfl (zdq rfl rfl (zdq rfl rfl (zsq rfl rfl rfl rfl rfl rfl (shared_s _ _) ?_)))))))
      refine zaq rfl rfl (zEq rfl rfl ?_)
      refine zaq rfl rfl (zaq rfl rfl (zeq ?_))
      refine zfq (zjq ?_)
      refine zlq (by intro h; cases h) ?_
      refine znq (.inr rfl) rfl ?_
      simp only [T.ok, T.isFork, Bool.and_false]
      congr 3
      rw [decide_eq_decide]
      omega
  | fork tl tr ihL ihR =>
    intro n d b hr hd
    have hle := hr.le
    cases hr with
    | fork h hl hr hL hR =>
    rename_i n l r k v
    refine ynq (fn := Try.f60) rfl rfl rfl (Nat.le_of_ble_eq_true rfl) (fun R k0 => ?_)
    refine zcq (zbq (zdq rfl rfl (zdq rfl rfl (zaq rfl rfl (zaq rfl rfl (zeq ?_))))))
    refine zfq (zcq (zcq (zbq (zaq rfl rfl (zEq rfl rfl ?_)))))
    refine zeq ?_
    refine zfq ?_
    refine zHq rfl (fun h1 => ?_) (fun h1 => ?_)
    · exfalso; omega
    · refine ziq (zfq (zcq (zbq (zaq rfl rfl (zdq rfl rfl (zaq rfl rfl (zAq (n) rfl rfl (by first | rfl | omega) ⟨by omega, by omega⟩ ?_)))))))
      refine zaq rfl (z8q (i := n) rfl rfl rfl rfl rfl rfl rfl (yKq nW h)) (zdq rfl rfl (zdq rfl rfl (zdq rfl rfl (zeq ?_))))
      refine zfq (zcq (zcq (zbq (zaq rfl rfl (zdq rfl rfl (zeq ?_))))))
      refine zfq (zCq rfl (ziq (zfq (zcq (zcq (zbq (zaq rfl rfl (zEq rfl rfl ?_))))))))
      refine zeq ?_
      refine zfq ?_
      refine zHq rfl (fun h2 => ?_) (fun h2 => ?_)
      · refine zcq (zbq (zaq rfl rfl (zaq rfl rfl (zeq ?_))))
        refine zfq (zjq ?_)
        refine zlq (by intro h; cases h) ?_
        have e : T.ok d b (.fork tl tr) = false := by simp only [T.ok]; rw [decide_eq_false (by omega)]; rfl
        rw [e]
        exact znq (.inr rfl) rfl rfl
      · have hd' : d < 256 := by omega
        have nl := hL.non
        have nr := hR.non
        refine ziq (zfq (zcq (zbq (zdq rfl rfl (zaq rfl rfl (zsq rfl rfl rfl rfl rfl rfl (turn_in _ _ (by omega)) ?_))))))
        refine zaq rfl rfl (zaq rfl rfl (zaq rfl rfl (zdq rfl rfl (zdq rfl rfl (zaq rfl rfl (zeq ?_))))))
        refine zfq (zcq (zbq (zaq rfl rfl (zeq ?_))))
        refine zfq (zcq (zcq (zbq (zdq rfl rfl (zdq rfl rfl (zXq (w' := .arr 64 32 [dW b, dW (qgq b d)]) rfl rfl rfl (zaq rfl rfl (zeq ?_))))))))
        refine zfq (zmq ?_)
        refine ySq (α := Nat × Int × Bool) (fun p => (p.1 = 0 ∧ p.2.1 = 0 ∧ p.2.2 = false) ∨ (p.1 = 1 ∧ tl.ok (d + 1) b = true ∧ p.2.1 = nnI tl ∧ p.2.2 = tl.isFork) ∨ (p.1 = 2 ∧ tl.ok (d + 1) b = true ∧ tr.ok (d + 1) (qgq b d) = true ∧ p.2.1 = nnI tl + nnI tr ∧ p.2.2 = (tl.isFork || tr.isFork))) (fun p => [(46, .int .i64 (p.1 : Int)), (13, .int .i64 p.2.1), (9, .bool p.2.2)]) [(2, _), (4, _), (8, _), (10, _), (45, _)] (fun p => 2 - p.1) ((0, 0, false)) ⟨rfl, rfl, rfl, rfl, rfl, trivial⟩ (.inl ⟨rfl, rfl, rfl⟩) ⟨rfl, rfl, rfl, trivial⟩ (fun p hI => ?_)
        obtain ⟨i, c, w⟩ := p
        simp only at hI ⊢
        rcases hI with ⟨rfl, rfl, rfl⟩ | ⟨rfl, k1, rfl, rfl⟩ | ⟨rfl, k1, k2, rfl, rfl⟩
        · skip
          skip
          refine zcq (zbq (zEq rfl rfl ?_))
          refine zeq ?_
          refine zfq (zcq (zQq rfl (ziq (zfq (zcq (zmq (zcq (zbq (zaq rfl rfl (zaq rfl rfl (zdq rfl rfl (zaq rfl rfl (zdq rfl rfl (zeq ?_))))))))))))))
          refine zfq (zcq (zbq (zdq rfl rfl (zsq rfl rfl rfl rfl rfl rfl (jvq _) ?_))))
          refine zaq rfl rfl (zaq rfl rfl (zaq rfl rfl (zeq ?_)))
          refine zfq (zcq (zbq (zdq rfl rfl (zaq rfl rfl (zaq rfl rfl (zAq (d + 1) rfl rfl (by first | rfl | omega) ⟨by omega, by omega⟩ ?_))))))
          refine zdq rfl rfl (zsq rfl rfl rfl rfl rfl rfl (ihL _ (d + 1) b hL (by omega)) ?_)
          refine zaq rfl rfl (zaq rfl rfl (zaq rfl rfl (zaq rfl rfl (zaq rfl rfl (zeq ?_)))))
          refine zfq (zcq (zcq (zbq (zaq rfl rfl (zaq rfl rfl (zeq ?_))))))
          refine zfq ?_
          refine zHq rfl (fun h3 => ?_) (fun h3 => ?_)
          · refine zcq (zbq (zaq rfl rfl (zaq rfl rfl (zeq ?_))))
            refine zfq (zjq ?_)
            refine zlq (by intro h; cases h) ?_
            refine ztq (by intro i h; cases h) ?_
            refine zlq (by intro h; cases h) ?_
            refine ykq (by intro h; cases h) ?_
            refine ztq (by intro i h; cases h) ?_
            refine zlq (by intro h; cases h) ?_
            have e : T.ok d b (.fork tl tr) = false := by simp only [T.ok]; rw [show tl.ok (d + 1) b = false by simpa using h3]; simp
            rw [e]
            exact znq (.inr rfl) rfl rfl
          · have hk : tl.ok (d + 1) b = true := by simpa using h3
            refine ziq (zfq (zcq (zcq (zbq (zaq rfl rfl (zEq rfl rfl ?_))))))
            refine zeq ?_
            refine zfq ?_
            refine zHq rfl (fun h4 => ?_) (fun h4 => ?_)
            · have hn : nnI tl = 1 := by have h4 : (0 : Int) < l := h4; unfold nnI; rw [nl, if_pos (decide_eq_true (by omega))]
              refine zbq (zaq rfl rfl ?_)
              first | refine unq rfl rfl ⟨by omega, by omega⟩ ?_ | refine zaq rfl rfl ?_
              refine zaq rfl rfl (zeq ?_)
              refine zfq (zbq (zaq rfl rfl (zaq rfl rfl (zaq rfl rfl (zaq rfl rfl (zaq rfl rfl (zeq ?_)))))))
              refine ztq (by intro i h; cases h) ?_
              refine zfq (zbq (zAq (1) rfl rfl (by first | rfl | omega) ⟨by omega, by omega⟩ ?_))
              refine zaq rfl rfl (zeq ?_)
              exact yjq ((1, 1, tl.ok (d + 1) b && tl.isFork)) (.inr (.inl ⟨rfl, hk, hn.symm, by rw [hk]; rfl⟩)) (by simp) ⟨rfl, rfl, rfl, trivial⟩ ⟨rfl, rfl, rfl, rfl, rfl, trivial⟩ (by repeat (first | exact trivial | refine ⟨by first | rfl | exact zyq (by first | rfl | (simp; done)), ?_⟩)) (by omega) (by repeat (first | exact zMq | refine zPq (by omega) ?_ | refine zNq (by omega) ?_ | refine zOq (by omega) ?_)) rfl
            · have hn : nnI tl = 0 := by have h4 : ¬ (0 : Int) < l := h4; unfold nnI; rw [nl, if_neg (by simp; omega)]
              refine ziq (zfq (zbq (zaq rfl rfl (zaq rfl rfl (zaq rfl rfl (zaq rfl rfl (zaq rfl rfl (zeq ?_))))))))
              refine ztq (by intro i h; cases h) ?_
              refine zfq (zbq (zAq (1) rfl rfl (by first | rfl | omega) ⟨by omega, by omega⟩ ?_))
              refine zaq rfl rfl (zeq ?_)
              exact yjq ((1, 0, tl.ok (d + 1) b && tl.isFork)) (.inr (.inl ⟨rfl, hk, hn.symm, by rw [hk]; rfl⟩)) (by simp) ⟨rfl, rfl, rfl, trivial⟩ ⟨rfl, rfl, rfl, rfl, rfl, trivial⟩ (by repeat (first | exact trivial | refine ⟨by first | rfl | exact zyq (by first | rfl | (simp; done)), ?_⟩)) (by omega) (by repeat (first | exact zMq | refine zPq (by omega) ?_ | refine zNq (by omega) ?_ | refine zOq (by omega) ?_)) rfl
        · skip
          have bd : nnI tl = 0 ∨ nnI tl = 1 := by unfold nnI; split <;> simp
          cases hf : tl.isFork with
          | true =>
            skip
            refine zcq (zbq (zEq rfl rfl ?_))
            refine zeq ?_
            refine zfq (zcq (zQq rfl (ziq (zfq (zcq (zmq (zcq (zbq (zaq rfl rfl (zaq rfl rfl (zdq rfl rfl (zaq rfl rfl (zdq rfl rfl (zeq ?_))))))))))))))
            refine zfq (zcq (zbq (zdq rfl rfl (zsq rfl rfl rfl rfl rfl rfl (jvq _) ?_))))
            refine zaq rfl rfl (zaq rfl rfl (zaq rfl rfl (zeq ?_)))
            refine zfq (zcq (zbq (zdq rfl rfl (zaq rfl rfl (zaq rfl rfl (zAq (d + 1) rfl rfl (by first | rfl | omega) ⟨by omega, by omega⟩ ?_))))))
            refine zdq rfl rfl (zsq rfl rfl rfl rfl rfl rfl (ihR _ (d + 1) (qgq b d) hR (by omega)) ?_)
            refine zaq rfl rfl (zaq rfl rfl (zaq rfl rfl (zaq rfl rfl (zaq rfl rfl (zeq ?_)))))
            refine zfq (zcq (zcq (zbq (zaq rfl rfl (zaq rfl rfl (zeq ?_))))))
            refine zfq ?_
            refine zHq rfl (fun h3 => ?_) (fun h3 => ?_)
            · refine zcq (zbq (zaq rfl rfl (zaq rfl rfl (zeq ?_))))
              refine zfq (zjq ?_)
              refine zlq (by intro h; cases h) ?_
              refine ztq (by intro i h; cases h) ?_
              refine zlq (by intro h; cases h) ?_
              refine ykq (by intro h; cases h) ?_
              refine ztq (by intro i h; cases h) ?_
              refine zlq (by intro h; cases h) ?_
              have e : T.ok d b (.fork tl tr) = false := by simp only [T.ok]; rw [show tr.ok (d + 1) (qgq b d) = false by simpa using h3]; simp
              rw [e]
              exact znq (.inr rfl) rfl rfl
            · have hk : tr.ok (d + 1) (qgq b d) = true := by simpa using h3
              refine ziq (zfq (zcq (zcq (zbq (zaq rfl rfl (zEq rfl rfl ?_))))))
              refine zeq ?_
              refine zfq ?_
              refine zHq rfl (fun h4 => ?_) (fun h4 => ?_)
              · have hn : nnI tr = 1 := by have h4 : (0 : Int) < r := h4; unfold nnI; rw [nr, if_pos (decide_eq_true (by omega))]
                refine zbq (zaq rfl rfl ?_)
                first | refine unq rfl rfl ⟨by omega, by omega⟩ ?_ | refine zaq rfl rfl ?_
                refine zaq rfl rfl (zeq ?_)
                refine zfq (zbq (zaq rfl rfl (zaq rfl rfl (zgq rfl (zaq rfl rfl (zaq rfl rfl (zeq ?_)))))))
                refine ztq (by intro i h; cases h) ?_
                refine zfq (zbq (zAq (2) rfl rfl (by first | rfl | omega) ⟨by omega, by omega⟩ ?_))
                refine zaq rfl rfl (zeq ?_)
                exact yjq ((2, nnI tl + 1, true)) (.inr (.inr ⟨rfl, k1, hk, by simp only [hn], rfl⟩)) (by simp) ⟨rfl, rfl, rfl, trivial⟩ ⟨rfl, rfl, rfl, rfl, rfl, trivial⟩ (by repeat (first | exact trivial | refine ⟨by first | rfl | exact zyq (by first | rfl | (simp; done)), ?_⟩)) (by omega) (by repeat (first | exact zMq | refine zPq (by omega) ?_ | refine zNq (by omega) ?_ | refine zOq (by omega) ?_)) rfl
              · have hn : nnI tr = 0 := by have h4 : ¬ (0 : Int) < r := h4; unfold nnI; rw [nr, if_neg (by simp; omega)]
                refine ziq (zfq (zbq (zaq rfl rfl (zaq rfl rfl (zgq rfl (zaq rfl rfl (zaq rfl rfl (zeq ?_))))))))
                refine ztq (by intro i h; cases h) ?_
                refine zfq (zbq (zAq (2) rfl rfl (by first | rfl | omega) ⟨by omega, by omega⟩ ?_))
                refine zaq rfl rfl (zeq ?_)
                exact yjq ((2, nnI tl, true)) (.inr (.inr ⟨rfl, k1, hk, by simp only [hn, Int.add_zero], rfl⟩)) (by simp) ⟨rfl, rfl, rfl, trivial⟩ ⟨rfl, rfl, rfl, rfl, rfl, trivial⟩ (by repeat (first | exact trivial | refine ⟨by first | rfl | exact zyq (by first | rfl | (simp; done)), ?_⟩)) (by omega) (by repeat (first | exact zMq | refine zPq (by omega) ?_ | refine zNq (by omega) ?_ | refine zOq (by omega) ?_)) rfl
          | false =>
            skip
            refine zcq (zbq (zEq rfl rfl ?_))
            refine zeq ?_
            refine zfq (zcq (zQq rfl (ziq (zfq (zcq (zmq (zcq (zbq (zaq rfl rfl (zaq rfl rfl (zdq rfl rfl (zaq rfl rfl (zdq rfl rfl (zeq ?_))))))))))))))
            refine zfq (zcq (zbq (zdq rfl rfl (zsq rfl rfl rfl rfl rfl rfl (jvq _) ?_))))
            refine zaq rfl rfl (zaq rfl rfl (zaq rfl rfl (zeq ?_)))
            refine zfq (zcq (zbq (zdq rfl rfl (zaq rfl rfl (zaq rfl rfl (zAq (d + 1) rfl rfl (by first | rfl | omega) ⟨by omega, by omega⟩ ?_))))))
            refine zdq rfl rfl (zsq rfl rfl rfl rfl rfl rfl (ihR _ (d + 1) (qgq b d) hR (by omega)) ?_)
            refine zaq rfl rfl (zaq rfl rfl (zaq rfl rfl (zaq rfl rfl (zaq rfl rfl (zeq ?_)))))
            refine zfq (zcq (zcq (zbq (zaq rfl rfl (zaq rfl rfl (zeq ?_))))))
            refine zfq ?_
            refine zHq rfl (fun h3 => ?_) (fun h3 => ?_)
            · refine zcq (zbq (zaq rfl rfl (zaq rfl rfl (zeq ?_))))
              refine zfq (zjq ?_)
              refine zlq (by intro h; cases h) ?_
              refine ztq (by intro i h; cases h) ?_
              refine zlq (by intro h; cases h) ?_
              refine ykq (by intro h; cases h) ?_
              refine ztq (by intro i h; cases h) ?_
              refine zlq (by intro h; cases h) ?_
              have e : T.ok d b (.fork tl tr) = false := by simp only [T.ok]; rw [show tr.ok (d + 1) (qgq b d) = false by simpa using h3]; simp
              rw [e]
              exact znq (.inr rfl) rfl rfl
            · have hk : tr.ok (d + 1) (qgq b d) = true := by simpa using h3
              refine ziq (zfq (zcq (zcq (zbq (zaq rfl rfl (zEq rfl rfl ?_))))))
              refine zeq ?_
              refine zfq ?_
              refine zHq rfl (fun h4 => ?_) (fun h4 => ?_)
              · have hn : nnI tr = 1 := by have h4 : (0 : Int) < r := h4; unfold nnI; rw [nr, if_pos (decide_eq_true (by omega))]
                refine zbq (zaq rfl rfl ?_)
                first | refine unq rfl rfl ⟨by omega, by omega⟩ ?_ | refine zaq rfl rfl ?_
                refine zaq rfl rfl (zeq ?_)
                refine zfq (zbq (zaq rfl rfl (zaq rfl rfl (zaq rfl rfl (zaq rfl rfl (zaq rfl rfl (zeq ?_)))))))
                refine ztq (by intro i h; cases h) ?_
                refine zfq (zbq (zAq (2) rfl rfl (by first | rfl | omega) ⟨by omega, by omega⟩ ?_))
                refine zaq rfl rfl (zeq ?_)
                exact yjq ((2, nnI tl + 1, tr.ok (d + 1) (qgq b d) && tr.isFork)) (.inr (.inr ⟨rfl, k1, hk, by simp only [hn], by simp [hk]⟩)) (by simp) ⟨rfl, rfl, rfl, trivial⟩ ⟨rfl, rfl, rfl, rfl, rfl, trivial⟩ (by repeat (first | exact trivial | refine ⟨by first | rfl | exact zyq (by first | rfl | (simp; done)), ?_⟩)) (by omega) (by repeat (first | exact zMq | refine zPq (by omega) ?_ | refine zNq (by omega) ?_ | refine zOq (by omega) ?_)) rfl
              · have hn : nnI tr = 0 := by have h4 : ¬ (0 : Int) < r := h4; unfold nnI; rw [nr, if_neg (by simp; omega)]
                refine ziq (zfq (zbq (zaq rfl rfl (zaq rfl rfl (zaq rfl rfl (zaq rfl rfl (zaq rfl rfl (zeq ?_))))))))
                refine ztq (by intro i h; cases h) ?_
                refine zfq (zbq (zAq (2) rfl rfl (by first | rfl | omega) ⟨by omega, by omega⟩ ?_))
                refine zaq rfl rfl (zeq ?_)
                exact yjq ((2, nnI tl, tr.ok (d + 1) (qgq b d) && tr.isFork)) (.inr (.inr ⟨rfl, k1, hk, by simp only [hn, Int.add_zero], by simp [hk]⟩)) (by simp) ⟨rfl, rfl, rfl, trivial⟩ ⟨rfl, rfl, rfl, rfl, rfl, trivial⟩ (by repeat (first | exact trivial | refine ⟨by first | rfl | exact zyq (by first | rfl | (simp; done)), ?_⟩)) (by omega) (by repeat (first | exact zMq | refine zPq (by omega) ?_ | refine zNq (by omega) ?_ | refine zOq (by omega) ?_)) rfl
        · have e : T.ok d b (.fork tl tr) = T.two tl tr := by simp only [T.ok]; rw [decide_eq_true hd', k1, k2]; rfl
          have e2 : (T.fork tl tr).isFork = true := rfl
          rw [e, e2, Bool.and_true]
          have e3 : T.two tl tr = ((tl.isFork || tr.isFork) || decide (nnI tl + nnI tr = 2)) := by
            unfold T.two nnI
            congr 1
            cases tl.non <;> cases tr.non <;> rfl
          rw [e3]
          cases hw : (tl.isFork || tr.isFork) with
          | true =>
            skip
            refine zcq (zbq (zEq rfl rfl ?_))
            refine zeq ?_
            refine zfq (zcq (zCq rfl (ytq ?_)))
            refine zlq (by intro h; cases h) ?_
            refine ykq (by intro h; cases h) ?_
            refine qpq (zfq (zcq (zbq (zaq rfl rfl (zaq rfl rfl (zgq rfl (zgq rfl (zaq rfl rfl (zaq rfl rfl (zeq ?_))))))))))
            refine zfq (zcq (zbq (zaq rfl rfl (zaq rfl rfl (zaq rfl rfl (zaq rfl rfl (zeq ?_)))))))
            refine zfq (zjq ?_)
            exact znq (.inr rfl) rfl rfl
          | false =>
            skip
            refine zcq (zbq (zEq rfl rfl ?_))
            refine zeq ?_
            refine zfq (zcq (zCq rfl (ytq ?_)))
            refine zlq (by intro h; cases h) ?_
            refine ykq (by intro h; cases h) ?_
            refine qpq (zfq (zcq (zbq (zaq rfl rfl (zaq rfl rfl (zaq rfl rfl (zEq rfl rfl ?_)))))))
            refine zaq rfl rfl (zaq rfl rfl (zeq ?_))
            refine zfq (zcq (zbq (zaq rfl rfl (zaq rfl rfl (zaq rfl rfl (zaq rfl rfl (zeq ?_)))))))
            refine zfq (zjq ?_)
            exact znq (.inr rfl) rfl (by simp)
end Go.Proofs.Ytgeelfdgnehdnaa
namespace Go.Proofs.Ytgeelfdgnehdnaa
open Go.RowKit
set_option linter.unusedSimpArgs false
set_option linter.unusedVariables false
attribute [local irreducible] CoW OpW FlW Step Spec
variable {G : Nat → Option W}
theorem half_pow (x : Nat) {j : Nat} (h1 : 1 ≤ j) (h2 : j ≤ 7) : x / 2 ^ (7 - j) / 2 = x / 2 ^ (7 - (j - 1)) := by
  rw [Nat.div_div_eq_div_mul, ← Nat.pow_succ, show (7 - j).succ = 7 - (j - 1) by omega]
theorem rat_s (k : Dig) (i : Nat) (h : i < 256) : PS cfg G 85 [dW k, .int .i64 (i : Int)] (.int .u8 (bitN k i : Nat)) := by
  have hk := xrq k (i / 8)
  refine ynq (fn := Try.f85) rfl rfl rfl (Nat.le_of_ble_eq_true rfl) (fun R k0 => ?_)
  refine zcq (zbq (zdq rfl rfl (zaq rfl rfl (zeq ?_))))
  refine zfq (zcq (zbq (zaq rfl rfl (zAq (i / 8) rfl rfl (j6q i 8) ⟨by omega, by omega⟩ ?_))))
  refine zaq rfl (z1q (i := i / 8) rfl rfl rfl rfl rfl rfl (by omega)) ?_
  refine zdq rfl (y1q rfl rfl rfl (dW_ld k (by omega))) ?_
  refine zaq rfl rfl (zeq ?_)
  refine zfq (zcq (zcq (zbq (zaq rfl rfl (zeq ?_)))))
  refine zfq (zmq ?_)
  refine ySq (α := Nat × Nat) (fun p => p.1 ≤ 7 ∧ i % 8 ≤ p.1 ∧ p.2 = kn k (i / 8) / 2 ^ (7 - p.1) ∧ p.2 ≤ 255) (fun p => [(6, .int .i64 (p.1 : Int)), (5, .int .u8 (p.2 : Nat))]) [(1, _), (4, _)] (fun p => p.1) ((7, kn k (i / 8))) ⟨rfl, rfl, trivial⟩ (⟨Nat.le_refl _, by show i % 8 ≤ 7; omega, by simp, hk⟩) ⟨rfl, rfl, trivial⟩ (fun p hI => ?_)
  obtain ⟨j, c⟩ := p
  obtain ⟨g1, g2, g3, g4⟩ := hI
  simp only at g1 g2 g3 g4 ⊢
  refine zcq (zcq (zbq (zaq rfl rfl (zaq rfl rfl (zXq rfl rfl (congrArg (W.int .i64) (kXq i 8)) (zEq rfl rfl ?_))))))
  refine zeq ?_
  refine zfq ?_
  refine zHq rfl (fun h1 => ?_) (fun h1 => ?_)
  · have hj : i % 8 < j := by omega
    refine ziq (zfq (zcq (zmq (zbq (zaq rfl rfl (zAq (c / 2) rfl rfl (j6q c 2) ⟨by omega, by omega⟩ ?_))))))
    refine zaq rfl rfl (zeq ?_)
    refine ztq (by intro i h; cases h) ?_
    refine zfq (zbq (zaq rfl rfl (zAq (j - 1) rfl rfl (by first | rfl | omega) ⟨by omega, by omega⟩ ?_)))
    refine zaq rfl rfl (zeq ?_)
    exact yjq ((j - 1, c / 2)) (⟨by simp only; omega, by simp only; omega, by simp only [g3]; exact half_pow _ (by omega) g1, by simp only; omega⟩) (by simp only; omega) ⟨rfl, rfl, trivial⟩ ⟨rfl, rfl, trivial⟩ (by repeat (first | exact trivial | refine ⟨by first | rfl | exact zyq (by first | rfl | (simp; done)), ?_⟩)) (by omega) (by repeat (first | exact zMq | refine zPq (by omega) ?_ | refine zNq (by omega) ?_ | refine zOq (by omega) ?_)) rfl
  · have hj : i % 8 = j := by omega
    refine ytq ?_
    refine zlq (by intro h; cases h) ?_
    refine ykq (by intro h; cases h) ?_
    refine qpq (zfq (zcq (zbq (zaq rfl rfl (zXq (w' := .int .u8 ((c % 2 : Nat) : Int)) rfl rfl (congrArg (W.int .u8) (kXq c 2)) (zaq rfl rfl (zeq ?_)))))))
    refine zfq (zjq ?_)
    refine znq (.inr rfl) rfl ?_
    rw [g3, ← hj]
    unfold bitN
    rfl
theorem rshared_s (a b : Dig) : PS cfg G 69 [dW a, dW b] (.int .i64 (yfq a b : Nat)) := by
  refine ynq (fn := Try.f69) rfl rfl rfl (Nat.le_of_ble_eq_true rfl) (fun R k0 => ?_)
  refine zcq (zbq (zdq rfl rfl (zdq rfl rfl (zaq rfl rfl (zeq ?_)))))
  refine zfq (zcq (zbq (zaq rfl rfl (zeq ?_))))
  refine zfq (zcq (zmq ?_))
  refine ySq (α := Nat) (fun n => n ≤ 256 ∧ ∀ j, j < n → bitN a j = bitN b j) (fun n => [(5, .int .i64 (n : Int))]) [(2, _), (3, _), (4, _)] (fun n => 256 - n) (0) ⟨rfl, rfl, rfl, trivial⟩ (⟨Nat.zero_le _, fun j h => by omega⟩) ⟨rfl, trivial⟩ (fun n hI => ?_)
  obtain ⟨g1, g2⟩ := hI
  refine zcq (zcq (z0q (zhq rfl rfl ?_)))
  refine fl_dz rfl rfl (fun h1 => ?_) (fun h1 => ?_)
  · have hn : n < 256 := by omega
    refine zhq rfl rfl (zGq rfl rfl ?_)
    refine zhq rfl rfl ?_
    refine qKq rfl rfl rfl rfl rfl rfl (rat_s _ _ (by omega)) ?_
    refine zGq rfl rfl ?_
    refine zhq rfl rfl ?_
    refine qKq rfl rfl rfl rfl rfl rfl (rat_s _ _ (by omega)) ?_
    refine fl_cz rfl rfl ?_
    refine zhq rfl rfl (z9q ?_)
    refine zfq ?_
    refine zHq rfl (fun h2 => ?_) (fun h2 => ?_)
    · refine ziq (zfq (zmq (zbq (zaq rfl rfl (zAq (n + 1) rfl rfl (by first | rfl | omega) ⟨by omega, by omega⟩ ?_)))))
      refine zaq rfl rfl (zeq ?_)
      refine ztq (by intro i h; cases h) ?_
      exact yjq (n + 1) (⟨hn, fun j hj => by rcases Nat.lt_succ_iff_lt_or_eq.1 hj with q | rfl; exact g2 j q; omega⟩) (by omega) ⟨rfl, trivial⟩ ⟨rfl, rfl, rfl, trivial⟩ (by repeat (first | exact trivial | refine ⟨by first | rfl | exact zyq (by first | rfl | (simp; done)), ?_⟩)) (by omega) (by repeat (first | exact zMq | refine zPq (by omega) ?_ | refine zNq (by omega) ?_ | refine zOq (by omega) ?_)) rfl
    · refine ytq ?_
      refine zlq (by intro h; cases h) ?_
      refine ykq (by intro h; cases h) ?_
      refine qpq (zfq (zcq (zbq (zaq rfl rfl (zaq rfl rfl (zeq ?_))))))
      refine zfq (zjq ?_)
      refine znq (.inr rfl) rfl ?_
      rw [xgq (jtq a b) (t := n) ⟨g2, .inr ⟨hn, by omega⟩⟩]
  · have hn : n = 256 := by omega
    refine zhq rfl rfl (zSq rfl (zSq rfl (zSq rfl (zSq rfl (zSq rfl (zSq rfl (zSq rfl (zhq rfl rfl (z9q ?_)))))))))
    refine zfq (zCq rfl (ytq ?_))
    refine zlq (by intro h; cases h) ?_
    refine ykq (by intro h; cases h) ?_
    refine qpq (zfq (zcq (zbq (zaq rfl rfl (zaq rfl rfl (zeq ?_))))))
    refine zfq (zjq ?_)
    refine znq (.inr rfl) rfl ?_
    rw [xgq (jtq a b) (t := n) ⟨g2, .inl hn⟩]
theorem rahead_s (a b : Dig) : PS cfg G 83 [dW a, dW b] (.bool (yrq a b)) := by
  refine ynq (fn := Try.f83) rfl rfl rfl (Nat.le_of_ble_eq_true rfl) (fun R k0 => ?_)
  refine zcq (zbq (zdq rfl rfl (zdq rfl rfl (zaq rfl rfl (zeq ?_)))))
  refine zfq (zcq (zbq (zdq rfl rfl (zdq rfl rfl (zsq rfl rfl rfl rfl rfl rfl (rshared_s _ _) ?_)))))
  refine zaq rfl rfl (zeq ?_)
  refine zfq (zcq (z0q (zhq rfl rfl ?_)))
  refine fl_dz rfl rfl (fun h1 => ?_) (fun h1 => ?_)
  · have hn : yfq a b < 256 := by omega
    refine zhq rfl rfl (zGq rfl rfl ?_)
    refine zhq rfl rfl ?_
    refine qKq rfl rfl rfl rfl rfl rfl (rat_s _ _ (by omega)) ?_
    refine zGq rfl rfl ?_
    refine zhq rfl rfl ?_
    refine qKq rfl rfl rfl rfl rfl rfl (rat_s _ _ (by omega)) ?_
    refine fl_cz rfl rfl ?_
    refine zhq rfl rfl (zhq rfl rfl (z9q ?_))
    refine zfq (zjq ?_)
    refine znq (.inr rfl) rfl ?_
    rw [YTq]
    exact congrArg W.bool (decide_eq_decide.2 (by omega))
  · refine zhq rfl rfl (zSq rfl (zSq rfl (zSq rfl (zSq rfl (zSq rfl (zSq rfl (zSq rfl (zhq rfl rfl (zhq rfl rfl (z9q ?_))))))))))
    refine zfq (zjq ?_)
    refine znq (.inr rfl) rfl ?_
    rw [YTq, decide_eq_false (show ¬ (yfq a b < 256 ∧ bitN a (yfq a b) < bitN b (yfq a b)) by omega)]
theorem xor_sub : ∀ x, x < 256 → ∀ e, e < 8 → x / 2 ^ e % 2 = 1 → 2 ^ e ≤ x ∧ x ^^^ 2 ^ e = x - 2 ^ e := by decide +kernel
theorem xor_add : ∀ x, x < 256 → ∀ e, e < 8 → ¬ x / 2 ^ e % 2 = 1 → x + 2 ^ e < 256 ∧ x ^^^ 2 ^ e = x + 2 ^ e := by decide +kernel
theorem rturn_in (k : Dig) (i : Nat) (h : i < 256) : PS cfg G 70 [dW k, .int .i64 (i : Int)] (.tup [dW (qgq k i), .int .i64 0]) := by
  have hk := xrq k (i / 8)
  refine ynq (fn := Try.f70) rfl rfl rfl (Nat.le_of_ble_eq_true rfl) (fun R k0 => ?_)
  refine zcq (zbq (zdq rfl rfl (zdq rfl rfl (zaq rfl rfl (zeq ?_)))))
  refine zfq (zcq (zcq (zbq (zaq rfl rfl ?_))))
  refine yYq rfl rfl (fun h1 => ?_) (fun h1 => ?_)
  · exfalso; omega
  refine zaq rfl rfl (zaq rfl rfl (zEq rfl rfl ?_))
  refine zaq rfl rfl (zeq ?_)
  refine zfq ?_
  refine zHq rfl (fun h2 => ?_) (fun h2 => ?_)
  · exfalso; omega
  refine ziq (zfq (zcq (zbq (zaq rfl rfl (zeq ?_)))))
  refine zfq (zcq (zcq (zbq (zaq rfl rfl (zeq ?_)))))
  refine zfq (zmq ?_)
  refine ySq (α := Nat × Nat) (fun p => p.1 ≤ 7 ∧ i % 8 ≤ p.1 ∧ p.2 = 2 ^ (7 - p.1)) (fun p => [(7, .int .i64 (p.1 : Int)), (6, .int .u8 (p.2 : Nat))]) [(1, _), (2, _), (4, _), (5, _)] (fun p => p.1) ((7, 1)) ⟨rfl, rfl, rfl, rfl, trivial⟩ (⟨Nat.le_refl _, by show i % 8 ≤ 7; omega, rfl⟩) ⟨rfl, rfl, trivial⟩ (fun p hI => ?_)
  obtain ⟨j, c⟩ := p
  obtain ⟨g1, g2, g3⟩ := hI
  simp only at g1 g2 g3 ⊢
  refine zcq (zcq (zbq (zaq rfl rfl (zaq rfl rfl (zXq rfl rfl (congrArg (W.int .i64) (kXq i 8)) (zEq rfl rfl ?_))))))
  refine zeq ?_
  refine zfq ?_
  refine zHq rfl (fun h3 => ?_) (fun h3 => ?_)
  · have hj : i % 8 < j := by omega
    have hc : 2 * c ≤ 255 := by
      have := pow_le (j - 1)
      rw [show 7 - (j - 1) = 7 - j + 1 by omega, Nat.pow_succ] at this
      omega
    refine ziq (zfq (zcq (zmq (zbq (zaq rfl rfl (zAq (2 * c) rfl rfl (by first | rfl | omega) ⟨by omega, by omega⟩ ?_))))))
    refine zaq rfl rfl (zeq ?_)
    refine ztq (by intro i h; cases h) ?_
    refine zfq (zbq (zaq rfl rfl (zAq (j - 1) rfl rfl (by first | rfl | omega) ⟨by omega, by omega⟩ ?_)))
    refine zaq rfl rfl (zeq ?_)
    exact yjq ((j - 1, 2 * c)) (⟨by simp only; omega, by simp only; omega, by simp only [g3]; rw [show 7 - (j - 1) = 7 - j + 1 by omega, Nat.pow_succ, Nat.mul_comm]⟩) (by simp only; omega) ⟨rfl, rfl, trivial⟩ ⟨rfl, rfl, rfl, rfl, trivial⟩ (by repeat (first | exact trivial | refine ⟨by first | rfl | exact zyq (by first | rfl | (simp; done)), ?_⟩)) (by omega) (by repeat (first | exact zMq | refine zPq (by omega) ?_ | refine zNq (by omega) ?_ | refine zOq (by omega) ?_)) rfl
  · have hj : i % 8 = j := by omega
    subst hj
    refine ytq ?_
    refine zlq (by intro h; cases h) ?_
    refine ykq (by intro h; cases h) ?_
    refine qpq (zfq (zcq (zcq (zbq (zdq rfl rfl (zaq rfl rfl (zsq rfl rfl rfl rfl rfl rfl (rat_s _ _ (by omega)) ?_)))))))
    refine zEq rfl rfl ?_
    refine zeq ?_
    refine zfq ?_
    refine zHq rfl (fun h4 => ?_) (fun h4 => ?_)
    · have hb : kn k (i / 8) / 2 ^ (7 - i % 8) % 2 = 1 := by
        have h4 : ((bitN k i : Nat) : Int) = 1 := h4
        unfold bitN at h4
        omega
      obtain ⟨q1, q2⟩ := xor_sub _ (by omega) _ (by omega) hb
      refine zbq (zaq rfl rfl (zAq (i / 8) rfl rfl (j6q i 8) ⟨by omega, by omega⟩ ?_))
      refine zaq rfl (z1q (i := i / 8) rfl rfl rfl rfl rfl rfl (by omega)) ?_
      refine zdq rfl (y1q rfl rfl rfl (dW_ld k (by omega))) ?_
      refine zaq rfl rfl (zAq (kn k (i / 8) - c) rfl rfl (by first | rfl | omega) ⟨by omega, by omega⟩ ?_)
      refine zaq rfl (z1q (i := i / 8) rfl rfl rfl rfl rfl rfl (by omega)) ?_
      refine zdq rfl (uJq rfl rfl rfl rfl rfl (kZq (i := 0 + i / 8 * 1) (by rw [Nat.zero_add, Nat.mul_one]; exact dW_at k (by omega)) rfl rfl) rfl) ?_
      refine zeq ?_
      refine zfq (zcq (zbq (zdq rfl rfl (zdq rfl rfl (zaq rfl rfl (zeq ?_))))))
      refine zfq (zjq ?_)
      refine znq (.inr rfl) rfl ?_
      rw [Nat.zero_add, Nat.mul_one, dW_set k (i / 8) (by omega), g3, ← q2]
      unfold qgq
      rfl
    · have hb : ¬ kn k (i / 8) / 2 ^ (7 - i % 8) % 2 = 1 := by
        have h4 : ¬ ((bitN k i : Nat) : Int) = 1 := h4
        unfold bitN at h4
        omega
      obtain ⟨q1, q2⟩ := xor_add _ (by omega) _ (by omega) hb
      refine zbq (zaq rfl rfl (zAq (i / 8) rfl rfl (j6q i 8) ⟨by omega, by omega⟩ ?_))
      refine zaq rfl (z1q (i := i / 8) rfl rfl rfl rfl rfl rfl (by omega)) ?_
      refine zdq rfl (y1q rfl rfl rfl (dW_ld k (by omega))) ?_
      refine zaq rfl rfl (zAq (kn k (i / 8) + c) rfl rfl (by first | rfl | omega) ⟨by omega, by omega⟩ ?_)
      refine zaq rfl (z1q (i := i / 8) rfl rfl rfl rfl rfl rfl (by omega)) ?_
      refine zdq rfl (uJq rfl rfl rfl rfl rfl (kZq (i := 0 + i / 8 * 1) (by rw [Nat.zero_add, Nat.mul_one]; exact dW_at k (by omega)) rfl rfl) rfl) ?_
      refine zeq ?_
      refine zfq (zcq (zbq (zdq rfl rfl (zdq rfl rfl (zaq rfl rfl (zeq ?_))))))
      refine zfq (zjq ?_)
      refine znq (.inr rfl) rfl ?_
      rw [Nat.zero_add, Nat.mul_one, dW_set k (i / 8) (by omega), g3, ← q2]
      unfold qgq
      rfl
theorem rvalue_s (l : List UInt8) (f : Bool) : PS cfg G 68 [.fz (zDq l) 1 f] (.bool (valB l)) := by
  have e := yqq l
  refine ynq (fn := Try.f68) rfl rfl rfl (Nat.le_of_ble_eq_true rfl) (fun R k0 => ?_)
  refine zcq (zbq (zaq rfl rfl (zeq ?_)))
  refine zfq (zcq (zbq (zaq rfl rfl (zXq (w' := .int .i64 (l.length : Int)) rfl rfl (by rw [← e]; rfl) ?_))))
  refine yYq rfl rfl (fun h1 => ?_) (fun h1 => ?_)
  · have h0 : 0 < l.length := by omega
    refine zaq rfl rfl (zaq rfl rfl (zXq (w' := .int .i64 (l.length : Int)) rfl rfl (by rw [← e]; rfl) ?_))
    refine zEq rfl rfl ?_
    refine zaq rfl rfl (zaq rfl rfl (zeq ?_))
    refine zfq (zjq ?_)
    refine znq (.inr rfl) rfl ?_
    unfold valB
    rw [decide_eq_true h0, Bool.true_and]
    exact congrArg W.bool (decide_eq_decide.2 (by omega))
  · have h0 : ¬ 0 < l.length := by omega
    refine zaq rfl rfl (zgq rfl (zgq rfl (zgq rfl (zaq rfl rfl (zaq rfl rfl (zeq ?_))))))
    refine zfq (zjq ?_)
    refine znq (.inr rfl) rfl ?_
    unfold valB
    rw [decide_eq_false h0, Bool.false_and]
end Go.Proofs.Ytgeelfdgnehdnaa
namespace Go.Proofs.Ytgeelfdgnehdnaa
open Go.RowKit
set_option linter.unusedSimpArgs false
set_option linter.unusedVariables false
attribute [local irreducible] CoW OpW FlW Step Spec
variable {G : Nat → Option W}
def okN (ns : List Node) : Prop := ∀ i x, ns[i]? = some x → oneB x i
theorem rep_of {ns : List Node} (h : okN ns) : ∀ n, n ≤ ns.length → ∃ t, Rep ns n t := by
  intro n
  induction n using Nat.strongRecOn with
  | _ n ih =>
    intro hn
    cases n with
    | zero => exact ⟨_, .nil⟩
    | succ n =>
      obtain ⟨x, hx⟩ : ∃ x, ns[n]? = some x := ⟨_, List.getElem?_eq_getElem hn⟩
      have h1 := h n x hx
      obtain ⟨lf, k, v, l, r⟩ := x
      cases lf with
      | true => exact ⟨_, .leaf hx⟩
      | false =>
        simp only [oneB, Bool.false_eq_true, if_false] at h1
        obtain ⟨⟨a1, a2⟩, ⟨b1, b2⟩, _⟩ := h1
        obtain ⟨l, rfl⟩ := Int.eq_ofNat_of_zero_le a1
        obtain ⟨r, rfl⟩ := Int.eq_ofNat_of_zero_le b1
        obtain ⟨L, hL⟩ := ih l (by omega) (by omega)
        obtain ⟨R, hR⟩ := ih r (by omega) (by omega)
        exact ⟨_, .fork hx (by omega) (by omega) hL hR⟩
theorem Rep.uniq {ns : List Node} {n : Nat} {t : T} (h : Rep ns n t) : ∀ {t' : T}, Rep ns n t' → t = t' := by
  induction h with
  | nil => intro t' h'; cases h'; rfl
  | leaf h =>
    intro t' h'
    cases h' with
    | leaf h2 => rw [h] at h2; cases h2; rfl
    | fork h2 => rw [h] at h2; cases h2
  | fork h hl hr _ _ i1 i2 =>
    intro t' h'
    cases h' with
    | leaf h2 => rw [h] at h2; cases h2
    | fork h2 _ _ hL hR =>
      rw [h] at h2
      simp only [Option.some.injEq, Node.mk.injEq, Int.natCast_inj, true_and] at h2
      obtain ⟨_, _, rfl, rfl⟩ := h2
      rw [i1 hL, i2 hR]
def MayT (t : Tree) : Prop := t.nodes.length ≤ 262144 ∧ okN t.nodes ∧ ∃ (n : Nat) (t0 : T), t.root = n ∧ Rep t.nodes n t0 ∧ t0.ok 0 qSq = true
noncomputable instance (t : Tree) : Decidable (MayT t) := Classical.propDecidable _
theorem qoq (t : Tree) (hb : t.nodes.length ≤ 4611686018427387903) : PS cfg G 33 [tW t] (.int .i64 (if MayT t then 0 else 8)) := by
  have e : (t.nodes.map nW).length = t.nodes.length := List.length_map _
  have no : ∀ {R : Res} {k0 : Nat}, ¬ MayT t → W.int .i64 8 = W.int .i64 (if MayT t then 0 else 8) := fun h => by rw [if_neg h]
  refine ynq (fn := Try.f33) rfl rfl rfl (Nat.le_of_ble_eq_true rfl) (fun R k0 => ?_)
  refine zcq (zbq (zdq rfl rfl (zaq rfl rfl (zeq ?_))))
  refine zfq (zcq (zcq (zbq (zaq rfl rfl (zdq rfl rfl (zXq (w' := .int .i64 (t.nodes.length : Int)) rfl rfl (by rw [← e]; rfl) ?_))))))
  refine yYq rfl rfl (fun h1 => ?_) (fun h1 => ?_)
  · have hno : ¬ MayT t := fun h => by have := h.1; omega
    refine zaq rfl rfl (zgq rfl (zgq rfl (zgq rfl (zaq rfl rfl (zaq rfl rfl (zgq rfl (zgq rfl (zgq rfl (zgq rfl (zgq rfl (zgq rfl (zaq rfl rfl (zeq ?_)))))))))))))
    refine zfq (zQq rfl (zcq (zbq (zaq rfl rfl (zeq ?_)))))
    refine zfq (zjq ?_)
    refine zlq (by intro h; cases h) ?_
    exact znq (.inr rfl) rfl (by rw [if_neg hno])
  refine zaq rfl rfl (zaq rfl rfl (zdq rfl rfl ?_))
  refine yYq rfl rfl (fun h2 => ?_) (fun h2 => ?_)
  · have hno : ¬ MayT t := fun h => by obtain ⟨_, _, n, _, h, _⟩ := h; have h2 : t.root < 0 := h2; omega
    refine zaq rfl rfl (zaq rfl rfl (zgq rfl (zgq rfl (zgq rfl (zgq rfl (zgq rfl (zgq rfl (zaq rfl rfl (zeq ?_)))))))))
    refine zfq (zQq rfl (zcq (zbq (zaq rfl rfl (zeq ?_)))))
    refine zfq (zjq ?_)
    refine zlq (by intro h; cases h) ?_
    exact znq (.inr rfl) rfl (by rw [if_neg hno])
  refine zaq rfl rfl (zaq rfl rfl (zaq rfl rfl (zdq rfl rfl (zaq rfl rfl (zdq rfl rfl (zXq (w' := .int .i64 (t.nodes.length : Int)) rfl rfl (by rw [← e]; rfl) ?_))))))
  refine zEq rfl rfl ?_
  refine zaq rfl rfl (zeq ?_)
  refine zfq ?_
  refine zHq rfl (fun h3 => ?_) (fun h3 => ?_)
  · have hno : ¬ MayT t := fun h => by obtain ⟨_, _, n, _, h, hr, _⟩ := h; have h3 : (t.nodes.length : Int) < t.root := h3; have := hr.le; omega
    refine zcq (zbq (zaq rfl rfl (zeq ?_)))
    refine zfq (zjq ?_)
    refine zlq (by intro h; cases h) ?_
    exact znq (.inr rfl) rfl (by rw [if_neg hno])
  have h2 : ¬ t.root < 0 := h2
  have h3 : ¬ (t.nodes.length : Int) < t.root := h3
  obtain ⟨n0, hn0⟩ := Int.eq_ofNat_of_zero_le (show 0 ≤ t.root by omega)
  refine ziq (zfq (zcq (zcq (zbq (zaq rfl rfl (zdq rfl rfl (zXq (w' := .int .i64 (t.nodes.length : Int)) rfl rfl (by rw [← e]; rfl) ?_)))))))
  refine zaq rfl rfl (zeq ?_)
  refine zfq (zmq ?_)
  refine ySq (α := Nat) (fun i => i ≤ t.nodes.length ∧ ∀ j x, j < i → t.nodes[j]? = some x → oneB x j) (fun i => [(27, .int .i64 (i : Int))]) [(1, _), (2, _), (25, _), (26, _)] (fun i => t.nodes.length - i) (0) ⟨rfl, rfl, rfl, rfl, trivial⟩ (⟨Nat.zero_le _, fun j x hj => by omega⟩) ⟨rfl, trivial⟩ (fun i hI => ?_)
  obtain ⟨hi, hI⟩ := hI
  refine zcq (zbq (zEq rfl rfl ?_))
  refine zeq ?_
  refine zfq (zcq ?_)
  refine zHq rfl (fun h4 => ?_) (fun h4 => ?_)
  · have hi' : i < t.nodes.length := by omega
    obtain ⟨x, hx⟩ : ∃ x, t.nodes[i]? = some x := ⟨_, List.getElem?_eq_getElem hi'⟩
    refine ziq (zfq (zcq (zmq (zcq (zbq (zaq rfl rfl (zaq rfl (z8q (i := i) rfl rfl rfl rfl rfl rfl rfl (yKq nW hx)) (zdq rfl rfl (zdq rfl rfl (zaq rfl rfl (zdq rfl rfl (zeq ?_))))))))))))
    refine zfq (zcq (zbq (zdq rfl rfl (zaq rfl rfl (zsq rfl rfl rfl rfl rfl rfl (one_s _ _ (by omega)) ?_)))))
    refine zaq rfl rfl (zeq ?_)
    refine zfq ?_
    refine zHq rfl (fun h5 => ?_) (fun h5 => ?_)
    · have hno : ¬ MayT t := fun h => by have := h.2.1 i x hx; simp [this] at h5
      refine zcq (zbq (zaq rfl rfl (zeq ?_)))
      refine zfq (zjq ?_)
      refine ztq (by intro i h; cases h) ?_
      refine zlq (by intro h; cases h) ?_
      refine ykq (by intro h; cases h) ?_
      refine ztq (by intro i h; cases h) ?_
      refine zlq (by intro h; cases h) ?_
      exact znq (.inr rfl) rfl (by rw [if_neg hno])
    · have h5 : oneB x i := by simpa using h5
      refine ziq (ztq (by intro i h; cases h) ?_)
      refine zfq (zbq (zAq (i + 1) rfl rfl (by first | rfl | omega) ⟨by omega, by omega⟩ ?_))
      refine zaq rfl rfl (zeq ?_)
      exact yjq (i + 1) (⟨hi', fun j y hj hy => by rcases Nat.lt_succ_iff_lt_or_eq.1 hj with h | rfl; exact hI j y h hy; exact (Option.some.inj (hx.symm.trans hy)) ▸ h5⟩) (by omega) ⟨rfl, trivial⟩ ⟨rfl, rfl, rfl, rfl, trivial⟩ (by repeat (first | exact trivial | refine ⟨by first | rfl | exact zyq (by first | rfl | (simp; done)), ?_⟩)) (by omega) (by repeat (first | exact zMq | refine zPq (by omega) ?_ | refine zNq (by omega) ?_ | refine zOq (by omega) ?_)) rfl
  · have okn : okN t.nodes := fun j x hx => hI j x (by have := (List.getElem?_eq_some_iff.1 hx).1; omega) hx
    obtain ⟨t0, ht0⟩ := rep_of okn n0 (by omega)
    have key : MayT t ↔ t0.ok 0 qSq = true := by
      constructor
      · rintro ⟨_, _, n, t1, hn, hr, hk⟩
        obtain rfl : n = n0 := by omega
        rw [ht0.uniq hr]; exact hk
      · exact fun h => ⟨by omega, okn, n0, t0, hn0, ht0, h⟩
    refine ytq ?_
    refine zlq (by intro h; cases h) ?_
    refine ykq (by intro h; cases h) ?_
    refine qpq (zfq (zcq (zcq (zbq (zdq rfl rfl (zaq rfl rfl (zdq rfl rfl (zXq rfl rfl uyq ?_))))))))
    refine op_ps rfl rfl rfl rfl rfl (by rw [hn0]; rfl) (right_s t (by omega) t0 n0 0 qSq ht0 (by omega)) (by simp) (by simp) ?_
    refine zaq rfl rfl (zaq rfl rfl (zaq rfl rfl (zaq rfl rfl (zaq rfl rfl (zeq ?_)))))
    refine zfq (zcq (zbq (zaq rfl rfl (zaq rfl rfl (zeq ?_)))))
    refine zfq ?_
    refine zHq rfl (fun h5 => ?_) (fun h5 => ?_)
    · have hno : ¬ MayT t := fun h => by have := key.1 h; simp [this] at h5
      refine zcq (zbq (zaq rfl rfl (zeq ?_)))
      refine zfq (zjq ?_)
      refine zlq (by intro h; cases h) ?_
      exact znq (.inr rfl) rfl (by rw [if_neg hno])
    · have yes : MayT t := key.2 (by simpa using h5)
      refine ziq (zfq (zcq (zbq (zaq rfl rfl (zeq ?_)))))
      refine zfq (zjq ?_)
      exact znq (.inr rfl) rfl (by rw [if_pos yes])
inductive FTo (ns : List Node) (k : Dig) : Nat → Nat → Nat → Prop where
  | nil {d : Nat} : FTo ns k 0 d 0
  | hit {n d : Nat} {v : List UInt8} {l r : Int} (h : ns[n]? = some ⟨true, k, v, l, r⟩) : FTo ns k (n + 1) d (n + 1)
  | miss {n d : Nat} {k' : Dig} {v : List UInt8} {l r : Int} (h : ns[n]? = some ⟨true, k', v, l, r⟩) (hk : k' ≠ k) : FTo ns k (n + 1) d 0
  | go {n d l r m : Nat} {k' : Dig} {v : List UInt8} (h : ns[n]? = some ⟨false, k', v, l, r⟩) (hd : d < 256) (hg : FTo ns k (if bitN k d = 0 then l else r) (d + 1) m) : FTo ns k (n + 1) d m
theorem fto_of {ns : List Node} {k : Dig} {n : Nat} {t : T} (h : Rep ns n t) : ∀ {d : Nat} {b : Dig}, t.ok d b = true → ∃ m, FTo ns k n d m ∧ (t.find k d = none → m = 0) ∧ ∀ v, t.find k d = some v → ∃ j l r, m = j + 1 ∧ ns[j]? = some ⟨true, k, v, l, r⟩ := by
  induction h with
  | nil => exact fun _ => ⟨0, .nil, fun _ => rfl, fun v h => by simp [T.find] at h⟩
  | leaf h =>
    rename_i n k' v l r
    intro d b _
    by_cases e : k' = k
    · subst e
      exact ⟨n + 1, .hit h, fun hn => by simp [T.find] at hn, fun w hw => by simp only [T.find, if_true, Option.some.injEq] at hw; subst hw; exact ⟨n, l, r, rfl, h⟩⟩
    · exact ⟨0, .miss h e, fun _ => rfl, fun w hw => by simp [T.find, e] at hw⟩
  | fork h hl hr hL hR i1 i2 =>
    intro d b hk
    obtain ⟨hd, k1, k2, _⟩ := ok_fork.1 hk
    by_cases hb : bitN k d = 0
    · obtain ⟨m, g1, g2, g3⟩ := i1 k1
      exact ⟨m, .go h hd (by rw [if_pos hb]; exact g1), by simp only [T.find, if_pos hb]; exact g2, by simp only [T.find, if_pos hb]; exact g3⟩
    · obtain ⟨m, g1, g2, g3⟩ := i2 k2
      exact ⟨m, .go h hd (by rw [if_neg hb]; exact g1), by simp only [T.find, if_neg hb]; exact g2, by simp only [T.find, if_neg hb]; exact g3⟩
theorem yLq (k : Dig) (d c : Nat) (h : d < 256) (hc : bitN k d = c) : PS cfg G 62 [dW k, .int .i64 (d : Int)] (.int .u8 (c : Int)) := hc ▸ tbit_s k d h
theorem tfind_s (t : Tree) (k : Dig) (n m : Nat) (hn : t.root = n) (hf : FTo t.nodes k n 0 m) (hb : t.nodes.length ≤ 4611686018427387903) : PS cfg G 34 [tW t, dW k] (.int .i64 (m : Int)) := by
  obtain ⟨ns, root⟩ := t
  simp only at hn hf hb
  subst hn
  refine ynq (fn := Try.f34) rfl rfl rfl (Nat.le_of_ble_eq_true rfl) (fun R k0 => ?_)
  refine zcq (zbq (zdq rfl rfl (zdq rfl rfl (zaq rfl rfl (zeq ?_)))))
  refine zfq (zcq (zbq (zaq rfl rfl (zdq rfl rfl (zaq rfl rfl (zeq ?_))))))
  refine zfq (zcq (zcq (zbq (zaq rfl rfl (zeq ?_)))))
  refine zfq (zmq ?_)
  refine ySq (α := Nat × Nat) (fun p => FTo ns k p.1 p.2 m ∧ p.2 ≤ 256) (fun p => [(5, .int .i64 (p.1 : Int)), (6, .int .i64 (p.2 : Int))]) [(2, _), (3, _), (4, _)] (fun p => 257 - p.2) ((n, 0)) ⟨rfl, rfl, rfl, trivial⟩ (⟨hf, by simp⟩) ⟨rfl, rfl, trivial⟩ (fun p hI => ?_)
  obtain ⟨i, d⟩ := p
  obtain ⟨hf, hd⟩ := hI
  simp only at hf hd ⊢
  refine zcq (zcq (zbq (zaq rfl rfl (zEq rfl rfl ?_))))
  refine zeq ?_
  refine zfq ?_
  refine zHq rfl (fun h1 => ?_) (fun h1 => ?_)
  · cases hf with
    | nil => exfalso; omega
    | hit h =>
      skip
      rename_i i v l r
      have hi := (List.getElem?_eq_some_iff.1 h).1
      refine ziq (zfq (zcq (zmq (zcq (zbq (zaq rfl rfl (zdq rfl rfl (zaq rfl rfl (zAq (i) rfl rfl (by first | rfl | omega) ⟨by omega, by omega⟩ ?_)))))))))
      refine zaq rfl (z8q (i := i) rfl rfl rfl rfl rfl rfl rfl (yKq nW h)) (zdq rfl rfl (zdq rfl rfl (zdq rfl rfl (zeq ?_))))
      refine zfq (zcq (zcq (zbq (zaq rfl rfl (zdq rfl rfl (zeq ?_))))))
      refine zfq (zQq rfl (zcq (zcq (zbq (zaq rfl rfl (zdq rfl rfl (zdq rfl rfl ?_)))))))
      refine jUq rfl (qbq rfl rfl rfl rfl (qPq rfl rfl rfl rfl rfl rfl _ _ 250)) yQq ?_
      refine zeq ?_
      refine zfq ?_
      refine zHq rfl (fun h2 => ?_) (fun h2 => ?_)
      · refine zcq (zbq (zaq rfl rfl (zaq rfl rfl (zeq ?_))))
        refine zfq (zjq ?_)
        refine zlq (by intro h; cases h) ?_
        refine zlq (by intro h; cases h) ?_
        refine ztq (by intro i h; cases h) ?_
        refine zlq (by intro h; cases h) ?_
        refine ykq (by intro h; cases h) ?_
        refine ztq (by intro i h; cases h) ?_
        refine zlq (by intro h; cases h) ?_
        first | exact znq (.inr rfl) rfl rfl | exact znq (.inl rfl) rfl rfl | (exfalso; omega)
      · exfalso; exact h2 rfl
    | miss h hk =>
      rename_i i k' v l r
      have hi := (List.getElem?_eq_some_iff.1 h).1
      refine ziq (zfq (zcq (zmq (zcq (zbq (zaq rfl rfl (zdq rfl rfl (zaq rfl rfl (zAq (i) rfl rfl (by first | rfl | omega) ⟨by omega, by omega⟩ ?_)))))))))
      refine zaq rfl (z8q (i := i) rfl rfl rfl rfl rfl rfl rfl (yKq nW h)) (zdq rfl rfl (zdq rfl rfl (zdq rfl rfl (zeq ?_))))
      refine zfq (zcq (zcq (zbq (zaq rfl rfl (zdq rfl rfl (zeq ?_))))))
      refine zfq (zQq rfl (zcq (zcq (zbq (zaq rfl rfl (zdq rfl rfl (zdq rfl rfl ?_)))))))
      refine jUq rfl (qbq rfl rfl rfl rfl (qPq rfl rfl rfl rfl rfl rfl _ _ 250)) yQq ?_
      refine zeq ?_
      refine zfq ?_
      refine zHq rfl (fun h2 => ?_) (fun h2 => ?_)
      · exfalso; exact hk h2
      · refine ziq (zfq (zcq (zbq (zaq rfl rfl (zeq ?_)))))
        refine zfq (zjq ?_)
        refine zlq (by intro h; cases h) ?_
        refine ztq (by intro i h; cases h) ?_
        refine zlq (by intro h; cases h) ?_
        refine ykq (by intro h; cases h) ?_
        refine ztq (by intro i h; cases h) ?_
        refine zlq (by intro h; cases h) ?_
        first | exact znq (.inr rfl) rfl rfl | exact znq (.inl rfl) rfl rfl | (exfalso; omega)
    | go h hd' hg =>
      rename_i i l r k' v
      have hi := (List.getElem?_eq_some_iff.1 h).1
      have bl := qGq k d
      rcases Nat.lt_or_ge 0 (bitN k d) with hb1 | hb0
      · skip
        have hc : bitN k d = 1 := by omega
        rw [if_neg (by omega)] at hg
        refine ziq (zfq (zcq (zmq (zcq (zbq (zaq rfl rfl (zdq rfl rfl (zaq rfl rfl (zAq (i) rfl rfl (by first | rfl | omega) ⟨by omega, by omega⟩ ?_)))))))))
        refine zaq rfl (z8q (i := i) rfl rfl rfl rfl rfl rfl rfl (yKq nW h)) (zdq rfl rfl (zdq rfl rfl (zdq rfl rfl (zeq ?_))))
        refine zfq (zcq (zcq (zbq (zaq rfl rfl (zdq rfl rfl (zeq ?_))))))
        refine zfq (zCq rfl (ziq (zfq (z0q (zGq rfl rfl ?_)))))
        refine qKq rfl rfl rfl rfl rfl rfl (jvq _) ?_
        refine zGq rfl rfl ?_
        refine zhq rfl rfl ?_
        first | refine qKq rfl rfl rfl rfl rfl rfl (yLq k d 1 hd' hc) ?_ | refine qKq rfl rfl rfl rfl rfl rfl (tbit_s _ _ (by omega)) ?_
        refine zhq rfl rfl (zhq rfl rfl (z9q ?_))
        refine ztq (by intro i h; cases h) ?_
        refine zfq (zbq (zaq rfl rfl (zAq (d + 1) rfl rfl (by first | rfl | omega) ⟨by omega, by omega⟩ ?_)))
        refine zaq rfl rfl (zeq ?_)
        exact yjq ((r, d + 1)) (⟨hg, hd'⟩) (by simp only; omega) ⟨rfl, rfl, trivial⟩ ⟨rfl, rfl, rfl, trivial⟩ (by repeat (first | exact trivial | refine ⟨by first | rfl | exact zyq (by first | rfl | (simp; done)), ?_⟩)) (by omega) (by repeat (first | exact zMq | refine zPq (by omega) ?_ | refine zNq (by omega) ?_ | refine zOq (by omega) ?_)) rfl
      · have hc : bitN k d = 0 := by omega
        rw [if_pos hc] at hg
        refine ziq (zfq (zcq (zmq (zcq (zbq (zaq rfl rfl (zdq rfl rfl (zaq rfl rfl (zAq (i) rfl rfl (by first | rfl | omega) ⟨by omega, by omega⟩ ?_)))))))))
        refine zaq rfl (z8q (i := i) rfl rfl rfl rfl rfl rfl rfl (yKq nW h)) (zdq rfl rfl (zdq rfl rfl (zdq rfl rfl (zeq ?_))))
        refine zfq (zcq (zcq (zbq (zaq rfl rfl (zdq rfl rfl (zeq ?_))))))
        refine zfq (zCq rfl (ziq (zfq (z0q (zGq rfl rfl ?_)))))
        refine qKq rfl rfl rfl rfl rfl rfl (jvq _) ?_
        refine zGq rfl rfl ?_
        refine zhq rfl rfl ?_
        refine qKq rfl rfl rfl rfl rfl rfl (yLq k d 0 hd' hc) ?_
        refine zhq rfl rfl (zhq rfl rfl (z9q ?_))
        refine ztq (by intro i h; cases h) ?_
        refine zfq (zbq (zaq rfl rfl (zAq (d + 1) rfl rfl (by first | rfl | omega) ⟨by omega, by omega⟩ ?_)))
        refine zaq rfl rfl (zeq ?_)
        exact yjq ((l, d + 1)) (⟨hg, hd'⟩) (by simp only; omega) ⟨rfl, rfl, trivial⟩ ⟨rfl, rfl, rfl, trivial⟩ (by repeat (first | exact trivial | refine ⟨by first | rfl | exact zyq (by first | rfl | (simp; done)), ?_⟩)) (by omega) (by repeat (first | exact zMq | refine zPq (by omega) ?_ | refine zNq (by omega) ?_ | refine zOq (by omega) ?_)) rfl
  · obtain rfl : i = 0 := by omega
    cases hf
    refine ytq ?_
    refine zlq (by intro h; cases h) ?_
    refine ykq (by intro h; cases h) ?_
    refine qpq (zfq (zcq (zbq (zaq rfl rfl (zeq ?_)))))
    refine zfq (zjq ?_)
    first | exact znq (.inr rfl) rfl rfl | exact znq (.inl rfl) rfl rfl | (exfalso; omega)
structure IsT (t : Tree) (n : Nat) (t0 : T) : Prop where
  len : t.nodes.length ≤ 262144
  okn : okN t.nodes
  root : t.root = n
  rep : Rep t.nodes n t0
  ok : t0.ok 0 qSq = true
theorem IsT.may {t : Tree} {n : Nat} {t0 : T} (h : IsT t n t0) : MayT t := ⟨h.len, h.okn, n, t0, h.root, h.rep, h.ok⟩
theorem may_is {t : Tree} (h : MayT t) : ∃ n t0, IsT t n t0 := by
  obtain ⟨h1, h2, n, t0, h3, h4, h5⟩ := h
  exact ⟨n, t0, h1, h2, h3, h4, h5⟩
theorem vEq {ns : List Node} (h : okN ns) {i : Nat} {k : Dig} {v : List UInt8} {l r : Int} (hx : ns[i]? = some ⟨true, k, v, l, r⟩) : 0 < v.length ∧ v.length ≤ 64 := by
  have h1 := h i _ hx
  simp only [oneB, if_true] at h1
  have h2 := (h1.2.2.2 0 (by simp) (k, v) rfl).1
  simp only [valB, Bool.and_eq_true, decide_eq_true_eq] at h2
  exact h2
noncomputable def getW' : Option (List UInt8) → W
  | none => .tup [.nils, .bool false]
  | some v => .tup [bW v, .bool true]
theorem tget_s (t : Tree) (n : Nat) (t0 : T) (k : Dig) (h : IsT t n t0) : PS cfg G 12 [tW t, dW k] (getW' (t0.find k 0)) := by
  have hl := h.len
  have hy := h.may
  obtain ⟨m, f1, f2, f3⟩ := fto_of (k := k) h.rep h.ok
  cases hf : t0.find k 0 with
  | none =>
    obtain rfl := f2 hf
    refine ynq (fn := Try.f12) rfl rfl rfl (Nat.le_of_ble_eq_true rfl) (fun R k0 => ?_)
    refine zcq (zbq (zdq rfl rfl (zdq rfl rfl (zaq rfl rfl (zaq rfl rfl (zeq ?_))))))
    refine zfq (zcq (zcq (zbq (zdq rfl rfl ?_))))
    first | refine zsq rfl rfl rfl rfl rfl rfl (yXq (w' := .int .i64 0) (qoq t (by omega)) (by rw [if_pos hy])) ?_ | refine zsq rfl rfl rfl rfl rfl rfl (qoq _ (by omega)) ?_ | refine zsq rfl rfl rfl rfl rfl rfl (qoq _ (by omega)) ?_
    refine zEq rfl rfl ?_
    refine zeq ?_
    refine zfq (zCq rfl (ziq (zfq (zcq (zbq (zdq rfl rfl (zdq rfl rfl (zsq rfl rfl rfl rfl rfl rfl (tfind_s t k n _ h.root f1 (by omega)) ?_))))))))
    refine zaq rfl rfl (zeq ?_)
    refine zfq (zcq (zcq (zbq (zaq rfl rfl (zEq rfl rfl ?_)))))
    refine zeq ?_
    refine zfq (zQq rfl (zcq (zbq (zaq rfl rfl (zaq rfl rfl (zeq ?_))))))
    refine zfq (zjq ?_)
    refine zlq (by intro h; cases h) ?_
    exact znq (.inr rfl) rfl rfl
  | some v =>
    obtain ⟨j, l, r, rfl, hx⟩ := f3 v hf
    have hv := vEq h.okn hx
    have hj := (List.getElem?_eq_some_iff.1 hx).1
    refine ynq (fn := Try.f12) rfl rfl rfl (Nat.le_of_ble_eq_true rfl) (fun R k0 => ?_)
    refine zcq (zbq (zdq rfl rfl (zdq rfl rfl (zaq rfl rfl (zaq rfl rfl (zeq ?_))))))
    refine zfq (zcq (zcq (zbq (zdq rfl rfl ?_))))
    first | refine zsq rfl rfl rfl rfl rfl rfl (yXq (w' := .int .i64 0) (qoq t (by omega)) (by rw [if_pos hy])) ?_ | refine zsq rfl rfl rfl rfl rfl rfl (qoq _ (by omega)) ?_ | refine zsq rfl rfl rfl rfl rfl rfl (qoq _ (by omega)) ?_
    refine zEq rfl rfl ?_
    refine zeq ?_
    refine zfq (zCq rfl (ziq (zfq (zcq (zbq (zdq rfl rfl (zdq rfl rfl (zsq rfl rfl rfl rfl rfl rfl (tfind_s t k n _ h.root f1 (by omega)) ?_))))))))
    refine zaq rfl rfl (zeq ?_)
    refine zfq (zcq (zcq (zbq (zaq rfl rfl (zEq rfl rfl ?_)))))
    refine zeq ?_
    refine zfq ?_
    refine zHq rfl (fun h1 => ?_) (fun h1 => ?_)
    · exfalso; omega
    · refine ziq (zfq (zcq (zbq (zaq rfl rfl (zdq rfl rfl (zaq rfl rfl (zAq (j) rfl rfl (by first | rfl | omega) ⟨by omega, by omega⟩ ?_)))))))
      refine zaq rfl (z8q (i := j) rfl rfl rfl rfl rfl rfl rfl (yKq nW hx)) (zaq rfl rfl (zdq rfl rfl (zsq rfl rfl rfl rfl rfl rfl (v6q v false (by omega)) ?_)))
      refine zaq rfl rfl (zaq rfl rfl (zeq ?_))
      refine zfq (zjq ?_)
      exact znq (.inr rfl) rfl rfl
theorem teach_s (t : Tree) (n : Int) : PS cfg G 77 [tW t, .int .i64 n] (.fn 89 [] [.fel (.int .i64 n), .fel (tW t)]) := by
  refine ynq (fn := Try.f77) rfl rfl rfl (Nat.le_of_ble_eq_true rfl) (fun R k0 => ?_)
  refine zcq (zbq (zdq rfl rfl (zdq rfl rfl (zaq rfl rfl (zeq ?_)))))
  refine zfq (zcq (zbq (zaq rfl rfl (zaq rfl rfl (zeq ?_)))))
  refine zfq (zjq ?_)
  refine kQq (fr2 := [(4, _)]) (by first | exact .inr rfl | exact .inl rfl) ?_ rfl rfl
  (repeat (first | exact trivial | refine And.symm ⟨?_, _, rfl, ?_⟩)) <;> (repeat (first | exact .nil | refine .cons ?_ ?_ | refine .fn ?_ ?_ | (refine y7q rfl ?_ rfl; (first | rfl | (focus (simp; done)))) | (refine .sl rfl ?_ rfl (by intro h; cases h); (first | rfl | (focus (simp; done)))) | (refine .pur ?_; (first | rfl | (focus (simp; done)))) | refine .agg ?_ | refine .arr ?_ | refine .tup ?_))
noncomputable def enc1 (p : Pr) : List W := [pW p]
theorem yl_same {L : Nat} {E : Res → Prop} {b : Bool} {R1 : Res} {l : List (List W)} (h : match b with | true => Yl cfg G L E [] R1 | false => E R1) : E R1 := by cases b <;> exact h
def restL (tl tr : T) : Nat → List Pr
  | 0 => tl.all ++ tr.all
  | 1 => tr.all
  | _ => []
theorem drop_at {α : Type} {l : List α} {i : Nat} {x : α} (h : l[i]? = some x) : l.drop i = x :: l.drop (i + 1) := by
  obtain ⟨hl, h2⟩ := List.getElem?_eq_some_iff.1 h
  rw [List.drop_eq_getElem_cons hl, h2]
theorem teach_it (t : Tree) (hv : ∀ (i : Nat) (k : Dig) (v : List UInt8) (l r : Int), t.nodes[i]? = some (Node.mk true k v l r) → v.length ≤ 70368744177664) (hb : t.nodes.length ≤ 4611686018427387903) : ∀ (t0 : T) (n : Nat), Rep t.nodes n t0 → qCq cfg G 89 [.fel (.int .i64 (n : Int)), .fel (tW t)] (t0.all.map enc1) := by
  intro t0
  induction t0 with
  | nil =>
    intro n hr
    obtain rfl : n = 0 := by cases hr; rfl
    refine urq (fn := Try.f89) rfl rfl rfl (Nat.le_of_ble_eq_true rfl) (fun L E R hy k0 => ?_)
    refine zcq (zbq (zdq rfl rfl (zeq ?_)))
    refine zfq (zcq (zcq (zbq (zdq rfl rfl (zEq rfl rfl ?_)))))
    refine zeq ?_
    refine zfq (zQq rfl (zjq ?_))
    refine zlq (by intro h; cases h) ?_
    exact xdq (.inr rfl) rfl hy
  | leaf k v =>
    intro n hr
    have hle := hr.le
    cases hr with
    | leaf h =>
    rename_i n l r
    have hvl := hv _ _ _ _ _ h
    refine urq (fn := Try.f89) rfl rfl rfl (Nat.le_of_ble_eq_true rfl) (fun L E R hy k0 => ?_)
    refine zcq (zbq (zdq rfl rfl (zeq ?_)))
    refine zfq (zcq (zcq (zbq (zdq rfl rfl (zEq rfl rfl ?_)))))
    refine zeq ?_
    refine zfq ?_
    refine zHq rfl (fun h1 => ?_) (fun h1 => ?_)
    · exfalso; omega
    · refine ziq (zfq (zcq (zbq (zaq rfl rfl (zdq rfl rfl (zdq rfl rfl (zAq (n) rfl rfl (by first | rfl | omega) ⟨by omega, by omega⟩ ?_)))))))
      refine zaq rfl (z8q (i := n) rfl rfl rfl rfl rfl rfl rfl (yKq nW h)) (zdq rfl rfl (zdq rfl rfl (zdq rfl rfl (zeq ?_))))
      refine zfq (zcq (zcq (zbq (zaq rfl rfl (zdq rfl rfl (zeq ?_))))))
      refine zfq (zQq rfl (zcq (z0q (zGq rfl rfl ?_))))
      refine zhq rfl rfl (zGq rfl rfl ?_)
      refine zhq rfl rfl (zGq rfl rfl ?_)
      refine fl_ps rfl rfl rfl rfl rfl rfl (v6q v false hvl) (by simp) (by simp) (by first | rfl | kernel_rfl) ?_
      refine zhq rfl rfl ?_
      refine yMq rfl (jrq rfl rfl rfl (hy) (fun b R1 hb => ?_))
      refine ⟨by first | rfl | kernel_rfl, ?_⟩
      refine z9q ?_
      refine zfq (zjq ?_)
      refine zlq (by intro h; cases h) ?_
      exact xdq (.inr rfl) rfl (yl_same (l := []) hb)
  | fork tl tr ihL ihR =>
    intro n hr
    have hle := hr.le
    cases hr with
    | fork h hl hr hL hR =>
    rename_i n l r k v
    refine urq (fn := Try.f89) rfl rfl rfl (Nat.le_of_ble_eq_true rfl) (fun L E R hy k0 => ?_)
    refine zcq (zbq (zdq rfl rfl (zeq ?_)))
    refine zfq (zcq (zcq (zbq (zdq rfl rfl (zEq rfl rfl ?_)))))
    refine zeq ?_
    refine zfq ?_
    refine zHq rfl (fun h1 => ?_) (fun h1 => ?_)
    · exfalso; omega
    · refine ziq (zfq (zcq (zbq (zaq rfl rfl (zdq rfl rfl (zdq rfl rfl (zAq (n) rfl rfl (by first | rfl | omega) ⟨by omega, by omega⟩ ?_)))))))
      refine zaq rfl (z8q (i := n) rfl rfl rfl rfl rfl rfl rfl (yKq nW h)) (zdq rfl rfl (zdq rfl rfl (zdq rfl rfl (zeq ?_))))
      refine zfq (zcq (zcq (zbq (zaq rfl rfl (zdq rfl rfl (zeq ?_))))))
      refine zfq (zCq rfl (ziq (zfq (zcq (zbq (zdq rfl rfl (zsq rfl rfl rfl rfl rfl rfl (jvq _) ?_)))))))
      refine zaq rfl rfl (zeq ?_)
      refine zfq (zmq ?_)
      refine YNq (α := Nat × Res) (fun p => p.1 ≤ 2 ∧ Yl cfg G L E ((restL tl tr p.1).map enc1) p.2) (fun p => [(28, .int .i64 (p.1 : Int))]) [(2, _), (3, _), (27, _)] (fun p => p.2) (fun p => 2 - p.1) ((0, R)) ⟨rfl, rfl, rfl, trivial⟩ (⟨by simp, hy⟩) ⟨rfl, trivial⟩ rfl (fun p hI => ?_)
      obtain ⟨i, R⟩ := p
      obtain ⟨hi, hy⟩ := hI
      simp only at hi hy ⊢
      refine zcq (zbq (zEq rfl rfl ?_))
      refine zeq ?_
      refine zfq (zcq ?_)
      refine zHq rfl (fun h2 => ?_) (fun h2 => ?_)
      · have hi' : i = 0 ∨ i = 1 := by omega
        rcases hi' with rfl | rfl
        · skip
          refine ziq (zfq (zcq (zmq (zcq (zbq (zaq rfl rfl (zaq rfl rfl (zeq ?_))))))))
          refine zfq (zcq (zbq (zdq rfl rfl (zaq rfl rfl (zsq rfl rfl rfl rfl rfl rfl (teach_s t l) ?_)))))
          refine zeq ?_
          refine zfq (zmq ?_)
          refine v4q (enc1) (tl.all) (fun i a => Yl cfg G L E (((tl.all.drop i) ++ tr.all).map enc1) a) (fun a => a) (R) rfl (by first | rfl | assumption | (simp; done)) (ihL _ hL) (fun y _ => ⟨by simp [enc1], rfl⟩) (hy) rfl (fun i a y hy hI => ?_) (fun a hI => ?_)
          · have hd := drop_at hy
            rw [hd, List.cons_append, List.map_cons] at hI
            refine zbq (zdq rfl rfl (zdq rfl rfl (zeq ?_)))
            refine Ynq (zmq (zcq (zbq (zdq rfl rfl (zdq rfl rfl ?_)))))
            refine z3q rfl (jrq rfl rfl rfl (hI) (fun b R1 hb => ?_))
            refine zaq rfl rfl (zeq ?_)
            refine zfq ?_
            refine zHq rfl (fun h3 => ?_) (fun h3 => ?_)
            · cases b with
              | true => cases h3
              | false =>
                refine zjq ?_
                refine ztq (by intro i h; cases h) ?_
                refine Ymq (by intro h; cases h) ?_
                refine ztq (by intro i h; cases h) ?_
                refine ztq (by intro i h; cases h) ?_
                refine zlq (by intro h; cases h) ?_
                refine ykq (by intro h; cases h) ?_
                refine ztq (by intro i h; cases h) ?_
                exact xdq (.inr rfl) rfl hb
            · cases b with
              | false => exact absurd rfl h3
              | true =>
                refine ziq (ztq (by intro i h; cases h) ?_)
                exact Ykq (R1) (hb) (by omega) (by repeat (first | exact zMq | refine zPq (by omega) ?_ | refine zNq (by omega) ?_ | refine zOq (by omega) ?_)) rfl
          · rw [List.drop_length, List.nil_append] at hI
            refine ztq (by intro i h; cases h) ?_
            refine ztq (by intro i h; cases h) ?_
            refine zfq (zbq (zAq (1) rfl rfl (by first | rfl | omega) ⟨by omega, by omega⟩ ?_))
            refine zaq rfl rfl (zeq ?_)
            exact yjq ((1, a)) (⟨by simp, hI⟩) (by simp) ⟨rfl, trivial⟩ ⟨rfl, rfl, rfl, trivial⟩ (by repeat (first | exact trivial | refine ⟨by first | rfl | exact zyq (by first | rfl | (simp; done)), ?_⟩)) (by omega) (by repeat (first | exact zMq | refine zPq (by omega) ?_ | refine zNq (by omega) ?_ | refine zOq (by omega) ?_)) rfl
        · skip
          refine ziq (zfq (zcq (zmq (zcq (zbq (zaq rfl rfl (zaq rfl rfl (zeq ?_))))))))
          refine zfq (zcq (zbq (zdq rfl rfl (zaq rfl rfl (zsq rfl rfl rfl rfl rfl rfl (teach_s t r) ?_)))))
          refine zeq ?_
          refine zfq (zmq ?_)
          refine v4q (enc1) (tr.all) (fun i a => Yl cfg G L E ((tr.all.drop i).map enc1) a) (fun a => a) (R) rfl (by first | rfl | assumption | (simp; done)) (ihR _ hR) (fun y _ => ⟨by simp [enc1], rfl⟩) (hy) rfl (fun i a y hy hI => ?_) (fun a hI => ?_)
          · have hd := drop_at hy
            rw [hd, List.map_cons] at hI
            refine zbq (zdq rfl rfl (zdq rfl rfl (zeq ?_)))
            refine Ynq (zmq (zcq (zbq (zdq rfl rfl (zdq rfl rfl ?_)))))
            refine z3q rfl (jrq rfl rfl rfl (hI) (fun b R1 hb => ?_))
            refine zaq rfl rfl (zeq ?_)
            refine zfq ?_
            refine zHq rfl (fun h3 => ?_) (fun h3 => ?_)
            · cases b with
              | true => cases h3
              | false =>
                refine zjq ?_
                refine ztq (by intro i h; cases h) ?_
                refine Ymq (by intro h; cases h) ?_
                refine ztq (by intro i h; cases h) ?_
                refine ztq (by intro i h; cases h) ?_
                refine zlq (by intro h; cases h) ?_
                refine ykq (by intro h; cases h) ?_
                refine ztq (by intro i h; cases h) ?_
                exact xdq (.inr rfl) rfl hb
            · cases b with
              | false => exact absurd rfl h3
              | true =>
                refine ziq (ztq (by intro i h; cases h) ?_)
                exact Ykq (R1) (hb) (by omega) (by repeat (first | exact zMq | refine zPq (by omega) ?_ | refine zNq (by omega) ?_ | refine zOq (by omega) ?_)) rfl
          · rw [List.drop_length] at hI
            refine ztq (by intro i h; cases h) ?_
            refine ztq (by intro i h; cases h) ?_
            refine zfq (zbq (zAq (2) rfl rfl (by first | rfl | omega) ⟨by omega, by omega⟩ ?_))
            refine zaq rfl rfl (zeq ?_)
            exact yjq ((2, a)) (⟨by simp, hI⟩) (by simp) ⟨rfl, trivial⟩ ⟨rfl, rfl, rfl, trivial⟩ (by repeat (first | exact trivial | refine ⟨by first | rfl | exact zyq (by first | rfl | (simp; done)), ?_⟩)) (by omega) (by repeat (first | exact zMq | refine zPq (by omega) ?_ | refine zNq (by omega) ?_ | refine zOq (by omega) ?_)) rfl
      · refine ytq ?_
        refine zlq (by intro h; cases h) ?_
        refine ykq (by intro h; cases h) ?_
        refine qpq ?_
        obtain rfl : i = 2 := by omega
        exact xdq (.inl rfl) rfl hy
end Go.Proofs.Ytgeelfdgnehdnaa
namespace Go.Proofs.Ytgeelfdgnehdnaa
open Go.RowKit
set_option linter.unusedSimpArgs false
set_option linter.unusedVariables false
attribute [local irreducible] CoW OpW FlW Step Spec
variable {G : Nat → Option W}
noncomputable def psW (ps : List Pr) : W := .fz (ps.map pW) 33 false
@[simp] theorem psW_p (ps : List Pr) : purW (psW ps) = true := jKq ps
noncomputable def gat (ps : List Pr) : HpW := match ps with
  | [] => [(0, 45, .nils)]
  | _ => [(0, 45, .sl 1 0 0 ps.length 33 none), (1, 88, .arr (ps.length * 33) 33 (ps.map pW))]
theorem gat_snoc (a : List Pr) (y : Pr) : gat (a ++ [y]) = [(0, 45, .sl 1 0 0 (a.length + 1) 33 none), (1, 88, .arr ((a.length + 1) * 33) 33 (a.map pW ++ [pW y]))] := by
  cases a with
  | nil => rfl
  | cons x a => simp [gat]
theorem pur1 {a : List Pr} {y : Pr} {n : Nat} (e : Nat) : purW (.arr n e (a.map pW ++ [pW y])) = true := by simp
theorem aseq_s (f : FuncId) (cs : List W) (ls : List Pr) (hc : purL cs = true) (it : qCq cfg G f cs (ls.map enc1)) (hb : ls.length ≤ 1000000000) : PS cfg G 88 [.nils, .fn f [] cs] (psW ls) := by
  refine xbq (fn := Try.f88) rfl rfl rfl (Nat.le_of_ble_eq_true rfl) (fun R k0 => ?_)
  refine zcq (zbq (zdq rfl rfl (zaq rfl rfl (zeq ?_))))
  refine zfq (zcq (zcq (zbq (zaq rfl rfl (zeq ?_)))))
  refine zfq (zmq ?_)
  refine co_rangeN (α := List Pr) (enc1) (ls) (fun i a => a = ls.take i) (fun a => gat a) (fun a => (match a with | [] => 1 | _ => 2)) (fun a => R) ([]) rfl (by first | rfl | assumption | (simp; done)) (it) (fun y _ => ⟨by simp [enc1], rfl⟩) (rfl) rfl rfl rfl (fun i a y hy hI => ?_) (fun a hI => ?_)
  · have hi := (List.getElem?_eq_some_iff.1 hy).1
    have hn : ls.take (i + 1) = a ++ [y] := by rw [List.take_add_one, hy, hI]; rfl
    cases a with
    | nil =>
      skip
      refine zbq (zdq rfl rfl (zdq rfl rfl (zeq ?_)))
      refine Ynq (zmq (zbq (zdq rfl rfl (zdq rfl rfl (zdq rfl rfl (zdq rfl (jCq rfl rfl (Zhq (news := [pW y]) (k := ti88) rfl rfl rfl rfl (jQq rfl rfl rfl rfl) (by simp) (by show 1 * ti88.bytes ≤ _; decide) (by show 1 ≤ _; decide))) ?_))))))
      refine zdq rfl rfl (zeq ?_)
      refine ztq (by intro i h; cases h) ?_
      refine Ylq (ls.take (i + 1)) rfl ?_
      rw [hn, gat_snoc]
      refine joq (b := 1) (k := 3) (by omega) (by omega) (by show 3 < 4; omega) trivial ⟨⟨by omega, rfl, rfl⟩, ⟨by omega, ?_, zyq (pur1 _)⟩, trivial⟩ (by simp)
      rw [yBq (pur1 _)]
      rfl
    | cons x a =>
      have hl : (x :: a).length ≤ 1000000000 := by rw [hI, List.length_take]; omega
      have el : ((x :: a).map pW).length = (x :: a).length := List.length_map _
      refine zbq (zdq rfl rfl (zdq rfl rfl (zeq ?_)))
      refine Ynq (zmq (zbq (zdq rfl rfl (zdq rfl rfl (zdq rfl rfl (zdq rfl (jCq rfl rfl (uWq (len := (x :: a).length) (news := [pW y]) (olds := (x :: a).map pW) (k := ti88) rfl rfl rfl rfl (jQq rfl rfl rfl rfl) (by simp) (by show ((x :: a).length + 1) * 56 ≤ _; omega) (by show (x :: a).length + 1 ≤ _; omega) rfl (by show (x :: a).length * 33 < 0 + ((x :: a).length + 1) * 33; omega) rfl (qeq (by decide) el.symm rfl))) ?_))))))
      refine zdq rfl rfl (zeq ?_)
      refine ztq (by intro i h; cases h) ?_
      refine Ylq (ls.take (i + 1)) rfl ?_
      rw [hn, gat_snoc]
      refine joq (b := 1) (k := 4) (by omega) (by omega) (by show 4 < 5; omega) trivial ⟨⟨by omega, rfl, rfl⟩, ⟨by omega, ?_, zyq (pur1 _)⟩, trivial⟩ (by simp)
      rw [yBq (pur1 _)]
      rfl
  · obtain rfl : a = ls := by rw [hI, List.take_length]
    cases a with
    | nil =>
      skip
      refine ztq (by intro i h; cases h) ?_
      refine zfq (zcq (zbq (zdq rfl rfl (zaq rfl rfl (zeq ?_)))))
      refine zfq (zjq ?_)
      refine kPq (by first | exact .inr rfl | exact .inl rfl) rfl ?_
      (repeat (first | exact .nil | refine .cons ?_ ?_ | exact qiq | exact .nilfz | refine .fn ?_ ?_ | (refine y7q rfl ?_ rfl; (first | rfl | (focus (simp; done)))) | (refine .sl rfl ?_ rfl (by intro h; cases h); (first | rfl | (focus (simp; done)))) | (refine .pur ?_; (first | rfl | (focus (simp; done)))) | (refine .fzw ?_; (first | rfl | (focus (simp; done)))) | refine .agg ?_ | refine .arr ?_ | refine .tup ?_))
    | cons x a =>
      refine ztq (by intro i h; cases h) ?_
      refine zfq (zcq (zbq (zdq rfl rfl (zaq rfl rfl (zeq ?_)))))
      refine zfq (zjq ?_)
      refine kPq (by first | exact .inr rfl | exact .inl rfl) rfl ?_
      exact .sl rfl (by show purL ((x :: a).map pW) = true; exact jKq _) (qeq (by decide) (List.length_map _).symm rfl) (by intro h; cases h)
theorem collect_s (f : FuncId) (cs : List W) (ls : List Pr) (hc : purL cs = true) (it : qCq cfg G f cs (ls.map enc1)) (hb : ls.length ≤ 1000000000) : PS cfg G 76 [.fn f [] cs] (psW ls) := by
  refine ynq (fn := Try.f76) rfl rfl rfl (Nat.le_of_ble_eq_true rfl) (fun R k0 => ?_)
  refine zcq (zbq (zaq rfl rfl (zeq ?_)))
  refine zfq (zcq (zbq (zaq rfl rfl ?_)))
  refine op_ps rfl rfl rfl rfl rfl rfl (aseq_s f cs ls hc it hb) (by simp [hc]) (by simp) ?_
  refine zaq rfl rfl (zeq ?_)
  refine zfq (zjq ?_)
  exact znq (.inr rfl) rfl rfl
theorem nodup_le {α : Type} [DecidableEq α] : ∀ (l m : List α), l.Nodup → (∀ x ∈ l, x ∈ m) → l.length ≤ m.length
  | [], m, _, _ => Nat.zero_le _
  | x :: l, m, hn, hs => by
    obtain ⟨h1, h2⟩ := List.nodup_cons.1 hn
    have hx := hs x (by simp)
    have ih := nodup_le l (m.erase x) h2 fun y hy => (List.mem_erase_of_ne (fun e : y = x => h1 (by rw [← e]; exact hy))).2 (hs y (by simp [hy]))
    rw [List.length_erase_of_mem hx] at ih
    have : 0 < m.length := List.length_pos_of_mem hx
    simp only [List.length_cons]
    omega
theorem rep_mem {ns : List Node} {n : Nat} {t : T} (h : Rep ns n t) : ∀ p ∈ t.all, ∃ (i : Nat) (l r : Int), ns[i]? = some (Node.mk true p.1 p.2 l r) := by
  induction h with
  | nil => intro p hp; simp [T.all] at hp
  | leaf h => intro p hp; simp only [T.all, List.mem_singleton] at hp; subst hp; exact ⟨_, _, _, h⟩
  | fork h hl hr _ _ i1 i2 =>
    intro p hp
    rcases List.mem_append.1 hp with hp | hp
    · exact i1 p hp
    · exact i2 p hp
theorem srt_nodup {l : List Pr} (h : Srt l) : (l.map (·.1)).Nodup := by
  rw [List.nodup_iff_pairwise_ne, List.pairwise_map]
  exact h.imp fun h => k7q h
theorem IsT.srt {t : Tree} {n : Nat} {t0 : T} (h : IsT t n t0) : Srt t0.all := ok_srt j2q h.ok
theorem IsT.all_le {t : Tree} {n : Nat} {t0 : T} (h : IsT t n t0) : t0.all.length ≤ t.nodes.length := by
  have := nodup_le (t0.all.map (·.1)) (t.nodes.map (·.key)) (srt_nodup h.srt) fun k hk => by
    obtain ⟨p, hp, rfl⟩ := List.mem_map.1 hk
    obtain ⟨i, l, r, hx⟩ := rep_mem h.rep p hp
    exact List.mem_map.2 ⟨_, List.mem_of_getElem? hx, rfl⟩
  simpa using this
theorem IsT.val {t : Tree} {n : Nat} {t0 : T} (h : IsT t n t0) : ∀ p ∈ t0.all, 0 < p.2.length ∧ p.2.length ≤ 64 := fun p hp => by
  obtain ⟨i, l, r, hx⟩ := rep_mem h.rep p hp
  exact vEq h.okn hx
theorem tpairs_s (t : Tree) (n : Nat) (t0 : T) (h : IsT t n t0) : PS cfg G 59 [tW t] (.tup [psW t0.all, .int .i64 0]) := by
  have hl := h.len
  have hy := h.may
  have ha := h.all_le
  have hr := h.root
  obtain ⟨ns, root⟩ := t
  simp only at hl hr ha
  subst hr
  refine ynq (fn := Try.f59) rfl rfl rfl (Nat.le_of_ble_eq_true rfl) (fun R k0 => ?_)
  refine zcq (zbq (zdq rfl rfl (zaq rfl rfl (zaq rfl rfl (zeq ?_)))))
  refine zfq (zcq (zcq (zbq (zdq rfl rfl ?_))))
  first | refine zsq rfl rfl rfl rfl rfl rfl (yXq (w' := .int .i64 0) (qoq ⟨ns, (n : Int)⟩ (by show ns.length ≤ _; omega)) (by rw [if_pos hy])) ?_ | refine zsq rfl rfl rfl rfl rfl rfl (qoq _ (by omega)) ?_
  refine zaq rfl rfl (zeq ?_)
  refine zfq (zcq (zbq (zaq rfl rfl (zEq rfl rfl ?_))))
  refine zeq ?_
  refine zfq (zCq rfl (ziq (zfq (zcq (zbq (zdq rfl rfl (zaq rfl rfl (zdq rfl rfl (zsq rfl rfl rfl rfl rfl rfl (teach_s ⟨ns, (n : Int)⟩ (n : Int)) ?_)))))))))
  refine zsq rfl rfl rfl rfl rfl rfl (collect_s _ _ t0.all (by simp) (teach_it ⟨ns, (n : Int)⟩ (fun i k v l r hx => by have := (vEq h.okn hx).2; omega) (by show ns.length ≤ _; omega) t0 n h.rep) (by omega)) ?_
  refine zaq rfl rfl (zaq rfl rfl (zeq ?_))
  refine zfq (zjq ?_)
  exact znq (.inr rfl) rfl rfl
theorem tpairs_no (t : Tree) (hb : t.nodes.length ≤ 4611686018427387903) (h : ¬ MayT t) : PS cfg G 59 [tW t] (.tup [.nils, .int .i64 8]) := by
  refine ynq (fn := Try.f59) rfl rfl rfl (Nat.le_of_ble_eq_true rfl) (fun R k0 => ?_)
  refine zcq (zbq (zdq rfl rfl (zaq rfl rfl (zaq rfl rfl (zeq ?_)))))
  refine zfq (zcq (zcq (zbq (zdq rfl rfl (zsq rfl rfl rfl rfl rfl rfl (yXq (w' := .int .i64 8) (qoq t hb) (by rw [if_neg h])) ?_)))))
  refine zaq rfl rfl (zeq ?_)
  refine zfq (zcq (zbq (zaq rfl rfl (zEq rfl rfl ?_))))
  refine zeq ?_
  refine zfq (zQq rfl (zcq (zbq (zaq rfl rfl (zaq rfl rfl (zaq rfl rfl (zeq ?_)))))))
  refine zfq (zjq ?_)
  refine zlq (by intro h; cases h) ?_
  exact znq (.inr rfl) rfl rfl
end Go.Proofs.Ytgeelfdgnehdnaa
namespace Go.Proofs.Ytgeelfdgnehdnaa
open Go.RowKit
set_option linter.unusedSimpArgs false
set_option linter.unusedVariables false
attribute [local irreducible] CoW OpW FlW Step Spec
variable {G : Nat → Option W}
theorem aeach_s (t : Tree) : PS cfg G 32 [tW t] (.fn 58 [] [.fel (tW t)]) := by
  refine ynq (fn := Try.f32) rfl rfl rfl (Nat.le_of_ble_eq_true rfl) (fun R k0 => ?_)
  refine zcq (zbq (zdq rfl rfl (zaq rfl rfl (zeq ?_))))
  refine zfq (zcq (zbq (zaq rfl rfl (zaq rfl rfl (zeq ?_)))))
  refine zfq (zjq ?_)
  refine kQq (fr2 := [(2, _)]) (by first | exact .inr rfl | exact .inl rfl) ?_ rfl rfl
  (repeat (first | exact trivial | refine And.symm ⟨?_, _, rfl, ?_⟩)) <;> (repeat (first | exact .nil | refine .cons ?_ ?_ | refine .fn ?_ ?_ | (refine y7q rfl ?_ rfl; (first | rfl | (focus (simp; done)))) | (refine .sl rfl ?_ rfl (by intro h; cases h); (first | rfl | (focus (simp; done)))) | (refine .pur ?_; (first | rfl | (focus (simp; done)))) | refine .agg ?_ | refine .arr ?_ | refine .tup ?_))
noncomputable def encA (p : Pr) : List W := [aW (qhq p.2).1, .bool (decide ((((qhq p.2).2 : Nat) : Int) = 0))]
noncomputable def encZ (_ : Unit) : List W := [aW .zero, .bool false]
theorem aeach_no (t : Tree) (hb : t.nodes.length ≤ 4611686018427387903) (h : ¬ MayT t) : qCq cfg G 58 [.fel (tW t)] ([()].map encZ) := by
  refine urq (fn := Try.f58) rfl rfl rfl (Nat.le_of_ble_eq_true rfl) (fun L E R hy k0 => ?_)
  refine zcq (zbq (zdq rfl rfl (zsq rfl rfl rfl rfl rfl rfl (tpairs_no t hb h) ?_)))
  refine zaq rfl rfl (zaq rfl rfl (zaq rfl rfl (zaq rfl rfl (zaq rfl rfl (zeq ?_)))))
  refine zfq (zcq (zcq (zbq (zaq rfl rfl (zEq rfl rfl ?_)))))
  refine zeq ?_
  refine zfq (zQq rfl (zcq (zbq (zaq rfl rfl (zaq rfl rfl ?_)))))
  refine z3q rfl (jrq rfl rfl rfl (hy) (fun b R1 hb => ?_))
  refine zeq ?_
  refine zfq (zjq ?_)
  refine zlq (by intro h; cases h) ?_
  exact xdq (.inr rfl) rfl (yl_same (l := []) hb)
theorem aeach_it (t : Tree) (n : Nat) (t0 : T) (h : IsT t n t0) : qCq cfg G 58 [.fel (tW t)] (t0.all.map encA) := by
  have e : (t0.all.map pW).length = t0.all.length := List.length_map _
  have hl := h.len
  have ha := h.all_le
  refine urq (fn := Try.f58) rfl rfl rfl (Nat.le_of_ble_eq_true rfl) (fun L E R hy k0 => ?_)
  refine zcq (zbq (zdq rfl rfl (zsq rfl rfl rfl rfl rfl rfl (tpairs_s t n t0 h) ?_)))
  refine zaq rfl rfl (zaq rfl rfl (zaq rfl rfl (zaq rfl rfl (zaq rfl rfl (zeq ?_)))))
  refine zfq (zcq (zcq (zbq (zaq rfl rfl (zEq rfl rfl ?_)))))
  refine zeq ?_
  refine zfq (zCq rfl (ziq (zfq (zcq (zbq (zaq rfl rfl (zXq (w' := .int .i64 (t0.all.length : Int)) rfl rfl (by rw [← e]; rfl) ?_)))))))
  refine zaq rfl rfl (zeq ?_)
  refine zfq (zmq ?_)
  refine YNq (α := Nat × Res) (fun p => p.1 ≤ t0.all.length ∧ Yl cfg G L E ((t0.all.drop p.1).map encA) p.2) (fun p => [(21, .int .i64 (p.1 : Int))]) [(0, _), (19, _), (20, _)] (fun p => p.2) (fun p => t0.all.length - p.1) ((0, R)) ⟨rfl, rfl, rfl, trivial⟩ (⟨by simp, hy⟩) ⟨rfl, trivial⟩ rfl (fun p hI => ?_)
  obtain ⟨i, R⟩ := p
  obtain ⟨hi, hy⟩ := hI
  simp only at hi hy ⊢
  refine zcq (zbq (zEq rfl rfl ?_))
  refine zeq ?_
  refine zfq (zcq ?_)
  refine zHq rfl (fun h1 => ?_) (fun h1 => ?_)
  · have hi' : i < t0.all.length := by omega
    obtain ⟨x, hx⟩ : ∃ x, t0.all[i]? = some x := ⟨_, List.getElem?_eq_getElem hi'⟩
    have hv := h.val x (List.mem_of_getElem? hx)
    rw [drop_at hx, List.map_cons] at hy
    refine ziq (zfq (zcq (zmq (zcq (zbq (zaq rfl (z8q (i := i) rfl rfl rfl rfl rfl rfl rfl (yKq pW hx)) (zdq rfl rfl (zdq rfl rfl (zdq rfl rfl (zeq ?_))))))))))
    refine zfq (zcq (zbq (zaq rfl rfl (zdq rfl rfl (zsq rfl rfl rfl rfl rfl rfl (aread_s x.2 false (by omega)) ?_)))))
    refine zaq rfl rfl (zaq rfl rfl (zaq rfl rfl (zdq rfl rfl (zdq rfl rfl (zaq rfl rfl (zeq ?_))))))
    refine zfq (zcq (zbq (zaq rfl rfl (zdq rfl rfl (zaq rfl rfl (zEq rfl rfl ?_))))))
    refine z3q rfl (jrq rfl rfl rfl (hy) (fun b R1 hb => ?_))
    refine zaq rfl rfl (zeq ?_)
    refine zfq ?_
    refine zHq rfl (fun h2 => ?_) (fun h2 => ?_)
    · cases b with
      | true => cases h2
      | false =>
        refine zjq ?_
        refine ztq (by intro i h; cases h) ?_
        refine zlq (by intro h; cases h) ?_
        refine ykq (by intro h; cases h) ?_
        refine ztq (by intro i h; cases h) ?_
        exact xdq (.inr rfl) rfl hb
    · cases b with
      | false => exact absurd rfl h2
      | true =>
        refine ziq (ztq (by intro i h; cases h) ?_)
        refine zfq (zbq (zAq (i + 1) rfl rfl (by first | rfl | omega) ⟨by omega, by omega⟩ ?_))
        refine zaq rfl rfl (zeq ?_)
        exact yjq ((i + 1, R1)) (⟨hi', hb⟩) (by simp only; omega) ⟨rfl, trivial⟩ ⟨rfl, rfl, rfl, trivial⟩ (by repeat (first | exact trivial | refine ⟨by first | rfl | exact zyq (by first | rfl | (simp; done)), ?_⟩)) (by omega) (by repeat (first | exact zMq | refine zPq (by omega) ?_ | refine zNq (by omega) ?_ | refine zOq (by omega) ?_)) rfl
  · refine ytq ?_
    refine zlq (by intro h; cases h) ?_
    refine ykq (by intro h; cases h) ?_
    refine qpq ?_
    obtain rfl : i = t0.all.length := by omega
    rw [List.drop_length] at hy
    exact xdq (.inl rfl) rfl hy
theorem encA_ok {l : List Pr} : ∀ y ∈ l, purL (encA y) = true ∧ (encA y).length = 2 := fun y _ => ⟨rfl, rfl⟩
structure IsA (t : Tree) (n : Nat) (t0 : T) : Prop extends IsT t n t0 where
  held : ∀ p ∈ t0.all, (qhq p.2).2 = 0
def MayA (t : Tree) : Prop := ∃ n t0, IsA t n t0
noncomputable instance (t : Tree) : Decidable (MayA t) := Classical.propDecidable _
theorem qqq (t : Tree) (hb : t.nodes.length ≤ 4611686018427387903) : PS cfg G 10 [tW t] (.int .i64 (if MayA t then 0 else 8)) := by
  by_cases h : MayT t
  · obtain ⟨n, t0, h⟩ := may_is h
    refine ynq (fn := Try.f10) rfl rfl rfl (Nat.le_of_ble_eq_true rfl) (fun R k0 => ?_)
    refine zcq (zbq (zdq rfl rfl (zdq rfl rfl (zeq ?_))))
    refine zfq (zcq (zcq (zbq (zdq rfl rfl (zsq rfl rfl rfl rfl rfl rfl (aeach_s _) ?_)))))
    refine zeq ?_
    refine zfq (zmq ?_)
    refine v4q (encA) (t0.all) (fun i (_ : Unit) => ∀ j p, j < i → t0.all[j]? = some p → (qhq p.2).2 = 0) (fun _ => R) (()) rfl (by first | rfl | assumption | (simp; done)) (aeach_it t n t0 h) (encA_ok) (fun j p hj => by omega) rfl (fun i a y hy hI => ?_) (fun a hI => ?_)
    · refine zbq (zaq rfl rfl (zeq ?_))
      refine Ynq (zmq (zcq (zbq (zaq rfl rfl (zaq rfl rfl (zeq ?_))))))
      refine zfq ?_
      refine zHq rfl (fun h1 => ?_) (fun h1 => ?_)
      · have hno : ¬ MayA t := by
          rintro ⟨n', t1, ha⟩
          obtain rfl : n' = n := by have := ha.root; have := h.root; omega
          obtain rfl := ha.rep.uniq h.rep
          have := ha.held y (List.mem_of_getElem? hy)
          rw [this] at h1
          simp at h1
        refine zcq (zbq (zdq rfl rfl (zeq ?_)))
        refine zfq (zjq ?_)
        refine ztq (by intro i h; cases h) ?_
        refine Ymq (by intro h; cases h) ?_
        refine ztq (by intro i h; cases h) ?_
        refine zlq (by intro h; cases h) ?_
        exact znq (.inr rfl) rfl (by rw [if_neg hno])
      · have hok : (qhq y.2).2 = 0 := by simp at h1; omega
        refine ziq (ztq (by intro i h; cases h) ?_)
        exact Ykq (()) (fun j p hj hp => by rcases Nat.lt_succ_iff_lt_or_eq.1 hj with q | rfl; exact hI j p q hp; exact (Option.some.inj (hy.symm.trans hp)) ▸ hok) (by omega) (by repeat (first | exact zMq | refine zPq (by omega) ?_ | refine zNq (by omega) ?_ | refine zOq (by omega) ?_)) rfl
    · have yes : MayA t := ⟨n, t0, h, fun p hp => by
        obtain ⟨j, hj, hjp⟩ := List.getElem_of_mem hp
        exact hI j p hj (by rw [List.getElem?_eq_getElem hj, hjp])⟩
      refine ztq (by intro i h; cases h) ?_
      refine zfq (zcq (zbq (zdq rfl rfl (zeq ?_))))
      refine zfq (zjq ?_)
      exact znq (.inr rfl) rfl (by rw [if_pos yes])
  · have hno : ¬ MayA t := fun ⟨n, t0, ha⟩ => h ha.toIsT.may
    refine ynq (fn := Try.f10) rfl rfl rfl (Nat.le_of_ble_eq_true rfl) (fun R k0 => ?_)
    refine zcq (zbq (zdq rfl rfl (zdq rfl rfl (zeq ?_))))
    refine zfq (zcq (zcq (zbq (zdq rfl rfl (zsq rfl rfl rfl rfl rfl rfl (aeach_s _) ?_)))))
    refine zeq ?_
    refine zfq (zmq ?_)
    refine v5q (encZ) ([()]) (fun i => i = 0) rfl (by first | rfl | assumption | (simp; done)) (aeach_no t hb h) (fun y _ => ⟨rfl, rfl⟩) (rfl) (fun i y hy hI => ?_) (fun hI => ?_)
    · refine zbq (zaq rfl rfl (zeq ?_))
      refine Ynq (zmq (zcq (zbq (zaq rfl rfl (zaq rfl rfl (zeq ?_))))))
      refine zfq (zQq rfl (zcq (zbq (zdq rfl rfl (zeq ?_)))))
      refine zfq (zjq ?_)
      refine ztq (by intro i h; cases h) ?_
      refine q_leave (by intro h; cases h) ?_
      refine ztq (by intro i h; cases h) ?_
      refine zlq (by intro h; cases h) ?_
      exact znq (.inr rfl) rfl (by rw [if_neg hno])
    · exfalso; simp at hI
def uXq (t0 : T) (k : Dig) : Acct := match t0.find k 0 with
  | none => .zero
  | some v => (qhq v).1
theorem IsA.acct {t : Tree} {n : Nat} {t0 : T} (h : IsA t n t0) {k : Dig} {v : List UInt8} (hv : t0.find k 0 = some v) : (k, v) ∈ t0.all ∧ (qhq v).2 = 0 := by
  rw [kNq k j2q h.ok] at hv
  have := (findL_some h.srt).1 hv
  exact ⟨this, h.held _ this⟩
theorem aget_s (t : Tree) (n : Nat) (t0 : T) (h : IsA t n t0) (k : Dig) : PS cfg G 11 [tW t, dW k] (.tup [aW (uXq t0 k), .int .i64 0]) := by
  have yes : MayA t := ⟨n, t0, h⟩
  have hl := h.len
  cases hf : t0.find k 0 with
  | none =>
    have e : uXq t0 k = .zero := by unfold uXq; rw [hf]
    rw [e]
    refine ynq (fn := Try.f11) rfl rfl rfl (Nat.le_of_ble_eq_true rfl) (fun R k0 => ?_)
    refine zcq (zbq (zdq rfl rfl (zdq rfl rfl (zdq rfl rfl (zaq rfl rfl (zeq ?_))))))
    refine zfq (zcq (zcq (zbq (zdq rfl rfl ?_))))
    first | refine zsq rfl rfl rfl rfl rfl rfl (yXq (w' := .int .i64 0) (qqq t (by omega)) (by rw [if_pos yes])) ?_ | refine zsq rfl rfl rfl rfl rfl rfl (qqq _ (by omega)) ?_
    refine zaq rfl rfl (zeq ?_)
    refine zfq (zcq (zbq (zaq rfl rfl (zEq rfl rfl ?_))))
    refine zeq ?_
    refine zfq (zCq rfl (ziq (zfq (zcq (zbq (zdq rfl rfl (zdq rfl rfl (zsq rfl rfl rfl rfl rfl rfl (yXq (w' := .tup [.nils, .bool false]) (tget_s t n t0 k h.toIsT) (by rw [hf]; rfl)) ?_))))))))
    refine zaq rfl rfl (zaq rfl rfl (zaq rfl rfl (zaq rfl rfl (zaq rfl rfl (zeq ?_)))))
    refine zfq (zcq (zcq (zbq (zaq rfl rfl (zaq rfl rfl (zeq ?_))))))
    refine zfq (zQq rfl (zcq (zbq (zaq rfl rfl (zdq rfl rfl (zaq rfl rfl (zeq ?_)))))))
    refine zfq (zjq ?_)
    refine zlq (by intro h; cases h) ?_
    exact znq (.inr rfl) rfl rfl
  | some v =>
    obtain ⟨h1, h2⟩ := h.acct hf
    have hv := h.val _ h1
    have e : uXq t0 k = (qhq v).1 := by unfold uXq; rw [hf]
    rw [e]
    refine ynq (fn := Try.f11) rfl rfl rfl (Nat.le_of_ble_eq_true rfl) (fun R k0 => ?_)
    refine zcq (zbq (zdq rfl rfl (zdq rfl rfl (zdq rfl rfl (zaq rfl rfl (zeq ?_))))))
    refine zfq (zcq (zcq (zbq (zdq rfl rfl ?_))))
    first | refine zsq rfl rfl rfl rfl rfl rfl (yXq (w' := .int .i64 0) (qqq t (by omega)) (by rw [if_pos yes])) ?_ | refine zsq rfl rfl rfl rfl rfl rfl (qqq _ (by omega)) ?_
    refine zaq rfl rfl (zeq ?_)
    refine zfq (zcq (zbq (zaq rfl rfl (zEq rfl rfl ?_))))
    refine zeq ?_
    refine zfq (zCq rfl (ziq (zfq (zcq (zbq (zdq rfl rfl (zdq rfl rfl (zsq rfl rfl rfl rfl rfl rfl (yXq (w' := .tup [bW v, .bool true]) (tget_s t n t0 k h.toIsT) (by rw [hf]; rfl)) ?_))))))))
    refine zaq rfl rfl (zaq rfl rfl (zaq rfl rfl (zaq rfl rfl (zaq rfl rfl (zeq ?_)))))
    refine zfq (zcq (zcq (zbq (zaq rfl rfl (zaq rfl rfl (zeq ?_))))))
    refine zfq (zCq rfl (ziq (zfq (zcq (zbq (zaq rfl rfl (zsq rfl rfl rfl rfl rfl rfl (aread_s v false (by simp only at hv; omega)) ?_)))))))
    refine zaq rfl rfl (zaq rfl rfl (zdq rfl rfl (zaq rfl rfl (zeq ?_))))
    refine zfq (zjq ?_)
    exact znq (.inr rfl) rfl (by rw [h2]; rfl)
theorem aget_no (t : Tree) (hb : t.nodes.length ≤ 4611686018427387903) (h : ¬ MayA t) (k : Dig) : PS cfg G 11 [tW t, dW k] (.tup [aW .zero, .int .i64 8]) := by
  refine ynq (fn := Try.f11) rfl rfl rfl (Nat.le_of_ble_eq_true rfl) (fun R k0 => ?_)
  refine zcq (zbq (zdq rfl rfl (zdq rfl rfl (zdq rfl rfl (zaq rfl rfl (zeq ?_))))))
  refine zfq (zcq (zcq (zbq (zdq rfl rfl (zsq rfl rfl rfl rfl rfl rfl (yXq (w' := .int .i64 8) (qqq t hb) (by rw [if_neg h])) ?_)))))
  refine zaq rfl rfl (zeq ?_)
  refine zfq (zcq (zbq (zaq rfl rfl (zEq rfl rfl ?_))))
  refine zeq ?_
  refine zfq (zQq rfl (zcq (zbq (zaq rfl rfl (zaq rfl rfl (zdq rfl rfl (zaq rfl rfl (zeq ?_))))))))
  refine zfq (zjq ?_)
  refine zlq (by intro h; cases h) ?_
  exact znq (.inr rfl) rfl rfl
end Go.Proofs.Ytgeelfdgnehdnaa
namespace Go.Proofs.Ytgeelfdgnehdnaa
open Go.RowKit
set_option linter.unusedSimpArgs false
set_option linter.unusedVariables false
attribute [local irreducible] CoW OpW FlW Step Spec
variable {G : Nat → Option W}
noncomputable def nsW (ns : List Node) : W := .arr (ns.length * 36) 36 (ns.map nW)
@[simp] theorem qTq (ns : List Node) : purW (nsW ns) = true := xnq ns
theorem nclone_s (ns : List Node) (f : Bool) (hl : ns.length ≤ 1000000000) : qVq cfg G 56 0 [.fz (ns.map nW) 36 f] [] fun w hp nw =>
    (ns = [] ∧ w = .nils ∧ hp = [] ∧ nw = 0) ∨ (w = .sl 0 0 0 ns.length 36 none ∧ hp = [(0, 70, nsW ns)] ∧ nw = 1) := by
  intro R
  have e : (ns.map nW).length = ns.length := List.length_map _
  refine yuq (fn := Try.f56) rfl rfl rfl (Nat.le_of_ble_eq_true rfl) (fun k0 => ?_)
  refine zcq (zbq (zaq rfl rfl (zeq ?_)))
  refine zfq (zcq (zcq (zbq (zaq rfl rfl ?_))))
  first | refine zaq rfl rfl ?_ | refine z3q rfl (step_nil rfl rfl rfl rfl rfl (fun bn hn => ?_))
  refine zeq ?_
  refine zfq ?_
  refine zHq rfl (fun h1 => ?_) (fun h1 => ?_)
  · cases bn with
    | false => cases h1
    | true =>
      have hn := hn rfl
      have hl0 : ns = [] := by cases ns with
        | nil => rfl
        | cons c l => simp at hn
      refine zcq (zbq (zaq rfl rfl (zeq ?_)))
      refine zfq (zjq ?_)
      refine zlq (by intro h; cases h) ?_
      exact fin (.inr rfl) Ent.refl rfl ⟨rfl, .inl ⟨hl0, rfl, rfl, rfl⟩⟩
  · cases ns with
    | nil =>
      skip
      refine ziq (zfq (zcq (zbq (zdq rfl rfl (zaq rfl rfl (zdq rfl (jCq rfl rfl (YQq rfl rfl rfl rfl rfl)) (zaq rfl rfl (zeq ?_))))))))
      refine zfq (zjq ?_)
      exact fin (.inr rfl) Ent.refl rfl ⟨rfl, .inr ⟨rfl, rfl, rfl⟩⟩
    | cons c l =>
      refine ziq (zfq (zcq (zbq (zdq rfl rfl (zaq rfl rfl (zdq rfl (jCq rfl rfl (uWq (len := 0) (news := (c :: l).map nW) (olds := []) (k := ti70) rfl rfl rfl rfl rfl (by simp) (by show (0 + ((c :: l).map nW).length) * ti70.bytes ≤ _; rw [e]; show (0 + (c :: l).length) * 80 ≤ _; omega) (by rw [e]; omega) rfl (by show 0 < 0 + (0 + ((c :: l).map nW).length) * 36; rw [e]; simp only [List.length_cons]; omega) rfl rfl)) ?_))))))
      refine zaq rfl rfl (zeq ?_)
      refine zfq (zjq ?_)
      refine fin (.inr rfl) (joq (b := 0) (k := 1) (fr2 := [(2, .sl 0 0 0 (c :: l).length 36 none)]) (hp2 := [(0, 70, nsW (c :: l))]) (by omega) (by omega) (by show 1 < 2; omega) ⟨⟨?_, rfl⟩, trivial⟩ ⟨⟨by omega, ?_, zyq (qTq _)⟩, trivial⟩ (by simp)) rfl ⟨rfl, .inr ⟨rfl, rfl, rfl⟩⟩
      · show some (W.sl 1 0 0 (0 + ((c :: l).map nW).length) 36 none) = some (W.sl 1 0 0 (c :: l).length 36 none)
        rw [e, Nat.zero_add]
      · rw [yBq (qTq _)]
        show some (70, W.arr ((0 + ((c :: l).map nW).length) * 36) 36 ([] ++ (c :: l).map nW)) = some (70, nsW (c :: l))
        rw [e, Nat.zero_add]
        rfl
theorem node_get (ns : List Node) {i : Nat} {x : Node} (h : ns[i]? = some x) : yFq 50 (nsW ns) (0 + i * 36 + 33) 1 false = some (bW x.val) :=
  get_in (yKq nW h) (by omega) (by omega) (by simp) rfl
theorem node_put (ns : List Node) {i : Nat} {x : Node} (h : ns[i]? = some x) : qwq 50 (nsW ns) (0 + i * 36 + 33) (bW x.val) = some (nsW ns) := by
  have h1 := yKq nW h
  rw [nsW, put_in (x' := nW x) h1 (by omega) (by omega) (by simp [W.isAgg, bW]) rfl, set_same h1]
theorem twin_s (ns : List Node) (root : Int) (hl : ns.length ≤ 1000000000) (hv : ∀ x ∈ ns, x.val.length ≤ 70368744177664) : qVq cfg G 30 0 [tW ⟨ns, root⟩] [] fun w hp nw =>
    (ns = [] ∧ w = .agg 2 [.nils, .int .i64 root] ∧ hp = [(1, 24, .agg 2 [.nils, .int .i64 root]), (0, 24, .agg 2 [.nils, .int .i64 root])] ∧ nw = 2) ∨
    (w = .agg 2 [.sl 2 0 0 ns.length 36 none, .int .i64 root] ∧ hp = [(2, 70, nsW ns), (1, 24, .agg 2 [.sl 2 0 0 ns.length 36 none, .int .i64 root]), (0, 24, .agg 2 [.sl 2 0 0 ns.length 36 none, .int .i64 root])] ∧ nw = 3) := by
  intro R
  refine yuq (fn := Try.f30) rfl rfl rfl (Nat.le_of_ble_eq_true rfl) (fun k0 => ?_)
  refine zcq (zbq (zdq rfl rfl (zdq rfl rfl (zeq ?_))))
  refine zfq (zcq (zbq (zaq rfl rfl (zdq rfl rfl ?_))))
  skip
  refine z3q rfl (u1q rfl rfl rfl rfl rfl (by simp [xnq]) (nclone_s ns false hl) ?_)
  rintro w hp1 nw1 (⟨hn, rfl, rfl, rfl⟩ | ⟨rfl, rfl, rfl⟩)
  · skip
    skip
    refine zaq rfl rfl (zdq rfl rfl (zeq ?_))
    refine zfq (zcq (zcq (zbq (zaq rfl rfl (zdq rfl rfl ?_)))))
    first | refine ZFq rfl rfl ?_ | refine zaq rfl rfl ?_
    refine zaq rfl rfl (zeq ?_)
    refine zfq (zmq ?_)
    refine ySq (α := Nat) (fun i => i = 0) (fun i => [(11, .int .i64 (i : Int))]) [(1, _), (2, _), (10, _)] (fun i => 1 - i) (0) ⟨rfl, rfl, rfl, trivial⟩ (rfl) ⟨rfl, trivial⟩ (fun i hI => ?_)
    subst hI
    refine zcq (zbq (zEq rfl rfl ?_))
    refine zeq ?_
    refine zfq (zcq (zCq rfl (ytq ?_)))
    refine zlq (by intro h; cases h) ?_
    refine ykq (by intro h; cases h) ?_
    refine qpq (zfq (zcq (zbq (zdq rfl rfl (zdq rfl rfl (zeq ?_))))))
    refine zfq (zjq ?_)
    exact fin (.inr rfl) Ent.refl rfl ⟨rfl, .inl ⟨hn, rfl, rfl, rfl⟩⟩
  · rw [renH_pur1 (qTq _)]
    show OpW cfg G _ _ _ _ [(2, 70, nsW ns), (1, 24, .agg 2 [.nils, .int .i64 0]), (0, 24, tW ⟨ns, root⟩)] 3 R _
    refine zaq rfl rfl (zdq rfl rfl (zeq ?_))
    refine zfq (zcq (zcq (zbq (zaq rfl rfl (zdq rfl rfl ?_)))))
    first | refine ZFq rfl rfl ?_ | refine zaq rfl rfl ?_
    refine zaq rfl rfl (zeq ?_)
    refine zfq (zmq ?_)
    refine ySq (α := Nat) (fun i => i ≤ ns.length) (fun i => [(11, .int .i64 (i : Int))]) [(1, _), (2, _), (10, _)] (fun i => ns.length - i) (0) ⟨rfl, rfl, rfl, trivial⟩ (Nat.zero_le _) ⟨rfl, trivial⟩ (fun i hI => ?_)
    refine zcq (zbq (zEq rfl rfl ?_))
    refine zeq ?_
    refine zfq (zcq ?_)
    refine zHq rfl (fun h1 => ?_) (fun h1 => ?_)
    · have hi : i < ns.length := by omega
      obtain ⟨x, hx⟩ : ∃ x, ns[i]? = some x := ⟨_, List.getElem?_eq_getElem hi⟩
      have hxv := hv x (List.mem_of_getElem? hx)
      refine ziq (zfq (zcq (zmq (zcq (zbq (zaq rfl rfl (zaq rfl rfl (zeq ?_))))))))
      refine zfq (z0q (zhq rfl rfl (zGq rfl rfl ?_)))
      refine zhq rfl rfl (zhq rfl rfl (zGq rfl rfl ?_))
      refine zhq rfl rfl (zhq rfl (ylq (i := i) rfl rfl rfl rfl rfl rfl rfl hi) (zhq rfl rfl ?_))
      refine jjq rfl (y1q rfl rfl rfl (node_get ns hx)) (by first | rfl | kernel_rfl) ?_
      refine fl_ps rfl rfl rfl rfl rfl rfl (v6q x.val false hxv) (by simp) (by simp) (by first | rfl | kernel_rfl) ?_
      refine zhq rfl (ylq (i := i) rfl rfl rfl rfl rfl rfl rfl hi) (zhq rfl rfl ?_)
      refine jjq rfl (st_same rfl rfl rfl rfl rfl (node_put ns hx)) (by first | rfl | kernel_rfl) ?_
      refine z9q ?_
      refine ztq (by intro i h; cases h) ?_
      refine zfq (zbq (zAq (i + 1) rfl rfl (by first | rfl | omega) ⟨by omega, by omega⟩ ?_))
      refine zaq rfl rfl (zeq ?_)
      exact yjq (i + 1) (hi) (by omega) ⟨rfl, trivial⟩ ⟨rfl, rfl, rfl, trivial⟩ (by repeat (first | exact trivial | refine ⟨by first | rfl | exact zyq (by first | rfl | (simp; done)), ?_⟩)) (by omega) (by repeat (first | exact zMq | refine zPq (by omega) ?_ | refine zNq (by omega) ?_ | refine zOq (by omega) ?_)) rfl
    · refine ytq ?_
      refine zlq (by intro h; cases h) ?_
      refine ykq (by intro h; cases h) ?_
      refine qpq (zfq (zcq (zbq (zdq rfl rfl (zdq rfl rfl (zeq ?_))))))
      refine zfq (zjq ?_)
      exact fin (.inr rfl) Ent.refl rfl ⟨rfl, .inr ⟨rfl, rfl, rfl⟩⟩
end Go.Proofs.Ytgeelfdgnehdnaa
namespace Go.Proofs.Ytgeelfdgnehdnaa
open Go.RowKit
set_option linter.unusedSimpArgs false
set_option linter.unusedVariables false
attribute [local irreducible] CoW OpW FlW Step Spec
variable {G : Nat → Option W}
noncomputable def mkW (b n : Nat) (root : Int) : W := .agg 2 [.sl b 0 0 n 36 none, .int .i64 root]
theorem nsW_snoc (ns : List Node) (x : Node) : nsW (ns ++ [x]) = .arr ((ns.length + 1) * 36) 36 (ns.map nW ++ [nW x]) := by simp [nsW]
theorem node_s (ns : List Node) (root : Int) (x : Node) (hl : ns.length ≤ 1000000000) : qVq cfg G 74 2 [.ptr 0 0, nW x] [(0, 101, mkW 1 ns.length root), (1, 70, nsW ns)] fun w hp nw =>
    w = .int .i64 ((ns.length + 1 : Nat) : Int) ∧ hp = [(0, 101, mkW 2 (ns.length + 1) root), (2, 70, nsW (ns ++ [x]))] ∧ nw = 3 := by
  intro R
  have el : (ns.map nW).length = ns.length := List.length_map _
  refine yuq (fn := Try.f74) rfl rfl rfl (Nat.le_of_ble_eq_true rfl) (fun k0 => ?_)
  refine zcq (zbq (zdq rfl rfl (zaq rfl rfl (zeq ?_))))
  refine zfq (zcq (z0q (zhq rfl rfl (zhq rfl rfl (zhq rfl rfl (zhq rfl rfl (zhq rfl rfl (zGq rfl rfl ?_))))))))
  refine zGq rfl rfl ?_
  refine zGq rfl rfl ?_
  refine jjq rfl (jCq rfl rfl (uWq (len := ns.length) (news := [nW x]) (olds := ns.map nW) (k := ti70) rfl rfl rfl rfl (jQq rfl rfl rfl rfl) (by simp) (by show (ns.length + 1) * 80 ≤ _; omega) (by show ns.length + 1 ≤ _; omega) rfl (by show ns.length * 36 < 0 + (ns.length + 1) * 36; omega) rfl (qeq (by decide) el.symm rfl))) (by first | rfl | kernel_rfl) ?_
  refine zhq rfl rfl (zhq rfl rfl (zhq rfl rfl (zGq rfl rfl ?_)))
  refine z9q ?_
  refine zfq (zcq (zbq (zaq rfl rfl (zaq rfl rfl (zaq rfl rfl (zaq rfl rfl (zdq rfl rfl ?_)))))))
  first | refine ZFq rfl rfl ?_ | refine zaq rfl rfl ?_
  refine zaq rfl rfl (zeq ?_)
  refine zfq (zjq ?_)
  refine fin (.inr rfl) (joq (b := 2) (k := 4) (fr2 := [(4, .int .i64 ((ns.length + 1 : Nat) : Int))]) (hp2 := [(0, 101, mkW 2 (ns.length + 1) root), (2, 70, nsW (ns ++ [x]))]) (by omega) (by omega) (by show 4 < 5; omega) ⟨⟨rfl, rfl⟩, trivial⟩ ⟨⟨by omega, rfl, rfl⟩, ⟨by omega, ?_, zyq (qTq _)⟩, trivial⟩ (by simp)) rfl ⟨rfl, rfl, rfl, rfl⟩
  rw [yBq (qTq _), nsW_snoc]
  rfl
noncomputable def Mk (root : Int) (P : List Node → Nat → Prop) : W → HpW → Nat → Prop := fun w hp nw =>
  ∃ ns m, P ns m ∧ w = .int .i64 ((m : Nat) : Int) ∧ hp = [(0, 101, mkW 2 ns.length root), (2, 70, nsW ns)] ∧ nw = 3
theorem yzq {o : Oper} {fr : FrW} {hp : HpW} {nw : Nat} {R : Res} {post : W → HpW → Nat → Res → Option EvW → Prop} {x : Operand} {xs : Array Operand} {ats : Array TypeId} {f : FuncId} {us : List W} {root : Int} {ns : List Node} {P : List Node → Nat → Prop} (k : Nat)
    (ho : o.op = .call ⟨.value x, xs, ats⟩) (hx : evW cfg G fr x = some (.fn f [] [])) (he : cfg.ext f = none) (hxs : evLW cfg G fr xs.toList = some (.ptr 0 0 :: us)) (hpu : purL us = true) (hk : 0 < k) (hkn : k < nw)
    (h0 : hget hp 0 = some (101, mkW k ns.length root)) (h1 : hget hp k = some (70, nsW ns)) (sp : qVq cfg G f 2 (.ptr 0 0 :: us) [(0, 101, mkW 1 ns.length root), (1, 70, nsW ns)] (Mk root P))
    (hpost : ∀ ns' m, P ns' m → post (.int .i64 ((m : Nat) : Int)) ((0, 101, mkW nw ns'.length root) :: (nw, 70, nsW ns') :: delA [0, k] hp) (nw + 1) R (some .dirty)) : Step cfg G o fr hp nw R post := by
  refine q8q (ext := [0, k]) (ws := .ptr 0 0 :: us) ho hx he hxs ?_ sp ?_ ?_ (by simp) (YDq h0 (by rw [yBq (qTq _)]; exact h1) rfl (zyq (qTq _))) ?_ ?_
  · show .ptr 0 0 :: (us ++ []) = W.ptr 0 0 :: qaq (numC [0, k] nw) us
    rw [jTq hpu, List.append_nil]
  · simp; omega
  · intro b hb
    simp only [List.mem_cons, List.not_mem_nil, or_false] at hb
    omega
  · have h := zyq (m := 2) (w := .tup us) hpu
    have h : refL 2 us = true := h
    show (refB 2 (.ptr 0 0) && refL 2 us) = true
    rw [h]; rfl
  · rintro w hp1 nw1 ⟨ns', m, h, rfl, rfl, rfl⟩
    have e : renH (numC [0, k] nw) [(0, 101, mkW 2 ns'.length root), (2, 70, nsW ns')] = [(0, 101, mkW nw ns'.length root), (nw, 70, nsW ns')] := by
      simp only [renH, yBq (qTq _)]; rfl
    have h := hpost ns' m h
    rw [show ([0, k] : List Nat).length = 2 from rfl, e]
    exact h
theorem jXq {k0 : Nat} {rs : List ResultVar} {x : Exit} {fr : FrW} {hp : HpW} {nw : Nat} {R : Res} {root : Int} {P : List Node → Nat → Prop} {ns : List Node} {m : Nat} (s k : Nat) (hx : x = .normal ∨ x = .ret) (hk : 2 ≤ k) (hkn : k < nw) (hf : getW fr s = some (.int .i64 ((m : Nat) : Int)))
    (h0 : hget hp (tau1 2 k 0) = some (101, renW (tau1 2 k) (mkW 2 ns.length root))) (h1 : hget hp (tau1 2 k 2) = some (70, nsW ns)) (ho : outW cfg [(s, .int .i64 ((m : Nat) : Int))] [(0, 101, mkW 2 ns.length root), (2, 70, nsW ns)] rs = some (.int .i64 ((m : Nat) : Int))) (hP : P ns m) :
    QFin cfg G 2 k0 rs (fun w hp nw R' => R' = R ∧ Mk root P w hp nw) x fr hp nw R :=
  fin hx (joq (b := 2) (k := k) (fr2 := [(s, .int .i64 ((m : Nat) : Int))]) (hp2 := [(0, 101, mkW 2 ns.length root), (2, 70, nsW ns)]) (by omega) hk hkn ⟨⟨hf, rfl⟩, trivial⟩ ⟨⟨by omega, h0, rfl⟩, ⟨by omega, by rw [yBq (qTq _)]; exact h1, zyq (qTq _)⟩, trivial⟩ (by simp)) ho ⟨rfl, ns, m, hP, rfl, rfl, rfl⟩
def NodeP (ns : List Node) (x : Node) : List Node → Nat → Prop := fun ns' m => ns' = ns ++ [x] ∧ m = ns.length + 1
theorem qxq (ns : List Node) (root : Int) (x : Node) (hl : ns.length ≤ 1000000000) : qVq cfg G 74 2 [.ptr 0 0, nW x] [(0, 101, mkW 1 ns.length root), (1, 70, nsW ns)] (Mk root (NodeP ns x)) := by
  have h := node_s (G := G) ns root x hl
  intro R
  have e : (fun w hp nw R' => R' = R ∧ (w = .int .i64 ((ns.length + 1 : Nat) : Int) ∧ hp = [(0, 101, mkW 2 (ns.length + 1) root), (2, 70, nsW (ns ++ [x]))] ∧ nw = 3)) = (fun (w : W) (hp : HpW) (nw : Nat) (R' : Res) => R' = R ∧ Mk root (NodeP ns x) w hp nw) := by
    funext w hp nw R'
    refine propext (and_congr_right fun _ => ⟨fun ⟨h1, h2, h3⟩ => ⟨_, _, ⟨rfl, rfl⟩, h1, by rw [h2]; simp, h3⟩, ?_⟩)
    rintro ⟨ns', m, ⟨rfl, rfl⟩, h1, h2, h3⟩
    exact ⟨h1, by rw [h2]; simp, h3⟩
  exact e ▸ h R
def Gr (ns : List Node) (f : Nat) (t : T) : List Node → Nat → Prop := fun ns' m => (∃ ms, ns' = ns ++ ms ∧ ms.length ≤ f) ∧ okN ns' ∧ Rep ns' m t
theorem okN_snoc {ns : List Node} {x : Node} (h : okN ns) (hx : oneB x ns.length) : okN (ns ++ [x]) := fun i y hy => by
  rcases Nat.lt_trichotomy i ns.length with h1 | rfl | h1
  · rw [List.getElem?_append_left h1] at hy; exact h i y hy
  · rw [List.getElem?_append_right (Nat.le_refl _), Nat.sub_self] at hy
    cases hy; exact hx
  · rw [List.getElem?_append_right (by omega), List.getElem?_eq_none (by simp; omega)] at hy
    cases hy
theorem at_snoc (ns : List Node) (x : Node) : (ns ++ [x])[ns.length]? = some x := by simp
theorem leaf_one {k : Dig} {v : List UInt8} (hv : MayP [(k, v)]) (n : Nat) : oneB ⟨true, k, v, 0, 0⟩ n := by simp [oneB, hv]
theorem YEq {ns : List Node} {k : Dig} {v : List UInt8} (hok : okN ns) (hv : MayP [(k, v)]) {f : Nat} (hf : 0 < f) : Gr ns f (.leaf k v) (ns ++ [⟨true, k, v, 0, 0⟩]) (ns.length + 1) :=
  ⟨⟨_, rfl, hf⟩, okN_snoc hok (leaf_one hv _), .leaf (at_snoc ns _)⟩
theorem qEq {ns ms : List Node} {l r f : Nat} {L R : T} (hms : ms.length ≤ f) (hok : okN (ns ++ ms)) (hl : Rep (ns ++ ms) l L) (hr : Rep (ns ++ ms) r R) (h : 0 < l + r) : Gr ns (f + 1) (.fork L R) (ns ++ ms ++ [forkN l r]) ((ns ++ ms).length + 1) :=
  ⟨⟨ms ++ [forkN l r], by simp, by simp; omega⟩, okN_snoc hok (by have := hl.le; have := hr.le; simp only [oneB, forkN, Bool.false_eq_true, if_false]; exact ⟨by omega, by omega, trivial, trivial, by omega⟩), .fork (at_snoc _ _) hl.le hr.le (hl.app _) (hr.app _)⟩
theorem u7q (ns : List Node) {i : Nat} {x : Node} (h : ns[i]? = some x) : ∃ w, yFq 50 (nsW ns) (0 + i * 36) 36 true = some w ∧ (w = nW x ∨ (ns.length = 1 ∧ w = .arr 36 36 [nW x])) := by
  by_cases e : ns.length = 1
  · obtain ⟨y, rfl⟩ := List.length_eq_one_iff.1 e
    cases i with
    | zero => cases h; exact ⟨_, rfl, .inr ⟨rfl, rfl⟩⟩
    | succ i => simp at h
  · have hi := (List.getElem?_eq_some_iff.1 h).1
    exact ⟨_, get_in (off := 0) (yKq nW h) (by omega) (by omega) (by rw [show Nat.beq 36 (ns.length * 36) = false from by rw [← Bool.not_eq_true, Nat.beq_eq]; omega]; simp) rfl, .inl rfl⟩
abbrev YUq (G : Nat → Option W) (root : Int) (k : Dig) (v : List UInt8) (ns : List Node) (n d : Nat) (P : List Node → Nat → Prop) : Prop := qVq cfg G 55 2 [.ptr 0 0, .int .i64 ((n : Nat) : Int), .int .i64 ((d : Nat) : Int), nW ⟨true, k, v, 0, 0⟩] [(0, 101, mkW 1 ns.length root), (1, 70, nsW ns)] (Mk root P)
theorem with_nil {root : Int} {k : Dig} {v : List UInt8} {ns : List Node} {d f : Nat} (hok : okN ns) (hv : MayP [(k, v)]) (hf : 0 < f) (hl : ns.length ≤ 1000000000) : YUq G root k v ns 0 d (Gr ns f (.leaf k v)) := by
  intro R
  refine yuq (fn := Try.f55) rfl rfl rfl (Nat.le_of_ble_eq_true rfl) (fun k0 => ?_)
  refine zcq (zbq (zdq rfl rfl (zaq rfl rfl (zeq ?_))))
  refine zfq (zcq (zcq (zbq (zaq rfl rfl (zEq rfl rfl ?_)))))
  refine zeq ?_
  refine zfq ?_
  refine zHq rfl (fun h1 => ?_) (fun h1 => ?_)
  · refine zcq (zbq (zaq rfl rfl (zdq rfl rfl ?_)))
    (refine z3q rfl (yzq 1 rfl rfl rfl rfl (by simp) (by omega) (by show 1 < 3; omega) rfl rfl (qxq ns root _ hl) ?_); rintro ns1 m ⟨rfl, rfl⟩)
    refine zaq rfl rfl (zeq ?_)
    refine zfq (zjq ?_)
    refine zlq (by intro h; cases h) ?_
    exact jXq 8 3 (.inr rfl) (by omega) (by show 3 < 4; omega) rfl rfl rfl rfl (YEq hok hv hf)
  · exfalso; omega
theorem with_hit {root : Int} {k : Dig} {v v' : List UInt8} {ns : List Node} {i d f : Nat} {l r : Int} (hx : ns[i]? = some ⟨true, k, v', l, r⟩) (hok : okN ns) (hv : MayP [(k, v)]) (hf : 0 < f) (hl : ns.length ≤ 1000000000) : YUq G root k v ns (i + 1) d (Gr ns f (.leaf k v)) := by
  intro R
  have hi := (List.getElem?_eq_some_iff.1 hx).1
  obtain ⟨w, hw, rfl | ⟨_, rfl⟩⟩ := u7q ns hx
  · refine yuq (fn := Try.f55) rfl rfl rfl (Nat.le_of_ble_eq_true rfl) (fun k0 => ?_)
    refine zcq (zbq (zdq rfl rfl (zaq rfl rfl (zeq ?_))))
    refine zfq (zcq (zcq (zbq (zaq rfl rfl (zEq rfl rfl ?_)))))
    refine zeq ?_
    refine zfq ?_
    refine zHq rfl (fun h1 => ?_) (fun h1 => ?_)
    · exfalso; omega
    · refine ziq (zfq (zcq (zbq (zaq rfl rfl (zaq rfl rfl (zaq rfl rfl (zaq rfl rfl (zdq rfl rfl (zaq rfl rfl (zAq (i) rfl rfl (by first | rfl | omega) ⟨by omega, by omega⟩ ?_))))))))))
      refine zaq rfl (ylq (i := i) rfl rfl rfl rfl rfl rfl rfl hi) (zdq rfl (y1q rfl rfl rfl hw) (zdq rfl rfl (zdq rfl rfl (zeq ?_))))
      refine zfq (zcq (zcq (zbq (zaq rfl rfl (zdq rfl rfl ?_)))))
      refine k8q (fun h2 => ?_) (fun h2 => ?_)
      · refine zaq rfl rfl (zaq rfl rfl (zdq rfl rfl (zaq rfl rfl (zdq rfl rfl ?_))))
        refine jUq rfl (qbq rfl rfl rfl rfl (qPq rfl rfl rfl rfl rfl rfl _ _ 250)) yQq ?_
        refine zaq rfl rfl (zeq ?_)
        refine zfq ?_
        refine zHq rfl (fun h3 => ?_) (fun h3 => ?_)
        · refine zcq (zbq (zaq rfl rfl (zdq rfl rfl ?_)))
          (refine z3q rfl (yzq 1 rfl rfl rfl rfl (by simp) (by omega) (by show 1 < 4; omega) rfl rfl (qxq ns root _ hl) ?_); rintro ns1 m ⟨rfl, rfl⟩)
          refine zaq rfl rfl (zeq ?_)
          refine zfq (zjq ?_)
          refine zlq (by intro h; cases h) ?_
          exact jXq 8 4 (.inr rfl) (by omega) (by show 4 < 5; omega) rfl rfl rfl rfl (YEq hok hv hf)
        · exfalso; exact h3 rfl
      · exfalso; exact h2 rfl
  · refine yuq (fn := Try.f55) rfl rfl rfl (Nat.le_of_ble_eq_true rfl) (fun k0 => ?_)
    refine zcq (zbq (zdq rfl rfl (zaq rfl rfl (zeq ?_))))
    refine zfq (zcq (zcq (zbq (zaq rfl rfl (zEq rfl rfl ?_)))))
    refine zeq ?_
    refine zfq ?_
    refine zHq rfl (fun h1 => ?_) (fun h1 => ?_)
    · exfalso; omega
    · refine ziq (zfq (zcq (zbq (zaq rfl rfl (zaq rfl rfl (zaq rfl rfl (zaq rfl rfl (zdq rfl rfl (zaq rfl rfl (zAq (i) rfl rfl (by first | rfl | omega) ⟨by omega, by omega⟩ ?_))))))))))
      refine zaq rfl (ylq (i := i) rfl rfl rfl rfl rfl rfl rfl hi) (zdq rfl (y1q rfl rfl rfl hw) (zdq rfl rfl (zdq rfl rfl (zeq ?_))))
      refine zfq (zcq (zcq (zbq (zaq rfl rfl (zdq rfl rfl ?_)))))
      refine k8q (fun h2 => ?_) (fun h2 => ?_)
      · refine zaq rfl rfl (zaq rfl rfl (zdq rfl rfl (zaq rfl rfl (zdq rfl rfl ?_))))
        refine jUq rfl (qbq rfl rfl rfl rfl (qPq rfl rfl rfl rfl rfl rfl _ _ 250)) yQq ?_
        refine zaq rfl rfl (zeq ?_)
        refine zfq ?_
        refine zHq rfl (fun h3 => ?_) (fun h3 => ?_)
        · refine zcq (zbq (zaq rfl rfl (zdq rfl rfl ?_)))
          (refine z3q rfl (yzq 1 rfl rfl rfl rfl (by simp) (by omega) (by show 1 < 4; omega) rfl rfl (qxq ns root _ hl) ?_); rintro ns1 m ⟨rfl, rfl⟩)
          refine zaq rfl rfl (zeq ?_)
          refine zfq (zjq ?_)
          refine zlq (by intro h; cases h) ?_
          exact jXq 8 4 (.inr rfl) (by omega) (by show 4 < 5; omega) rfl rfl rfl rfl (YEq hok hv hf)
        · exfalso; exact h3 rfl
      · exfalso; exact h2 rfl
theorem with_leaf {root : Int} {k k' : Dig} {v v' : List UInt8} {ns : List Node} {i d f : Nat} {l r : Int} {t' : T} (hx : ns[i]? = some ⟨true, k', v', l, r⟩) (hk : k' ≠ k) (hd : d < 256) (hl : ns.length + f + 1 ≤ 1000000000) (ht : t'.non = true)
    (sp : YUq G root k v ns (if bitN k d = bitN k' d then i + 1 else 0) (d + 1) (Gr ns f t')) : YUq G root k v ns (i + 1) d (Gr ns (f + 1) (if bitN k d = 0 then .fork t' (if bitN k d = bitN k' d then .nil else .leaf k' v') else .fork (if bitN k d = bitN k' d then .nil else .leaf k' v') t')) := by
  intro R
  have hi := (List.getElem?_eq_some_iff.1 hx).1
  have b1 := qGq k d
  have b2 := qGq k' d
  have hc : bitN k d = 0 ∨ bitN k d = 1 := by omega
  have hc' : bitN k' d = 0 ∨ bitN k' d = 1 := by omega
  obtain ⟨w, hw, rfl | ⟨_, rfl⟩⟩ := u7q ns hx
  · rcases hc' with hc' | hc' <;> rcases hc with hc | hc
    · skip
      rw [if_pos (hc.trans hc'.symm)] at sp
      refine yuq (fn := Try.f55) rfl rfl rfl (Nat.le_of_ble_eq_true rfl) (fun k0 => ?_)
      refine zcq (zbq (zdq rfl rfl (zaq rfl rfl (zeq ?_))))
      refine zfq (zcq (zcq (zbq (zaq rfl rfl (zEq rfl rfl ?_)))))
      refine zeq ?_
      refine zfq ?_
      refine zHq rfl (fun h1 => ?_) (fun h1 => ?_)
      · exfalso; omega
      · refine ziq (zfq (zcq (zbq (zaq rfl rfl (zaq rfl rfl (zaq rfl rfl (zaq rfl rfl (zdq rfl rfl (zaq rfl rfl (zAq (i) rfl rfl (by first | rfl | omega) ⟨by omega, by omega⟩ ?_))))))))))
        refine zaq rfl (ylq (i := i) rfl rfl rfl rfl rfl rfl rfl hi) (zdq rfl (y1q rfl rfl rfl hw) (zdq rfl rfl (zdq rfl rfl (zeq ?_))))
        refine zfq (zcq (zcq (zbq (zaq rfl rfl (zdq rfl rfl ?_)))))
        refine k8q (fun h2 => ?_) (fun h2 => ?_)
        · refine zaq rfl rfl (zaq rfl rfl (zdq rfl rfl (zaq rfl rfl (zdq rfl rfl ?_))))
          refine jUq rfl (qbq rfl rfl rfl rfl (qPq rfl rfl rfl rfl rfl rfl _ _ 250)) yQq ?_
          refine zaq rfl rfl (zeq ?_)
          refine zfq ?_
          refine zHq rfl (fun h3 => ?_) (fun h3 => ?_)
          · exfalso; exact hk h3
          · refine ziq (zfq (zcq (zbq (zdq rfl rfl (zeq ?_)))))
            refine zfq (zcq (zcq (zbq (zaq rfl rfl (zdq rfl rfl (zeq ?_))))))
            refine zfq (zQq rfl (zbq (zaq rfl rfl (zdq rfl rfl (zaq rfl rfl ?_)))))
            (first | refine zsq rfl rfl rfl rfl rfl rfl (yLq k' d 0 hd hc') ?_ | refine zsq rfl rfl rfl rfl rfl rfl (yLq k d 0 hd hc) ?_)
            refine zaq rfl rfl ?_
            first | refine zaq rfl (z8q rfl rfl rfl rfl rfl rfl rfl (by first | assumption | (simp; done))) ?_ | refine zaq rfl (ylq rfl rfl rfl rfl rfl rfl rfl (by omega)) ?_ | refine zaq rfl (z1q rfl rfl rfl rfl rfl rfl (by omega)) ?_ | refine zaq rfl rfl ?_
            refine zdq rfl rfl (zeq ?_)
            refine zfq (zcq (zbq (zaq rfl rfl (zdq rfl rfl (zaq rfl rfl ?_)))))
            (first | refine zsq rfl rfl rfl rfl rfl rfl (yLq k' d 0 hd hc') ?_ | refine zsq rfl rfl rfl rfl rfl rfl (yLq k d 0 hd hc) ?_)
            refine zaq rfl rfl (zeq ?_)
            refine zfq (zcq (z0q (zhq rfl rfl (zhq rfl rfl ?_))))
            first | refine zhq rfl (z8q rfl rfl rfl rfl rfl rfl rfl (by first | assumption | (simp; done))) ?_ | refine zhq rfl (ylq rfl rfl rfl rfl rfl rfl rfl (by omega)) ?_ | refine zhq rfl (z1q rfl rfl rfl rfl rfl rfl (by omega)) ?_ | refine zhq rfl rfl ?_
            refine zGq rfl rfl ?_
            refine zhq rfl rfl (jyq (d + 1) rfl rfl (by first | rfl | omega) ⟨by omega, by omega⟩ ?_)
            refine zGq rfl rfl ?_
            (refine yMq rfl (yzq 1 rfl rfl rfl rfl (by simp) (by omega) (by show 1 < 5; omega) rfl rfl sp ?_); rintro ns1 m ⟨⟨ms, rfl, hms⟩, hok1, hm⟩; refine ⟨by first | rfl | kernel_rfl, ?_⟩)
            refine zhq rfl rfl (z9q ?_)
            refine zfq (zcq (zbq (zaq rfl rfl (zaq rfl rfl ?_))))
            first | refine zaq rfl (z8q rfl rfl rfl rfl rfl rfl rfl (by first | assumption | (simp; done))) ?_ | refine zaq rfl (ylq rfl rfl rfl rfl rfl rfl rfl (by omega)) ?_ | refine zaq rfl (z1q rfl rfl rfl rfl rfl rfl (by omega)) ?_ | refine zaq rfl rfl ?_
            refine zdq rfl rfl (zeq ?_)
            refine zfq (zcq (zbq (zaq rfl rfl (zdq rfl rfl (zsq rfl rfl rfl rfl rfl rfl (qWq _ _) ?_)))))
            (refine z3q rfl (yzq 5 rfl rfl rfl rfl (by simp) (by omega) (by show 5 < 6; omega) rfl rfl (qxq _ root _ (by simp only [List.length_append]; omega)) ?_); rintro ns2 m2 ⟨rfl, rfl⟩)
            refine zaq rfl rfl (zeq ?_)
            refine zfq (zjq ?_)
            have hm0 : 0 < m := by have := hm.non; rw [ht] at this; simpa using this.symm
            exact jXq 8 6 (.inr rfl) (by omega) (by show 6 < 7; omega) rfl rfl rfl rfl (by rw [if_pos hc, if_pos (hc.trans hc'.symm)]; exact qEq hms hok1 hm (.nil) (by omega))
        · exfalso; exact h2 rfl
    · skip
      rw [if_neg (by omega)] at sp
      refine yuq (fn := Try.f55) rfl rfl rfl (Nat.le_of_ble_eq_true rfl) (fun k0 => ?_)
      refine zcq (zbq (zdq rfl rfl (zaq rfl rfl (zeq ?_))))
      refine zfq (zcq (zcq (zbq (zaq rfl rfl (zEq rfl rfl ?_)))))
      refine zeq ?_
      refine zfq ?_
      refine zHq rfl (fun h1 => ?_) (fun h1 => ?_)
      · exfalso; omega
      · refine ziq (zfq (zcq (zbq (zaq rfl rfl (zaq rfl rfl (zaq rfl rfl (zaq rfl rfl (zdq rfl rfl (zaq rfl rfl (zAq (i) rfl rfl (by first | rfl | omega) ⟨by omega, by omega⟩ ?_))))))))))
        refine zaq rfl (ylq (i := i) rfl rfl rfl rfl rfl rfl rfl hi) (zdq rfl (y1q rfl rfl rfl hw) (zdq rfl rfl (zdq rfl rfl (zeq ?_))))
        refine zfq (zcq (zcq (zbq (zaq rfl rfl (zdq rfl rfl ?_)))))
        refine k8q (fun h2 => ?_) (fun h2 => ?_)
        · refine zaq rfl rfl (zaq rfl rfl (zdq rfl rfl (zaq rfl rfl (zdq rfl rfl ?_))))
          refine jUq rfl (qbq rfl rfl rfl rfl (qPq rfl rfl rfl rfl rfl rfl _ _ 250)) yQq ?_
          refine zaq rfl rfl (zeq ?_)
          refine zfq ?_
          refine zHq rfl (fun h3 => ?_) (fun h3 => ?_)
          · exfalso; exact hk h3
          · refine ziq (zfq (zcq (zbq (zdq rfl rfl (zeq ?_)))))
            refine zfq (zcq (zcq (zbq (zaq rfl rfl (zdq rfl rfl (zeq ?_))))))
            refine zfq (zQq rfl (zbq (zaq rfl rfl (zdq rfl rfl (zaq rfl rfl ?_)))))
            (first | refine zsq rfl rfl rfl rfl rfl rfl (yLq k' d 0 hd hc') ?_ | refine zsq rfl rfl rfl rfl rfl rfl (yLq k d 1 hd hc) ?_)
            refine zaq rfl rfl ?_
            first | refine zaq rfl (z8q rfl rfl rfl rfl rfl rfl rfl (by first | assumption | (simp; done))) ?_ | refine zaq rfl (ylq rfl rfl rfl rfl rfl rfl rfl (by omega)) ?_ | refine zaq rfl (z1q rfl rfl rfl rfl rfl rfl (by omega)) ?_ | refine zaq rfl rfl ?_
            refine zdq rfl rfl (zeq ?_)
            refine zfq (zcq (zbq (zaq rfl rfl (zdq rfl rfl (zaq rfl rfl ?_)))))
            (first | refine zsq rfl rfl rfl rfl rfl rfl (yLq k' d 0 hd hc') ?_ | refine zsq rfl rfl rfl rfl rfl rfl (yLq k d 1 hd hc) ?_)
            refine zaq rfl rfl (zeq ?_)
            refine zfq (zcq (z0q (zhq rfl rfl (zhq rfl rfl ?_))))
            first | refine zhq rfl (z8q rfl rfl rfl rfl rfl rfl rfl (by first | assumption | (simp; done))) ?_ | refine zhq rfl (ylq rfl rfl rfl rfl rfl rfl rfl (by omega)) ?_ | refine zhq rfl (z1q rfl rfl rfl rfl rfl rfl (by omega)) ?_ | refine zhq rfl rfl ?_
            refine zGq rfl rfl ?_
            refine zhq rfl rfl (jyq (d + 1) rfl rfl (by first | rfl | omega) ⟨by omega, by omega⟩ ?_)
            refine zGq rfl rfl ?_
            (refine yMq rfl (yzq 1 rfl rfl rfl rfl (by simp) (by omega) (by show 1 < 5; omega) rfl rfl sp ?_); rintro ns1 m ⟨⟨ms, rfl, hms⟩, hok1, hm⟩; refine ⟨by first | rfl | kernel_rfl, ?_⟩)
            refine zhq rfl rfl (z9q ?_)
            refine zfq (zcq (zbq (zaq rfl rfl (zaq rfl rfl ?_))))
            first | refine zaq rfl (z8q rfl rfl rfl rfl rfl rfl rfl (by first | assumption | (simp; done))) ?_ | refine zaq rfl (ylq rfl rfl rfl rfl rfl rfl rfl (by omega)) ?_ | refine zaq rfl (z1q rfl rfl rfl rfl rfl rfl (by omega)) ?_ | refine zaq rfl rfl ?_
            refine zdq rfl rfl (zeq ?_)
            refine zfq (zcq (zbq (zaq rfl rfl (zdq rfl rfl (zsq rfl rfl rfl rfl rfl rfl (qWq _ _) ?_)))))
            (refine z3q rfl (yzq 5 rfl rfl rfl rfl (by simp) (by omega) (by show 5 < 6; omega) rfl rfl (qxq _ root _ (by simp only [List.length_append]; omega)) ?_); rintro ns2 m2 ⟨rfl, rfl⟩)
            refine zaq rfl rfl (zeq ?_)
            refine zfq (zjq ?_)
            have hm0 : 0 < m := by have := hm.non; rw [ht] at this; simpa using this.symm
            exact jXq 8 6 (.inr rfl) (by omega) (by show 6 < 7; omega) rfl rfl rfl rfl (by rw [if_neg (by omega), if_neg (by omega)]; exact qEq hms hok1 ((Rep.leaf hx).app _) hm (by omega))
        · exfalso; exact h2 rfl
    · skip
      rw [if_neg (by omega)] at sp
      refine yuq (fn := Try.f55) rfl rfl rfl (Nat.le_of_ble_eq_true rfl) (fun k0 => ?_)
      refine zcq (zbq (zdq rfl rfl (zaq rfl rfl (zeq ?_))))
      refine zfq (zcq (zcq (zbq (zaq rfl rfl (zEq rfl rfl ?_)))))
      refine zeq ?_
      refine zfq ?_
      refine zHq rfl (fun h1 => ?_) (fun h1 => ?_)
      · exfalso; omega
      · refine ziq (zfq (zcq (zbq (zaq rfl rfl (zaq rfl rfl (zaq rfl rfl (zaq rfl rfl (zdq rfl rfl (zaq rfl rfl (zAq (i) rfl rfl (by first | rfl | omega) ⟨by omega, by omega⟩ ?_))))))))))
        refine zaq rfl (ylq (i := i) rfl rfl rfl rfl rfl rfl rfl hi) (zdq rfl (y1q rfl rfl rfl hw) (zdq rfl rfl (zdq rfl rfl (zeq ?_))))
        refine zfq (zcq (zcq (zbq (zaq rfl rfl (zdq rfl rfl ?_)))))
        refine k8q (fun h2 => ?_) (fun h2 => ?_)
        · refine zaq rfl rfl (zaq rfl rfl (zdq rfl rfl (zaq rfl rfl (zdq rfl rfl ?_))))
          refine jUq rfl (qbq rfl rfl rfl rfl (qPq rfl rfl rfl rfl rfl rfl _ _ 250)) yQq ?_
          refine zaq rfl rfl (zeq ?_)
          refine zfq ?_
          refine zHq rfl (fun h3 => ?_) (fun h3 => ?_)
          · exfalso; exact hk h3
          · refine ziq (zfq (zcq (zbq (zdq rfl rfl (zeq ?_)))))
            refine zfq (zcq (zcq (zbq (zaq rfl rfl (zdq rfl rfl (zeq ?_))))))
            refine zfq (zQq rfl (zbq (zaq rfl rfl (zdq rfl rfl (zaq rfl rfl ?_)))))
            (first | refine zsq rfl rfl rfl rfl rfl rfl (yLq k' d 1 hd hc') ?_ | refine zsq rfl rfl rfl rfl rfl rfl (yLq k d 0 hd hc) ?_)
            refine zaq rfl rfl ?_
            first | refine zaq rfl (z8q rfl rfl rfl rfl rfl rfl rfl (by first | assumption | (simp; done))) ?_ | refine zaq rfl (ylq rfl rfl rfl rfl rfl rfl rfl (by omega)) ?_ | refine zaq rfl (z1q rfl rfl rfl rfl rfl rfl (by omega)) ?_ | refine zaq rfl rfl ?_
            refine zdq rfl rfl (zeq ?_)
            refine zfq (zcq (zbq (zaq rfl rfl (zdq rfl rfl (zaq rfl rfl ?_)))))
            (first | refine zsq rfl rfl rfl rfl rfl rfl (yLq k' d 1 hd hc') ?_ | refine zsq rfl rfl rfl rfl rfl rfl (yLq k d 0 hd hc) ?_)
            refine zaq rfl rfl (zeq ?_)
            refine zfq (zcq (z0q (zhq rfl rfl (zhq rfl rfl ?_))))
            first | refine zhq rfl (z8q rfl rfl rfl rfl rfl rfl rfl (by first | assumption | (simp; done))) ?_ | refine zhq rfl (ylq rfl rfl rfl rfl rfl rfl rfl (by omega)) ?_ | refine zhq rfl (z1q rfl rfl rfl rfl rfl rfl (by omega)) ?_ | refine zhq rfl rfl ?_
            refine zGq rfl rfl ?_
            refine zhq rfl rfl (jyq (d + 1) rfl rfl (by first | rfl | omega) ⟨by omega, by omega⟩ ?_)
            refine zGq rfl rfl ?_
            (refine yMq rfl (yzq 1 rfl rfl rfl rfl (by simp) (by omega) (by show 1 < 5; omega) rfl rfl sp ?_); rintro ns1 m ⟨⟨ms, rfl, hms⟩, hok1, hm⟩; refine ⟨by first | rfl | kernel_rfl, ?_⟩)
            refine zhq rfl rfl (z9q ?_)
            refine zfq (zcq (zbq (zaq rfl rfl (zaq rfl rfl ?_))))
            first | refine zaq rfl (z8q rfl rfl rfl rfl rfl rfl rfl (by first | assumption | (simp; done))) ?_ | refine zaq rfl (ylq rfl rfl rfl rfl rfl rfl rfl (by omega)) ?_ | refine zaq rfl (z1q rfl rfl rfl rfl rfl rfl (by omega)) ?_ | refine zaq rfl rfl ?_
            refine zdq rfl rfl (zeq ?_)
            refine zfq (zcq (zbq (zaq rfl rfl (zdq rfl rfl (zsq rfl rfl rfl rfl rfl rfl (qWq _ _) ?_)))))
            (refine z3q rfl (yzq 5 rfl rfl rfl rfl (by simp) (by omega) (by show 5 < 6; omega) rfl rfl (qxq _ root _ (by simp only [List.length_append]; omega)) ?_); rintro ns2 m2 ⟨rfl, rfl⟩)
            refine zaq rfl rfl (zeq ?_)
            refine zfq (zjq ?_)
            have hm0 : 0 < m := by have := hm.non; rw [ht] at this; simpa using this.symm
            exact jXq 8 6 (.inr rfl) (by omega) (by show 6 < 7; omega) rfl rfl rfl rfl (by rw [if_pos hc, if_neg (by omega)]; exact qEq hms hok1 hm ((Rep.leaf hx).app _) (by omega))
        · exfalso; exact h2 rfl
    · skip
      rw [if_pos (hc.trans hc'.symm)] at sp
      refine yuq (fn := Try.f55) rfl rfl rfl (Nat.le_of_ble_eq_true rfl) (fun k0 => ?_)
      refine zcq (zbq (zdq rfl rfl (zaq rfl rfl (zeq ?_))))
      refine zfq (zcq (zcq (zbq (zaq rfl rfl (zEq rfl rfl ?_)))))
      refine zeq ?_
      refine zfq ?_
      refine zHq rfl (fun h1 => ?_) (fun h1 => ?_)
      · exfalso; omega
      · refine ziq (zfq (zcq (zbq (zaq rfl rfl (zaq rfl rfl (zaq rfl rfl (zaq rfl rfl (zdq rfl rfl (zaq rfl rfl (zAq (i) rfl rfl (by first | rfl | omega) ⟨by omega, by omega⟩ ?_))))))))))
        refine zaq rfl (ylq (i := i) rfl rfl rfl rfl rfl rfl rfl hi) (zdq rfl (y1q rfl rfl rfl hw) (zdq rfl rfl (zdq rfl rfl (zeq ?_))))
        refine zfq (zcq (zcq (zbq (zaq rfl rfl (zdq rfl rfl ?_)))))
        refine k8q (fun h2 => ?_) (fun h2 => ?_)
        · refine zaq rfl rfl (zaq rfl rfl (zdq rfl rfl (zaq rfl rfl (zdq rfl rfl ?_))))
          refine jUq rfl (qbq rfl rfl rfl rfl (qPq rfl rfl rfl rfl rfl rfl _ _ 250)) yQq ?_
          refine zaq rfl rfl (zeq ?_)
          refine zfq ?_
          refine zHq rfl (fun h3 => ?_) (fun h3 => ?_)
          · exfalso; exact hk h3
          · refine ziq (zfq (zcq (zbq (zdq rfl rfl (zeq ?_)))))
            refine zfq (zcq (zcq (zbq (zaq rfl rfl (zdq rfl rfl (zeq ?_))))))
            refine zfq (zQq rfl (zbq (zaq rfl rfl (zdq rfl rfl (zaq rfl rfl ?_)))))
            (first | refine zsq rfl rfl rfl rfl rfl rfl (yLq k' d 1 hd hc') ?_ | refine zsq rfl rfl rfl rfl rfl rfl (yLq k d 1 hd hc) ?_)
            refine zaq rfl rfl ?_
            first | refine zaq rfl (z8q rfl rfl rfl rfl rfl rfl rfl (by first | assumption | (simp; done))) ?_ | refine zaq rfl (ylq rfl rfl rfl rfl rfl rfl rfl (by omega)) ?_ | refine zaq rfl (z1q rfl rfl rfl rfl rfl rfl (by omega)) ?_ | refine zaq rfl rfl ?_
            refine zdq rfl rfl (zeq ?_)
            refine zfq (zcq (zbq (zaq rfl rfl (zdq rfl rfl (zaq rfl rfl ?_)))))
            (first | refine zsq rfl rfl rfl rfl rfl rfl (yLq k' d 1 hd hc') ?_ | refine zsq rfl rfl rfl rfl rfl rfl (yLq k d 1 hd hc) ?_)
            refine zaq rfl rfl (zeq ?_)
            refine zfq (zcq (z0q (zhq rfl rfl (zhq rfl rfl ?_))))
            first | refine zhq rfl (z8q rfl rfl rfl rfl rfl rfl rfl (by first | assumption | (simp; done))) ?_ | refine zhq rfl (ylq rfl rfl rfl rfl rfl rfl rfl (by omega)) ?_ | refine zhq rfl (z1q rfl rfl rfl rfl rfl rfl (by omega)) ?_ | refine zhq rfl rfl ?_
            refine zGq rfl rfl ?_
            refine zhq rfl rfl (jyq (d + 1) rfl rfl (by first | rfl | omega) ⟨by omega, by omega⟩ ?_)
            refine zGq rfl rfl ?_
            (refine yMq rfl (yzq 1 rfl rfl rfl rfl (by simp) (by omega) (by show 1 < 5; omega) rfl rfl sp ?_); rintro ns1 m ⟨⟨ms, rfl, hms⟩, hok1, hm⟩; refine ⟨by first | rfl | kernel_rfl, ?_⟩)
            refine zhq rfl rfl (z9q ?_)
            refine zfq (zcq (zbq (zaq rfl rfl (zaq rfl rfl ?_))))
            first | refine zaq rfl (z8q rfl rfl rfl rfl rfl rfl rfl (by first | assumption | (simp; done))) ?_ | refine zaq rfl (ylq rfl rfl rfl rfl rfl rfl rfl (by omega)) ?_ | refine zaq rfl (z1q rfl rfl rfl rfl rfl rfl (by omega)) ?_ | refine zaq rfl rfl ?_
            refine zdq rfl rfl (zeq ?_)
            refine zfq (zcq (zbq (zaq rfl rfl (zdq rfl rfl (zsq rfl rfl rfl rfl rfl rfl (qWq _ _) ?_)))))
            (refine z3q rfl (yzq 5 rfl rfl rfl rfl (by simp) (by omega) (by show 5 < 6; omega) rfl rfl (qxq _ root _ (by simp only [List.length_append]; omega)) ?_); rintro ns2 m2 ⟨rfl, rfl⟩)
            refine zaq rfl rfl (zeq ?_)
            refine zfq (zjq ?_)
            have hm0 : 0 < m := by have := hm.non; rw [ht] at this; simpa using this.symm
            exact jXq 8 6 (.inr rfl) (by omega) (by show 6 < 7; omega) rfl rfl rfl rfl (by rw [if_neg (by omega), if_pos (hc.trans hc'.symm)]; exact qEq hms hok1 (.nil) hm (by omega))
        · exfalso; exact h2 rfl
  · rcases hc' with hc' | hc' <;> rcases hc with hc | hc
    · skip
      rw [if_pos (hc.trans hc'.symm)] at sp
      refine yuq (fn := Try.f55) rfl rfl rfl (Nat.le_of_ble_eq_true rfl) (fun k0 => ?_)
      refine zcq (zbq (zdq rfl rfl (zaq rfl rfl (zeq ?_))))
      refine zfq (zcq (zcq (zbq (zaq rfl rfl (zEq rfl rfl ?_)))))
      refine zeq ?_
      refine zfq ?_
      refine zHq rfl (fun h1 => ?_) (fun h1 => ?_)
      · exfalso; omega
      · refine ziq (zfq (zcq (zbq (zaq rfl rfl (zaq rfl rfl (zaq rfl rfl (zaq rfl rfl (zdq rfl rfl (zaq rfl rfl (zAq (i) rfl rfl (by first | rfl | omega) ⟨by omega, by omega⟩ ?_))))))))))
        refine zaq rfl (ylq (i := i) rfl rfl rfl rfl rfl rfl rfl hi) (zdq rfl (y1q rfl rfl rfl hw) (zdq rfl rfl (zdq rfl rfl (zeq ?_))))
        refine zfq (zcq (zcq (zbq (zaq rfl rfl (zdq rfl rfl ?_)))))
        refine k8q (fun h2 => ?_) (fun h2 => ?_)
        · refine zaq rfl rfl (zaq rfl rfl (zdq rfl rfl (zaq rfl rfl (zdq rfl rfl ?_))))
          refine jUq rfl (qbq rfl rfl rfl rfl (qPq rfl rfl rfl rfl rfl rfl _ _ 250)) yQq ?_
          refine zaq rfl rfl (zeq ?_)
          refine zfq ?_
          refine zHq rfl (fun h3 => ?_) (fun h3 => ?_)
          · exfalso; exact hk h3
          · refine ziq (zfq (zcq (zbq (zdq rfl rfl (zeq ?_)))))
            refine zfq (zcq (zcq (zbq (zaq rfl rfl (zdq rfl rfl (zeq ?_))))))
            refine zfq (zQq rfl (zbq (zaq rfl rfl (zdq rfl rfl (zaq rfl rfl ?_)))))
            (first | refine zsq rfl rfl rfl rfl rfl rfl (yLq k' d 0 hd hc') ?_ | refine zsq rfl rfl rfl rfl rfl rfl (yLq k d 0 hd hc) ?_)
            refine zaq rfl rfl ?_
            first | refine zaq rfl (z8q rfl rfl rfl rfl rfl rfl rfl (by first | assumption | (simp; done))) ?_ | refine zaq rfl (ylq rfl rfl rfl rfl rfl rfl rfl (by omega)) ?_ | refine zaq rfl (z1q rfl rfl rfl rfl rfl rfl (by omega)) ?_ | refine zaq rfl rfl ?_
            refine zdq rfl rfl (zeq ?_)
            refine zfq (zcq (zbq (zaq rfl rfl (zdq rfl rfl (zaq rfl rfl ?_)))))
            (first | refine zsq rfl rfl rfl rfl rfl rfl (yLq k' d 0 hd hc') ?_ | refine zsq rfl rfl rfl rfl rfl rfl (yLq k d 0 hd hc) ?_)
            refine zaq rfl rfl (zeq ?_)
            refine zfq (zcq (z0q (zhq rfl rfl (zhq rfl rfl ?_))))
            first | refine zhq rfl (z8q rfl rfl rfl rfl rfl rfl rfl (by first | assumption | (simp; done))) ?_ | refine zhq rfl (ylq rfl rfl rfl rfl rfl rfl rfl (by omega)) ?_ | refine zhq rfl (z1q rfl rfl rfl rfl rfl rfl (by omega)) ?_ | refine zhq rfl rfl ?_
            refine zGq rfl rfl ?_
            refine zhq rfl rfl (jyq (d + 1) rfl rfl (by first | rfl | omega) ⟨by omega, by omega⟩ ?_)
            refine zGq rfl rfl ?_
            (refine yMq rfl (yzq 1 rfl rfl rfl rfl (by simp) (by omega) (by show 1 < 5; omega) rfl rfl sp ?_); rintro ns1 m ⟨⟨ms, rfl, hms⟩, hok1, hm⟩; refine ⟨by first | rfl | kernel_rfl, ?_⟩)
            refine zhq rfl rfl (z9q ?_)
            refine zfq (zcq (zbq (zaq rfl rfl (zaq rfl rfl ?_))))
            first | refine zaq rfl (z8q rfl rfl rfl rfl rfl rfl rfl (by first | assumption | (simp; done))) ?_ | refine zaq rfl (ylq rfl rfl rfl rfl rfl rfl rfl (by omega)) ?_ | refine zaq rfl (z1q rfl rfl rfl rfl rfl rfl (by omega)) ?_ | refine zaq rfl rfl ?_
            refine zdq rfl rfl (zeq ?_)
            refine zfq (zcq (zbq (zaq rfl rfl (zdq rfl rfl (zsq rfl rfl rfl rfl rfl rfl (qWq _ _) ?_)))))
            (refine z3q rfl (yzq 5 rfl rfl rfl rfl (by simp) (by omega) (by show 5 < 6; omega) rfl rfl (qxq _ root _ (by simp only [List.length_append]; omega)) ?_); rintro ns2 m2 ⟨rfl, rfl⟩)
            refine zaq rfl rfl (zeq ?_)
            refine zfq (zjq ?_)
            have hm0 : 0 < m := by have := hm.non; rw [ht] at this; simpa using this.symm
            exact jXq 8 6 (.inr rfl) (by omega) (by show 6 < 7; omega) rfl rfl rfl rfl (by rw [if_pos hc, if_pos (hc.trans hc'.symm)]; exact qEq hms hok1 hm (.nil) (by omega))
        · exfalso; exact h2 rfl
    · skip
      rw [if_neg (by omega)] at sp
      refine yuq (fn := Try.f55) rfl rfl rfl (Nat.le_of_ble_eq_true rfl) (fun k0 => ?_)
      refine zcq (zbq (zdq rfl rfl (zaq rfl rfl (zeq ?_))))
      refine zfq (zcq (zcq (zbq (zaq rfl rfl (zEq rfl rfl ?_)))))
      refine zeq ?_
      refine zfq ?_
      refine zHq rfl (fun h1 => ?_) (fun h1 => ?_)
      · exfalso; omega
      · refine ziq (zfq (zcq (zbq (zaq rfl rfl (zaq rfl rfl (zaq rfl rfl (zaq rfl rfl (zdq rfl rfl (zaq rfl rfl (zAq (i) rfl rfl (by first | rfl | omega) ⟨by omega, by omega⟩ ?_))))))))))
        refine zaq rfl (ylq (i := i) rfl rfl rfl rfl rfl rfl rfl hi) (zdq rfl (y1q rfl rfl rfl hw) (zdq rfl rfl (zdq rfl rfl (zeq ?_))))
        refine zfq (zcq (zcq (zbq (zaq rfl rfl (zdq rfl rfl ?_)))))
        refine k8q (fun h2 => ?_) (fun h2 => ?_)
        · refine zaq rfl rfl (zaq rfl rfl (zdq rfl rfl (zaq rfl rfl (zdq rfl rfl ?_))))
          refine jUq rfl (qbq rfl rfl rfl rfl (qPq rfl rfl rfl rfl rfl rfl _ _ 250)) yQq ?_
          refine zaq rfl rfl (zeq ?_)
          refine zfq ?_
          refine zHq rfl (fun h3 => ?_) (fun h3 => ?_)
          · exfalso; exact hk h3
          · refine ziq (zfq (zcq (zbq (zdq rfl rfl (zeq ?_)))))
            refine zfq (zcq (zcq (zbq (zaq rfl rfl (zdq rfl rfl (zeq ?_))))))
            refine zfq (zQq rfl (zbq (zaq rfl rfl (zdq rfl rfl (zaq rfl rfl ?_)))))
            (first | refine zsq rfl rfl rfl rfl rfl rfl (yLq k' d 0 hd hc') ?_ | refine zsq rfl rfl rfl rfl rfl rfl (yLq k d 1 hd hc) ?_)
            refine zaq rfl rfl ?_
            first | refine zaq rfl (z8q rfl rfl rfl rfl rfl rfl rfl (by first | assumption | (simp; done))) ?_ | refine zaq rfl (ylq rfl rfl rfl rfl rfl rfl rfl (by omega)) ?_ | refine zaq rfl (z1q rfl rfl rfl rfl rfl rfl (by omega)) ?_ | refine zaq rfl rfl ?_
            refine zdq rfl rfl (zeq ?_)
            refine zfq (zcq (zbq (zaq rfl rfl (zdq rfl rfl (zaq rfl rfl ?_)))))
            (first | refine zsq rfl rfl rfl rfl rfl rfl (yLq k' d 0 hd hc') ?_ | refine zsq rfl rfl rfl rfl rfl rfl (yLq k d 1 hd hc) ?_)
            refine zaq rfl rfl (zeq ?_)
            refine zfq (zcq (z0q (zhq rfl rfl (zhq rfl rfl ?_))))
            first | refine zhq rfl (z8q rfl rfl rfl rfl rfl rfl rfl (by first | assumption | (simp; done))) ?_ | refine zhq rfl (ylq rfl rfl rfl rfl rfl rfl rfl (by omega)) ?_ | refine zhq rfl (z1q rfl rfl rfl rfl rfl rfl (by omega)) ?_ | refine zhq rfl rfl ?_
            refine zGq rfl rfl ?_
            refine zhq rfl rfl (jyq (d + 1) rfl rfl (by first | rfl | omega) ⟨by omega, by omega⟩ ?_)
            refine zGq rfl rfl ?_
            (refine yMq rfl (yzq 1 rfl rfl rfl rfl (by simp) (by omega) (by show 1 < 5; omega) rfl rfl sp ?_); rintro ns1 m ⟨⟨ms, rfl, hms⟩, hok1, hm⟩; refine ⟨by first | rfl | kernel_rfl, ?_⟩)
            refine zhq rfl rfl (z9q ?_)
            refine zfq (zcq (zbq (zaq rfl rfl (zaq rfl rfl ?_))))
            first | refine zaq rfl (z8q rfl rfl rfl rfl rfl rfl rfl (by first | assumption | (simp; done))) ?_ | refine zaq rfl (ylq rfl rfl rfl rfl rfl rfl rfl (by omega)) ?_ | refine zaq rfl (z1q rfl rfl rfl rfl rfl rfl (by omega)) ?_ | refine zaq rfl rfl ?_
            refine zdq rfl rfl (zeq ?_)
            refine zfq (zcq (zbq (zaq rfl rfl (zdq rfl rfl (zsq rfl rfl rfl rfl rfl rfl (qWq _ _) ?_)))))
            (refine z3q rfl (yzq 5 rfl rfl rfl rfl (by simp) (by omega) (by show 5 < 6; omega) rfl rfl (qxq _ root _ (by simp only [List.length_append]; omega)) ?_); rintro ns2 m2 ⟨rfl, rfl⟩)
            refine zaq rfl rfl (zeq ?_)
            refine zfq (zjq ?_)
            have hm0 : 0 < m := by have := hm.non; rw [ht] at this; simpa using this.symm
            exact jXq 8 6 (.inr rfl) (by omega) (by show 6 < 7; omega) rfl rfl rfl rfl (by rw [if_neg (by omega), if_neg (by omega)]; exact qEq hms hok1 ((Rep.leaf hx).app _) hm (by omega))
        · exfalso; exact h2 rfl
    · skip
      rw [if_neg (by omega)] at sp
      refine yuq (fn := Try.f55) rfl rfl rfl (Nat.le_of_ble_eq_true rfl) (fun k0 => ?_)
      refine zcq (zbq (zdq rfl rfl (zaq rfl rfl (zeq ?_))))
      refine zfq (zcq (zcq (zbq (zaq rfl rfl (zEq rfl rfl ?_)))))
      refine zeq ?_
      refine zfq ?_
      refine zHq rfl (fun h1 => ?_) (fun h1 => ?_)
      · exfalso; omega
      · refine ziq (zfq (zcq (zbq (zaq rfl rfl (zaq rfl rfl (zaq rfl rfl (zaq rfl rfl (zdq rfl rfl (zaq rfl rfl (zAq (i) rfl rfl (by first | rfl | omega) ⟨by omega, by omega⟩ ?_))))))))))
        refine zaq rfl (ylq (i := i) rfl rfl rfl rfl rfl rfl rfl hi) (zdq rfl (y1q rfl rfl rfl hw) (zdq rfl rfl (zdq rfl rfl (zeq ?_))))
        refine zfq (zcq (zcq (zbq (zaq rfl rfl (zdq rfl rfl ?_)))))
        refine k8q (fun h2 => ?_) (fun h2 => ?_)
        · refine zaq rfl rfl (zaq rfl rfl (zdq rfl rfl (zaq rfl rfl (zdq rfl rfl ?_))))
          refine jUq rfl (qbq rfl rfl rfl rfl (qPq rfl rfl rfl rfl rfl rfl _ _ 250)) yQq ?_
          refine zaq rfl rfl (zeq ?_)
          refine zfq ?_
          refine zHq rfl (fun h3 => ?_) (fun h3 => ?_)
          · exfalso; exact hk h3
          · refine ziq (zfq (zcq (zbq (zdq rfl rfl (zeq ?_)))))
            refine zfq (zcq (zcq (zbq (zaq rfl rfl (zdq rfl rfl (zeq ?_))))))
            refine zfq (zQq rfl (zbq (zaq rfl rfl (zdq rfl rfl (zaq rfl rfl ?_)))))
            (first | refine zsq rfl rfl rfl rfl rfl rfl (yLq k' d 1 hd hc') ?_ | refine zsq rfl rfl rfl rfl rfl rfl (yLq k d 0 hd hc) ?_)
            refine zaq rfl rfl ?_
            first | refine zaq rfl (z8q rfl rfl rfl rfl rfl rfl rfl (by first | assumption | (simp; done))) ?_ | refine zaq rfl (ylq rfl rfl rfl rfl rfl rfl rfl (by omega)) ?_ | refine zaq rfl (z1q rfl rfl rfl rfl rfl rfl (by omega)) ?_ | refine zaq rfl rfl ?_
            refine zdq rfl rfl (zeq ?_)
            refine zfq (zcq (zbq (zaq rfl rfl (zdq rfl rfl (zaq rfl rfl ?_)))))
            (first | refine zsq rfl rfl rfl rfl rfl rfl (yLq k' d 1 hd hc') ?_ | refine zsq rfl rfl rfl rfl rfl rfl (yLq k d 0 hd hc) ?_)
            refine zaq rfl rfl (zeq ?_)
            refine zfq (zcq (z0q (zhq rfl rfl (zhq rfl rfl ?_))))
            first | refine zhq rfl (z8q rfl rfl rfl rfl rfl rfl rfl (by first | assumption | (simp; done))) ?_ | refine zhq rfl (ylq rfl rfl rfl rfl rfl rfl rfl (by omega)) ?_ | refine zhq rfl (z1q rfl rfl rfl rfl rfl rfl (by omega)) ?_ | refine zhq rfl rfl ?_
            refine zGq rfl rfl ?_
            refine zhq rfl rfl (jyq (d + 1) rfl rfl (by first | rfl | omega) ⟨by omega, by omega⟩ ?_)
            refine zGq rfl rfl ?_
            (refine yMq rfl (yzq 1 rfl rfl rfl rfl (by simp) (by omega) (by show 1 < 5; omega) rfl rfl sp ?_); rintro ns1 m ⟨⟨ms, rfl, hms⟩, hok1, hm⟩; refine ⟨by first | rfl | kernel_rfl, ?_⟩)
            refine zhq rfl rfl (z9q ?_)
            refine zfq (zcq (zbq (zaq rfl rfl (zaq rfl rfl ?_))))
            first | refine zaq rfl (z8q rfl rfl rfl rfl rfl rfl rfl (by first | assumption | (simp; done))) ?_ | refine zaq rfl (ylq rfl rfl rfl rfl rfl rfl rfl (by omega)) ?_ | refine zaq rfl (z1q rfl rfl rfl rfl rfl rfl (by omega)) ?_ | refine zaq rfl rfl ?_
            refine zdq rfl rfl (zeq ?_)
            refine zfq (zcq (zbq (zaq rfl rfl (zdq rfl rfl (zsq rfl rfl rfl rfl rfl rfl (qWq _ _) ?_)))))
            (refine z3q rfl (yzq 5 rfl rfl rfl rfl (by simp) (by omega) (by show 5 < 6; omega) rfl rfl (qxq _ root _ (by simp only [List.length_append]; omega)) ?_); rintro ns2 m2 ⟨rfl, rfl⟩)
            refine zaq rfl rfl (zeq ?_)
            refine zfq (zjq ?_)
            have hm0 : 0 < m := by have := hm.non; rw [ht] at this; simpa using this.symm
            exact jXq 8 6 (.inr rfl) (by omega) (by show 6 < 7; omega) rfl rfl rfl rfl (by rw [if_pos hc, if_neg (by omega)]; exact qEq hms hok1 hm ((Rep.leaf hx).app _) (by omega))
        · exfalso; exact h2 rfl
    · skip
      rw [if_pos (hc.trans hc'.symm)] at sp
      refine yuq (fn := Try.f55) rfl rfl rfl (Nat.le_of_ble_eq_true rfl) (fun k0 => ?_)
      refine zcq (zbq (zdq rfl rfl (zaq rfl rfl (zeq ?_))))
      refine zfq (zcq (zcq (zbq (zaq rfl rfl (zEq rfl rfl ?_)))))
      refine zeq ?_
      refine zfq ?_
      refine zHq rfl (fun h1 => ?_) (fun h1 => ?_)
      · exfalso; omega
      · refine ziq (zfq (zcq (zbq (zaq rfl rfl (zaq rfl rfl (zaq rfl rfl (zaq rfl rfl (zdq rfl rfl (zaq rfl rfl (zAq (i) rfl rfl (by first | rfl | omega) ⟨by omega, by omega⟩ ?_))))))))))
        refine zaq rfl (ylq (i := i) rfl rfl rfl rfl rfl rfl rfl hi) (zdq rfl (y1q rfl rfl rfl hw) (zdq rfl rfl (zdq rfl rfl (zeq ?_))))
        refine zfq (zcq (zcq (zbq (zaq rfl rfl (zdq rfl rfl ?_)))))
        refine k8q (fun h2 => ?_) (fun h2 => ?_)
        · refine zaq rfl rfl (zaq rfl rfl (zdq rfl rfl (zaq rfl rfl (zdq rfl rfl ?_))))
          refine jUq rfl (qbq rfl rfl rfl rfl (qPq rfl rfl rfl rfl rfl rfl _ _ 250)) yQq ?_
          refine zaq rfl rfl (zeq ?_)
          refine zfq ?_
          refine zHq rfl (fun h3 => ?_) (fun h3 => ?_)
          · exfalso; exact hk h3
          · refine ziq (zfq (zcq (zbq (zdq rfl rfl (zeq ?_)))))
            refine zfq (zcq (zcq (zbq (zaq rfl rfl (zdq rfl rfl (zeq ?_))))))
            refine zfq (zQq rfl (zbq (zaq rfl rfl (zdq rfl rfl (zaq rfl rfl ?_)))))
            (first | refine zsq rfl rfl rfl rfl rfl rfl (yLq k' d 1 hd hc') ?_ | refine zsq rfl rfl rfl rfl rfl rfl (yLq k d 1 hd hc) ?_)
            refine zaq rfl rfl ?_
            first | refine zaq rfl (z8q rfl rfl rfl rfl rfl rfl rfl (by first | assumption | (simp; done))) ?_ | refine zaq rfl (ylq rfl rfl rfl rfl rfl rfl rfl (by omega)) ?_ | refine zaq rfl (z1q rfl rfl rfl rfl rfl rfl (by omega)) ?_ | refine zaq rfl rfl ?_
            refine zdq rfl rfl (zeq ?_)
            refine zfq (zcq (zbq (zaq rfl rfl (zdq rfl rfl (zaq rfl rfl ?_)))))
            (first | refine zsq rfl rfl rfl rfl rfl rfl (yLq k' d 1 hd hc') ?_ | refine zsq rfl rfl rfl rfl rfl rfl (yLq k d 1 hd hc) ?_)
            refine zaq rfl rfl (zeq ?_)
            refine zfq (zcq (z0q (zhq rfl rfl (zhq rfl rfl ?_))))
            first | refine zhq rfl (z8q rfl rfl rfl rfl rfl rfl rfl (by first | assumption | (simp; done))) ?_ | refine zhq rfl (ylq rfl rfl rfl rfl rfl rfl rfl (by omega)) ?_ | refine zhq rfl (z1q rfl rfl rfl rfl rfl rfl (by omega)) ?_ | refine zhq rfl rfl ?_
            refine zGq rfl rfl ?_
            refine zhq rfl rfl (jyq (d + 1) rfl rfl (by first | rfl | omega) ⟨by omega, by omega⟩ ?_)
            refine zGq rfl rfl ?_
            (refine yMq rfl (yzq 1 rfl rfl rfl rfl (by simp) (by omega) (by show 1 < 5; omega) rfl rfl sp ?_); rintro ns1 m ⟨⟨ms, rfl, hms⟩, hok1, hm⟩; refine ⟨by first | rfl | kernel_rfl, ?_⟩)
            refine zhq rfl rfl (z9q ?_)
            refine zfq (zcq (zbq (zaq rfl rfl (zaq rfl rfl ?_))))
            first | refine zaq rfl (z8q rfl rfl rfl rfl rfl rfl rfl (by first | assumption | (simp; done))) ?_ | refine zaq rfl (ylq rfl rfl rfl rfl rfl rfl rfl (by omega)) ?_ | refine zaq rfl (z1q rfl rfl rfl rfl rfl rfl (by omega)) ?_ | refine zaq rfl rfl ?_
            refine zdq rfl rfl (zeq ?_)
            refine zfq (zcq (zbq (zaq rfl rfl (zdq rfl rfl (zsq rfl rfl rfl rfl rfl rfl (qWq _ _) ?_)))))
            (refine z3q rfl (yzq 5 rfl rfl rfl rfl (by simp) (by omega) (by show 5 < 6; omega) rfl rfl (qxq _ root _ (by simp only [List.length_append]; omega)) ?_); rintro ns2 m2 ⟨rfl, rfl⟩)
            refine zaq rfl rfl (zeq ?_)
            refine zfq (zjq ?_)
            have hm0 : 0 < m := by have := hm.non; rw [ht] at this; simpa using this.symm
            exact jXq 8 6 (.inr rfl) (by omega) (by show 6 < 7; omega) rfl rfl rfl rfl (by rw [if_neg (by omega), if_pos (hc.trans hc'.symm)]; exact qEq hms hok1 (.nil) hm (by omega))
        · exfalso; exact h2 rfl
theorem fork_one {ns : List Node} {i l r : Nat} {k' : Dig} {v' : List UInt8} (hx : ns[i]? = some ⟨false, k', v', l, r⟩) (hok : okN ns) : k' = qSq ∧ v' = [] ∧ l ≤ i ∧ r ≤ i ∧ 0 < l + r := by
  have h := hok i _ hx
  simp only [oneB, Bool.false_eq_true, if_false] at h
  obtain ⟨⟨_, a2⟩, ⟨_, b2⟩, h1, h2, h3⟩ := h
  exact ⟨h1, h2, by omega, by omega, by omega⟩
theorem fork_all {ns : List Node} {i l r : Nat} {k' : Dig} {v' : List UInt8} (hx : ns[i]? = some ⟨false, k', v', l, r⟩) (hok : okN ns) : yFq 50 (nsW ns) (0 + i * 36) 36 true = some (nW ⟨false, k', v', l, r⟩) := by
  obtain ⟨w, hw, rfl | ⟨h1, rfl⟩⟩ := u7q ns hx
  · exact hw
  · obtain ⟨_, _, h2, h3, h4⟩ := fork_one hx hok
    have hi := (List.getElem?_eq_some_iff.1 hx).1
    omega
theorem with_fork {root : Int} {k k' : Dig} {v v' : List UInt8} {ns : List Node} {i d f l r : Nat} {L R t' : T} (hx : ns[i]? = some ⟨false, k', v', l, r⟩) (hok : okN ns) (hL : Rep ns l L) (hR : Rep ns r R) (hd : d < 256) (hl : ns.length + f + 1 ≤ 1000000000) (ht : t'.non = true)
    (sp : YUq G root k v ns (if bitN k d = 0 then l else r) (d + 1) (Gr ns f t')) : YUq G root k v ns (i + 1) d (Gr ns (f + 1) (if bitN k d = 0 then .fork t' R else .fork L t')) := by
  intro R'
  have hi := (List.getElem?_eq_some_iff.1 hx).1
  have b1 := qGq k d
  have hc : bitN k d = 0 ∨ bitN k d = 1 := by omega
  have hw := fork_all hx hok
  rcases hc with hc | hc
  · skip
    rw [if_pos hc] at sp
    refine yuq (fn := Try.f55) rfl rfl rfl (Nat.le_of_ble_eq_true rfl) (fun k0 => ?_)
    refine zcq (zbq (zdq rfl rfl (zaq rfl rfl (zeq ?_))))
    refine zfq (zcq (zcq (zbq (zaq rfl rfl (zEq rfl rfl ?_)))))
    refine zeq ?_
    refine zfq ?_
    refine zHq rfl (fun h1 => ?_) (fun h1 => ?_)
    · exfalso; omega
    · refine ziq (zfq (zcq (zbq (zaq rfl rfl (zaq rfl rfl (zaq rfl rfl (zaq rfl rfl (zdq rfl rfl (zaq rfl rfl (zAq (i) rfl rfl (by first | rfl | omega) ⟨by omega, by omega⟩ ?_))))))))))
      refine zaq rfl (ylq (i := i) rfl rfl rfl rfl rfl rfl rfl hi) (zdq rfl (y1q rfl rfl rfl hw) (zdq rfl rfl (zdq rfl rfl (zeq ?_))))
      refine zfq (zcq (zcq (zbq (zaq rfl rfl (zdq rfl rfl ?_)))))
      refine k8q (fun h2 => ?_) (fun h2 => ?_)
      · exfalso; cases h2
      · refine zaq rfl rfl (zgq rfl (zgq rfl (zgq rfl (zgq rfl (zgq rfl (zaq rfl rfl (zeq ?_)))))))
        refine zfq (zCq rfl (ziq (zfq (zcq (zbq (zdq rfl rfl (zeq ?_)))))))
        refine zfq (zcq (zcq (zbq (zaq rfl rfl (zdq rfl rfl (zeq ?_))))))
        refine zfq (zCq rfl (zbq (zdq rfl rfl (zsq rfl rfl rfl rfl rfl rfl (jvq _) ?_))))
        refine zdq rfl rfl (zeq ?_)
        refine zfq (zcq (zbq (zaq rfl rfl (zdq rfl rfl (zaq rfl rfl (zsq rfl rfl rfl rfl rfl rfl (yLq k d 0 hd hc) ?_))))))
        refine zaq rfl rfl (zeq ?_)
        refine zfq (zcq (z0q (zhq rfl rfl (zhq rfl rfl ?_))))
        first | refine zhq rfl (z8q rfl rfl rfl rfl rfl rfl rfl (by first | assumption | (simp; done))) ?_ | refine zhq rfl (ylq rfl rfl rfl rfl rfl rfl rfl (by omega)) ?_ | refine zhq rfl (z1q rfl rfl rfl rfl rfl rfl (by omega)) ?_ | refine zhq rfl rfl ?_
        refine zGq rfl rfl ?_
        refine zhq rfl rfl (jyq (d + 1) rfl rfl (by first | rfl | omega) ⟨by omega, by omega⟩ ?_)
        refine zGq rfl rfl ?_
        (refine yMq rfl (yzq 1 rfl rfl rfl rfl (by simp) (by omega) (by show 1 < 5; omega) rfl rfl sp ?_); rintro ns1 m ⟨⟨ms, rfl, hms⟩, hok1, hm⟩; refine ⟨by first | rfl | kernel_rfl, ?_⟩)
        refine zhq rfl rfl (z9q ?_)
        refine zfq (zcq (zbq (zaq rfl rfl (zaq rfl rfl ?_))))
        first | refine zaq rfl (z8q rfl rfl rfl rfl rfl rfl rfl (by first | assumption | (simp; done))) ?_ | refine zaq rfl (ylq rfl rfl rfl rfl rfl rfl rfl (by omega)) ?_ | refine zaq rfl (z1q rfl rfl rfl rfl rfl rfl (by omega)) ?_ | refine zaq rfl rfl ?_
        refine zdq rfl rfl (zeq ?_)
        refine zfq (zcq (zbq (zaq rfl rfl (zdq rfl rfl (zsq rfl rfl rfl rfl rfl rfl (qWq _ _) ?_)))))
        (refine z3q rfl (yzq 5 rfl rfl rfl rfl (by simp) (by omega) (by show 5 < 6; omega) rfl rfl (qxq _ root _ (by simp only [List.length_append]; omega)) ?_); rintro ns2 m2 ⟨rfl, rfl⟩)
        refine zaq rfl rfl (zeq ?_)
        refine zfq (zjq ?_)
        have hm0 : 0 < m := by have := hm.non; rw [ht] at this; simpa using this.symm
        exact jXq 8 6 (.inr rfl) (by omega) (by show 6 < 7; omega) rfl rfl rfl rfl (by rw [if_pos hc]; exact qEq hms hok1 hm (hR.app _) (by omega))
  · skip
    rw [if_neg (by omega)] at sp
    refine yuq (fn := Try.f55) rfl rfl rfl (Nat.le_of_ble_eq_true rfl) (fun k0 => ?_)
    refine zcq (zbq (zdq rfl rfl (zaq rfl rfl (zeq ?_))))
    refine zfq (zcq (zcq (zbq (zaq rfl rfl (zEq rfl rfl ?_)))))
    refine zeq ?_
    refine zfq ?_
    refine zHq rfl (fun h1 => ?_) (fun h1 => ?_)
    · exfalso; omega
    · refine ziq (zfq (zcq (zbq (zaq rfl rfl (zaq rfl rfl (zaq rfl rfl (zaq rfl rfl (zdq rfl rfl (zaq rfl rfl (zAq (i) rfl rfl (by first | rfl | omega) ⟨by omega, by omega⟩ ?_))))))))))
      refine zaq rfl (ylq (i := i) rfl rfl rfl rfl rfl rfl rfl hi) (zdq rfl (y1q rfl rfl rfl hw) (zdq rfl rfl (zdq rfl rfl (zeq ?_))))
      refine zfq (zcq (zcq (zbq (zaq rfl rfl (zdq rfl rfl ?_)))))
      refine k8q (fun h2 => ?_) (fun h2 => ?_)
      · exfalso; cases h2
      · refine zaq rfl rfl (zgq rfl (zgq rfl (zgq rfl (zgq rfl (zgq rfl (zaq rfl rfl (zeq ?_)))))))
        refine zfq (zCq rfl (ziq (zfq (zcq (zbq (zdq rfl rfl (zeq ?_)))))))
        refine zfq (zcq (zcq (zbq (zaq rfl rfl (zdq rfl rfl (zeq ?_))))))
        refine zfq (zCq rfl (zbq (zdq rfl rfl (zsq rfl rfl rfl rfl rfl rfl (jvq _) ?_))))
        refine zdq rfl rfl (zeq ?_)
        refine zfq (zcq (zbq (zaq rfl rfl (zdq rfl rfl (zaq rfl rfl (zsq rfl rfl rfl rfl rfl rfl (yLq k d 1 hd hc) ?_))))))
        refine zaq rfl rfl (zeq ?_)
        refine zfq (zcq (z0q (zhq rfl rfl (zhq rfl rfl ?_))))
        first | refine zhq rfl (z8q rfl rfl rfl rfl rfl rfl rfl (by first | assumption | (simp; done))) ?_ | refine zhq rfl (ylq rfl rfl rfl rfl rfl rfl rfl (by omega)) ?_ | refine zhq rfl (z1q rfl rfl rfl rfl rfl rfl (by omega)) ?_ | refine zhq rfl rfl ?_
        refine zGq rfl rfl ?_
        refine zhq rfl rfl (jyq (d + 1) rfl rfl (by first | rfl | omega) ⟨by omega, by omega⟩ ?_)
        refine zGq rfl rfl ?_
        (refine yMq rfl (yzq 1 rfl rfl rfl rfl (by simp) (by omega) (by show 1 < 5; omega) rfl rfl sp ?_); rintro ns1 m ⟨⟨ms, rfl, hms⟩, hok1, hm⟩; refine ⟨by first | rfl | kernel_rfl, ?_⟩)
        refine zhq rfl rfl (z9q ?_)
        refine zfq (zcq (zbq (zaq rfl rfl (zaq rfl rfl ?_))))
        first | refine zaq rfl (z8q rfl rfl rfl rfl rfl rfl rfl (by first | assumption | (simp; done))) ?_ | refine zaq rfl (ylq rfl rfl rfl rfl rfl rfl rfl (by omega)) ?_ | refine zaq rfl (z1q rfl rfl rfl rfl rfl rfl (by omega)) ?_ | refine zaq rfl rfl ?_
        refine zdq rfl rfl (zeq ?_)
        refine zfq (zcq (zbq (zaq rfl rfl (zdq rfl rfl (zsq rfl rfl rfl rfl rfl rfl (qWq _ _) ?_)))))
        (refine z3q rfl (yzq 5 rfl rfl rfl rfl (by simp) (by omega) (by show 5 < 6; omega) rfl rfl (qxq _ root _ (by simp only [List.length_append]; omega)) ?_); rintro ns2 m2 ⟨rfl, rfl⟩)
        refine zaq rfl rfl (zeq ?_)
        refine zfq (zjq ?_)
        have hm0 : 0 < m := by have := hm.non; rw [ht] at this; simpa using this.symm
        exact jXq 8 6 (.inr rfl) (by omega) (by show 6 < 7; omega) rfl rfl rfl rfl (by rw [if_neg (by omega)]; exact qEq hms hok1 (hL.app _) hm (by omega))
theorem with_s (root : Int) (k : Dig) (v : List UInt8) (hv : MayP [(k, v)]) : ∀ (f : Nat) (t : T) (ns : List Node) (n d : Nat) (b : Dig), Rep ns n t → okN ns → t.ok d b = true → d + f = 256 → Zr d b → d ≤ yfq k b → ns.length + f + 1 ≤ 1000000000 → YUq G root k v ns n d (Gr ns (f + 1) (T.put k v f t)) := by
  intro f
  induction f with
  | zero =>
    intro t ns n d b hr hok ht hf hz hk hl
    cases hr with
    | nil => exact with_nil hok hv (by omega) (by omega)
    | leaf hx =>
      rename_i n k' v' l r
      have h := of_decide_eq_true ht
      have : k' = k := vgq fun j hj => by rw [(yDq (by omega)).1 h j (by omega), (yDq (by omega)).1 hk j (by omega)]
      subst this
      exact with_hit hx hok hv (by omega) (by omega)
    | fork hx _ _ hL hR =>
      obtain ⟨hd, _⟩ := ok_fork.1 ht
      omega
  | succ f ih =>
    intro t ns n d b hr hok ht hf hz hk hl
    have hd : d < 256 := by omega
    have ed : 255 - f = d := by omega
    cases hr with
    | nil => exact with_nil hok hv (by omega) (by omega)
    | leaf hx =>
      rename_i n k' v' l r
      have h := of_decide_eq_true ht
      by_cases e : k' = k
      · subst e
        simp only [T.put, if_true]
        exact with_hit hx hok hv (by omega) (by omega)
      · have b1 := qGq k' d
        have b2 := qGq k d
        have b3 := qGq b d
        have key : YUq G root k v ns (n + 1) d (Gr ns (f + 1 + 1) (if bitN k d = 0 then .fork (T.put k v f (if bitN k d = bitN k' d then .leaf k' v' else .nil)) (if bitN k d = bitN k' d then .nil else .leaf k' v') else .fork (if bitN k d = bitN k' d then .nil else .leaf k' v') (T.put k v f (if bitN k d = bitN k' d then .leaf k' v' else .nil)))) := by
          refine with_leaf hx e hd (by omega) (Ypq k v f _) ?_
          by_cases hb : bitN k d = 0
          · by_cases he : bitN k d = bitN k' d
            · rw [if_pos he, if_pos he]
              exact ih _ ns _ (d + 1) b (.leaf hx) hok (decide_eq_true (kbq hz hd h (by omega))) (by omega) (qZq hz) (kbq hz hd hk hb) (by omega)
            · rw [if_neg he, if_neg he]
              exact ih _ ns _ (d + 1) b .nil hok rfl (by omega) (qZq hz) (kbq hz hd hk hb) (by omega)
          · by_cases he : bitN k d = bitN k' d
            · rw [if_pos he, if_pos he]
              exact ih _ ns _ (d + 1) (qgq b d) (.leaf hx) hok (decide_eq_true (kaq hz hd h (by omega))) (by omega) (qYq hz hd) (kaq hz hd hk hb) (by omega)
            · rw [if_neg he, if_neg he]
              exact ih _ ns _ (d + 1) (qgq b d) .nil hok rfl (by omega) (qYq hz hd) (kaq hz hd hk hb) (by omega)
        have ep : T.put k v (f + 1) (.leaf k' v') = (if bitN k d = 0 then .fork (T.put k v f (if bitN k d = bitN k' d then .leaf k' v' else .nil)) (if bitN k d = bitN k' d then .nil else .leaf k' v') else .fork (if bitN k d = bitN k' d then .nil else .leaf k' v') (T.put k v f (if bitN k d = bitN k' d then .leaf k' v' else .nil))) := by
          simp only [T.put, ed, if_neg e, T.roads]
          have c1 : bitN k d = 0 ∨ bitN k d = 1 := by omega
          have c2 : bitN k' d = 0 ∨ bitN k' d = 1 := by omega
          rcases c1 with c1 | c1 <;> rcases c2 with c2 | c2 <;> simp [c1, c2]
        rw [ep]
        exact key
    | fork hx h1 h2 hL hR =>
      rename_i n l r k' v' tl tr
      obtain ⟨_, k1, k2, _⟩ := ok_fork.1 ht
      have key : YUq G root k v ns (n + 1) d (Gr ns (f + 1 + 1) (if bitN k d = 0 then .fork (T.put k v f (if bitN k d = 0 then tl else tr)) tr else .fork tl (T.put k v f (if bitN k d = 0 then tl else tr)))) := by
        refine with_fork hx hok hL hR hd (by omega) (Ypq k v f _) ?_
        by_cases hb : bitN k d = 0
        · rw [if_pos hb, if_pos hb]
          exact ih _ ns _ (d + 1) b hL hok k1 (by omega) (qZq hz) (kbq hz hd hk hb) (by omega)
        · rw [if_neg hb, if_neg hb]
          exact ih _ ns _ (d + 1) (qgq b d) hR hok k2 (by omega) (qYq hz hd) (kaq hz hd hk hb) (by omega)
      have ep : T.put k v (f + 1) (.fork tl tr) = (if bitN k d = 0 then .fork (T.put k v f (if bitN k d = 0 then tl else tr)) tr else .fork tl (T.put k v f (if bitN k d = 0 then tl else tr))) := by
        simp only [T.put, ed]
        by_cases hb : bitN k d = 0
        · simp only [if_pos hb]
        · simp only [if_neg hb]
      rw [ep]
      exact key
end Go.Proofs.Ytgeelfdgnehdnaa
namespace Go.Proofs.Ytgeelfdgnehdnaa
open Go.RowKit
set_option linter.unusedSimpArgs false
set_option linter.unusedVariables false
attribute [local irreducible] CoW OpW FlW Step Spec
variable {G : Nat → Option W}
noncomputable def MkO (root : Int) (ns : List Node) (S : Nat → Prop) (P : List Node → Nat → Prop) : W → HpW → Nat → Prop := fun w hp nw =>
  (∃ m, S m ∧ w = .int .i64 ((m : Nat) : Int) ∧ hp = [(0, 101, mkW 1 ns.length root), (1, 70, nsW ns)] ∧ nw = 2) ∨ Mk root P w hp nw
theorem step_mkO {o : Oper} {fr : FrW} {hp : HpW} {nw : Nat} {R : Res} {post : W → HpW → Nat → Res → Option EvW → Prop} {x : Operand} {xs : Array Operand} {ats : Array TypeId} {f : FuncId} {us : List W} {root : Int} {ns : List Node} {S : Nat → Prop} {P : List Node → Nat → Prop} (k : Nat)
    (ho : o.op = .call ⟨.value x, xs, ats⟩) (hx : evW cfg G fr x = some (.fn f [] [])) (he : cfg.ext f = none) (hxs : evLW cfg G fr xs.toList = some (.ptr 0 0 :: us)) (hpu : purL us = true) (hk : 0 < k) (hkn : k < nw)
    (h0 : hget hp 0 = some (101, mkW k ns.length root)) (h1 : hget hp k = some (70, nsW ns)) (sp : qVq cfg G f 2 (.ptr 0 0 :: us) [(0, 101, mkW 1 ns.length root), (1, 70, nsW ns)] (MkO root ns S P))
    (hsame : ∀ m, S m → post (.int .i64 ((m : Nat) : Int)) ((0, 101, mkW k ns.length root) :: (k, 70, nsW ns) :: delA [0, k] hp) nw R (some .dirty))
    (hpost : ∀ ns' m, P ns' m → post (.int .i64 ((m : Nat) : Int)) ((0, 101, mkW nw ns'.length root) :: (nw, 70, nsW ns') :: delA [0, k] hp) (nw + 1) R (some .dirty)) : Step cfg G o fr hp nw R post := by
  refine q8q (ext := [0, k]) (ws := .ptr 0 0 :: us) ho hx he hxs ?_ sp ?_ ?_ (by simp) (YDq h0 (by rw [yBq (qTq _)]; exact h1) rfl (zyq (qTq _))) ?_ ?_
  · show .ptr 0 0 :: (us ++ []) = W.ptr 0 0 :: qaq (numC [0, k] nw) us
    rw [jTq hpu, List.append_nil]
  · simp; omega
  · intro b hb
    simp only [List.mem_cons, List.not_mem_nil, or_false] at hb
    omega
  · have h := zyq (m := 2) (w := .tup us) hpu
    have h : refL 2 us = true := h
    show (refB 2 (.ptr 0 0) && refL 2 us) = true
    rw [h]; rfl
  · rintro w hp1 nw1 (⟨m, h, rfl, rfl, rfl⟩ | ⟨ns', m, h, rfl, rfl, rfl⟩)
    · have e : renH (numC [0, k] nw) [(0, 101, mkW 1 ns.length root), (1, 70, nsW ns)] = [(0, 101, mkW k ns.length root), (k, 70, nsW ns)] := by
        simp only [renH, yBq (qTq _)]; rfl
      have h := hsame m h
      rw [show ([0, k] : List Nat).length = 2 from rfl, e]
      exact h
    · have e : renH (numC [0, k] nw) [(0, 101, mkW 2 ns'.length root), (2, 70, nsW ns')] = [(0, 101, mkW nw ns'.length root), (nw, 70, nsW ns')] := by
        simp only [renH, yBq (qTq _)]; rfl
      have h := hpost ns' m h
      rw [show ([0, k] : List Nat).length = 2 from rfl, e]
      exact h
theorem jhq {k0 : Nat} {rs : List ResultVar} {x : Exit} {fr : FrW} {hp : HpW} {nw : Nat} {R : Res} {root : Int} {P : List Node → Nat → Prop} {ns0 : List Node} {S : Nat → Prop} {ns : List Node} {m : Nat} (s k : Nat) (hx : x = .normal ∨ x = .ret) (hk : 2 ≤ k) (hkn : k < nw) (hf : getW fr s = some (.int .i64 ((m : Nat) : Int)))
    (h0 : hget hp (tau1 2 k 0) = some (101, renW (tau1 2 k) (mkW 2 ns.length root))) (h1 : hget hp (tau1 2 k 2) = some (70, nsW ns)) (ho : outW cfg [(s, .int .i64 ((m : Nat) : Int))] [(0, 101, mkW 2 ns.length root), (2, 70, nsW ns)] rs = some (.int .i64 ((m : Nat) : Int))) (hP : P ns m) :
    QFin cfg G 2 k0 rs (fun w hp nw R' => R' = R ∧ MkO root ns0 S P w hp nw) x fr hp nw R :=
  fin hx (joq (b := 2) (k := k) (fr2 := [(s, .int .i64 ((m : Nat) : Int))]) (hp2 := [(0, 101, mkW 2 ns.length root), (2, 70, nsW ns)]) (by omega) hk hkn ⟨⟨hf, rfl⟩, trivial⟩ ⟨⟨by omega, h0, rfl⟩, ⟨by omega, by rw [yBq (qTq _)]; exact h1, zyq (qTq _)⟩, trivial⟩ (by simp)) ho ⟨rfl, .inr ⟨ns, m, hP, rfl, rfl, rfl⟩⟩
theorem k3q {k0 : Nat} {rs : List ResultVar} {x : Exit} {fr : FrW} {hp : HpW} {nw : Nat} {R : Res} {root : Int} {P : List Node → Nat → Prop} {S : Nat → Prop} {ns : List Node} {m : Nat} (s : Nat) (hx : x = .normal ∨ x = .ret) (hkn : 2 ≤ nw) (hf : getW fr s = some (.int .i64 ((m : Nat) : Int)))
    (h0 : hget hp 0 = some (101, mkW 1 ns.length root)) (h1 : hget hp 1 = some (70, nsW ns)) (ho : outW cfg [(s, .int .i64 ((m : Nat) : Int))] [(0, 101, mkW 1 ns.length root), (1, 70, nsW ns)] rs = some (.int .i64 ((m : Nat) : Int))) (hP : S m) :
    QFin cfg G 2 k0 rs (fun w hp nw R' => R' = R ∧ MkO root ns S P w hp nw) x fr hp nw R :=
  fin hx (uxq (nw2 := 2) (fr2 := [(s, .int .i64 ((m : Nat) : Int))]) (hp2 := [(0, 101, mkW 1 ns.length root), (1, 70, nsW ns)]) (by omega) hkn ⟨hf, trivial⟩ rfl (fun b y hb => by
    match b, hb with
    | 0, hb => cases hb; exact ⟨by omega, h0, rfl⟩
    | 1, hb => cases hb; exact ⟨by omega, h1, zyq (qTq _)⟩
    | b + 2, hb => cases hb) (by simp)) ho ⟨rfl, .inl ⟨m, hP, rfl, rfl, rfl⟩⟩
theorem xVq (ns : List Node) {i : Nat} {x : Node} (h : ns[i]? = some x) : yFq 50 (nsW ns) (0 + i * 36 + 0) 1 false = some (.bool x.leaf) :=
  get_in (yKq nW h) (by omega) (by omega) (by simp) rfl
theorem Rep.zero {ns : List Node} {t : T} (h : Rep ns 0 t) : t = .nil := by cases h; rfl
theorem Rep.is_leaf {ns : List Node} {n : Nat} {t : T} {x : Node} (h : Rep ns (n + 1) t) (hx : ns[n]? = some x) : (x.leaf = true → ∃ k v, t = .leaf k v) ∧ (x.leaf = false → ∃ l r, t = .fork l r) := by
  cases h with
  | leaf h2 => rw [hx] at h2; cases h2; exact ⟨fun _ => ⟨_, _, rfl⟩, fun h => by cases h⟩
  | fork h2 => rw [hx] at h2; cases h2; exact ⟨fun h => (by cases h), fun _ => ⟨_, _, rfl⟩⟩
theorem u9q {ns : List Node} {l r : Nat} {L R : T} (hl : Rep ns l L) (hr : Rep ns r R) (h : l + r = 0) : Rep ns (l + r) (T.join L R) := by
  obtain rfl : l = 0 := by omega
  obtain rfl : r = 0 := by omega
  rw [hl.zero, hr.zero]; exact .nil
theorem xXq {ns : List Node} {l r : Nat} {L R : T} {x : Node} (hl : Rep ns l L) (hr : Rep ns r R) (h : l = 0 ∨ r = 0) (h0 : 0 < l + r) (hx : ns[l + r - 1]? = some x) (hf : x.leaf = true) : Rep ns (l + r) (T.join L R) := by
  rcases h with rfl | rfl
  · cases r with
    | zero => omega
    | succ r =>
      have e : 0 + (r + 1) - 1 = r := by omega
      rw [e] at hx
      obtain ⟨k, v, rfl⟩ := (hr.is_leaf hx).1 hf
      rw [hl.zero, Nat.zero_add]; exact hr
  · cases l with
    | zero => omega
    | succ l =>
      obtain ⟨k, v, rfl⟩ := (hl.is_leaf (x := x) (by simpa using hx)).1 hf
      rw [hr.zero, Nat.add_zero]; exact hl
theorem xYq {ns : List Node} {l r : Nat} {L R : T} {x : Node} (hl : Rep ns l L) (hr : Rep ns r R) (h : l = 0 ∨ r = 0) (h0 : 0 < l + r) (hx : ns[l + r - 1]? = some x) (hf : x.leaf = false) : T.join L R = .fork L R := by
  rcases h with rfl | rfl
  · cases r with
    | zero => omega
    | succ r =>
      have e : 0 + (r + 1) - 1 = r := by omega
      rw [e] at hx
      obtain ⟨k, v, rfl⟩ := (hr.is_leaf hx).2 hf
      rw [hl.zero]; rfl
  · cases l with
    | zero => omega
    | succ l =>
      obtain ⟨k, v, rfl⟩ := (hl.is_leaf (x := x) (by simpa using hx)).2 hf
      rw [hr.zero]; rfl
theorem u8q {ns : List Node} {l r : Nat} {L R : T} (hl : Rep ns l L) (hr : Rep ns r R) (h1 : 0 < l) (h2 : 0 < r) : T.join L R = .fork L R := by
  cases hl with
  | nil => omega
  | leaf => cases hr with
    | nil => omega
    | leaf => rfl
    | fork => rfl
  | fork => cases hr with
    | nil => omega
    | leaf => rfl
    | fork => rfl
abbrev WoutS (G : Nat → Option W) (root : Int) (k : Dig) (ns : List Node) (n d : Nat) (S : Nat → Prop) (P : List Node → Nat → Prop) : Prop := qVq cfg G 57 2 [.ptr 0 0, .int .i64 ((n : Nat) : Int), .int .i64 ((d : Nat) : Int), dW k] [(0, 101, mkW 1 ns.length root), (1, 70, nsW ns)] (MkO root ns S P)
theorem wout_leaf {root : Int} {k k' : Dig} {v' : List UInt8} {ns : List Node} {i d : Nat} {l r : Int} {P : List Node → Nat → Prop} (hx : ns[i]? = some ⟨true, k', v', l, r⟩) (hl : ns.length ≤ 1000000000) : WoutS G root k ns (i + 1) d (fun m => Rep ns m .nil) P := by
  intro R
  have hi := (List.getElem?_eq_some_iff.1 hx).1
  obtain ⟨w, hw, rfl | ⟨_, rfl⟩⟩ := u7q ns hx
  · refine yuq (fn := Try.f57) rfl rfl rfl (Nat.le_of_ble_eq_true rfl) (fun k0 => ?_)
    refine zcq (zbq (zdq rfl rfl (zaq rfl rfl (zeq ?_))))
    refine zfq (zcq (zbq (zaq rfl rfl (zaq rfl rfl (zaq rfl rfl (zaq rfl rfl (zdq rfl rfl (zaq rfl rfl (zAq (i) rfl rfl (by first | rfl | omega) ⟨by omega, by omega⟩ ?_)))))))))
    refine zaq rfl (ylq (i := i) rfl rfl rfl rfl rfl rfl rfl hi) (zdq rfl (y1q rfl rfl rfl hw) (zdq rfl rfl (zdq rfl rfl (zeq ?_))))
    refine zfq (zcq (zcq (zbq (zaq rfl rfl (zdq rfl rfl (zeq ?_))))))
    refine zfq (zQq rfl (zcq (zbq (zaq rfl rfl (zeq ?_)))))
    refine zfq (zjq ?_)
    refine zlq (by intro h; cases h) ?_
    exact k3q (m := 0) 8 (.inr rfl) (by show 2 ≤ 4; omega) rfl rfl rfl rfl .nil
  · refine yuq (fn := Try.f57) rfl rfl rfl (Nat.le_of_ble_eq_true rfl) (fun k0 => ?_)
    refine zcq (zbq (zdq rfl rfl (zaq rfl rfl (zeq ?_))))
    refine zfq (zcq (zbq (zaq rfl rfl (zaq rfl rfl (zaq rfl rfl (zaq rfl rfl (zdq rfl rfl (zaq rfl rfl (zAq (i) rfl rfl (by first | rfl | omega) ⟨by omega, by omega⟩ ?_)))))))))
    refine zaq rfl (ylq (i := i) rfl rfl rfl rfl rfl rfl rfl hi) (zdq rfl (y1q rfl rfl rfl hw) (zdq rfl rfl (zdq rfl rfl (zeq ?_))))
    refine zfq (zcq (zcq (zbq (zaq rfl rfl (zdq rfl rfl (zeq ?_))))))
    refine zfq (zQq rfl (zcq (zbq (zaq rfl rfl (zeq ?_)))))
    refine zfq (zjq ?_)
    refine zlq (by intro h; cases h) ?_
    exact k3q (m := 0) 8 (.inr rfl) (by show 2 ≤ 4; omega) rfl rfl rfl rfl .nil
theorem min_w (a b : Nat) : W.int .i64 (match ltI (b : Int) (a : Int) with | true => (b : Int) | false => (a : Int)) = W.int .i64 ((min a b : Nat) : Int) := by
  cases h : ltI (b : Int) (a : Int) with
  | true => have := ltI_iff.1 h; simp only; congr 1; omega
  | false => have : ¬ (b : Int) < a := fun q => by rw [ltI_iff.2 q] at h; cases h
             simp only; congr 1; omega
theorem vaq {ns : List Node} {l r f : Nat} {L R : T} (hok : okN ns) (hl : Rep ns l L) (hr : Rep ns r R) (h : 0 < l + r) : Gr ns (f + 1) (.fork L R) (ns ++ [forkN l r]) (ns.length + 1) := by
  have h1 := qEq (ms := []) (f := f) (Nat.zero_le _) (by rw [List.append_nil]; exact hok) (by rw [List.append_nil]; exact hl) (by rw [List.append_nil]; exact hr) h
  rwa [List.append_nil] at h1
theorem wout_fork {root : Int} {k k' : Dig} {v' : List UInt8} {ns : List Node} {i d f l r : Nat} {L R t' : T} (hx : ns[i]? = some ⟨false, k', v', l, r⟩) (hok : okN ns) (hL : Rep ns l L) (hR : Rep ns r R) (hd : d < 256) (hl : ns.length + f + 1 ≤ 1000000000)
    (sp : WoutS G root k ns (if bitN k d = 0 then l else r) (d + 1) (fun m => Rep ns m t') (Gr ns f t')) : WoutS G root k ns (i + 1) d (fun m => Rep ns m (if bitN k d = 0 then .join t' R else .join L t')) (Gr ns (f + 1) (if bitN k d = 0 then .join t' R else .join L t')) := by
  intro R'
  have hi := (List.getElem?_eq_some_iff.1 hx).1
  have b1 := qGq k d
  have hc : bitN k d = 0 ∨ bitN k d = 1 := by omega
  have hw := fork_all hx hok
  rcases hc with hc | hc
  · skip
    rw [if_pos hc] at sp
    refine yuq (fn := Try.f57) rfl rfl rfl (Nat.le_of_ble_eq_true rfl) (fun k0 => ?_)
    refine zcq (zbq (zdq rfl rfl (zaq rfl rfl (zeq ?_))))
    refine zfq (zcq (zbq (zaq rfl rfl (zaq rfl rfl (zaq rfl rfl (zaq rfl rfl (zdq rfl rfl (zaq rfl rfl (zAq (i) rfl rfl (by first | rfl | omega) ⟨by omega, by omega⟩ ?_)))))))))
    refine zaq rfl (ylq (i := i) rfl rfl rfl rfl rfl rfl rfl hi) (zdq rfl (y1q rfl rfl rfl hw) (zdq rfl rfl (zdq rfl rfl (zeq ?_))))
    refine zfq (zcq (zcq (zbq (zaq rfl rfl (zdq rfl rfl (zeq ?_))))))
    refine zfq (zCq rfl (ziq (zfq (zcq (zbq (zdq rfl rfl (zsq rfl rfl rfl rfl rfl rfl (jvq _) ?_)))))))
    refine zdq rfl rfl (zdq rfl rfl (zeq ?_))
    refine zfq (zcq (zbq (zdq rfl rfl (zaq rfl rfl (zsq rfl rfl rfl rfl rfl rfl (yLq k d 0 hd hc) ?_)))))
    refine zaq rfl rfl (zeq ?_)
    refine zfq (zcq (z0q (zhq rfl rfl (zhq rfl rfl ?_))))
    first | refine zhq rfl (z8q rfl rfl rfl rfl rfl rfl rfl (by first | assumption | (simp; done))) ?_ | refine zhq rfl (ylq rfl rfl rfl rfl rfl rfl rfl (by omega)) ?_ | refine zhq rfl (z1q rfl rfl rfl rfl rfl rfl (by omega)) ?_ | refine zhq rfl rfl ?_
    refine zGq rfl rfl ?_
    refine zhq rfl rfl (jyq (d + 1) rfl rfl (by first | rfl | omega) ⟨by omega, by omega⟩ ?_)
    refine zGq rfl rfl ?_
    skip
    skip
    refine yMq rfl (step_mkO 1 rfl rfl rfl rfl (by simp) (by omega) (by show 1 < 5; omega) rfl rfl sp ?_ ?_)
    · rintro m hm
      refine ⟨by first | rfl | kernel_rfl, ?_⟩
      skip
      have la := (hm).le
      have lb := ((hR)).le
      have ll : ns.length ≤ 1000000000 := by first | omega | (simp only [List.length_append]; omega)
      refine zhq rfl rfl (z9q ?_)
      refine zfq (zcq (zbq (zaq rfl rfl (zaq rfl rfl ?_))))
      first | refine zaq rfl (z8q rfl rfl rfl rfl rfl rfl rfl (by first | assumption | (simp; done))) ?_ | refine zaq rfl (ylq rfl rfl rfl rfl rfl rfl rfl (by omega)) ?_ | refine zaq rfl (z1q rfl rfl rfl rfl rfl rfl (by omega)) ?_ | refine zaq rfl rfl ?_
      refine zdq rfl rfl (zeq ?_)
      refine zfq (zcq (zcq (zbq ?_)))
      first | refine zaq rfl (z8q rfl rfl rfl rfl rfl rfl rfl (by first | assumption | (simp; done))) ?_ | refine zaq rfl (ylq rfl rfl rfl rfl rfl rfl rfl (by omega)) ?_ | refine zaq rfl (z1q rfl rfl rfl rfl rfl rfl (by omega)) ?_ | refine zaq rfl rfl ?_
      refine zdq rfl rfl ?_
      first | refine zaq rfl (z8q rfl rfl rfl rfl rfl rfl rfl (by first | assumption | (simp; done))) ?_ | refine zaq rfl (ylq rfl rfl rfl rfl rfl rfl rfl (by omega)) ?_ | refine zaq rfl (z1q rfl rfl rfl rfl rfl rfl (by omega)) ?_ | refine zaq rfl rfl ?_
      refine zdq rfl rfl (zAq (m + r) rfl rfl (by first | rfl | omega) ⟨by omega, by omega⟩ ?_)
      refine zaq rfl rfl (zeq ?_)
      refine zfq (zcq (zbq ?_))
      first | refine zaq rfl (z8q rfl rfl rfl rfl rfl rfl rfl (by first | assumption | (simp; done))) ?_ | refine zaq rfl (ylq rfl rfl rfl rfl rfl rfl rfl (by omega)) ?_ | refine zaq rfl (z1q rfl rfl rfl rfl rfl rfl (by omega)) ?_ | refine zaq rfl rfl ?_
      refine zdq rfl rfl ?_
      first | refine zaq rfl (z8q rfl rfl rfl rfl rfl rfl rfl (by first | assumption | (simp; done))) ?_ | refine zaq rfl (ylq rfl rfl rfl rfl rfl rfl rfl (by omega)) ?_ | refine zaq rfl (z1q rfl rfl rfl rfl rfl rfl (by omega)) ?_ | refine zaq rfl rfl ?_
      refine zdq rfl rfl (zXq (w' := .int .i64 ((min m r : Nat) : Int)) rfl rfl (min_w _ _) ?_)
      refine yYq rfl rfl (fun h1 => ?_) (fun h1 => ?_)
      · have hz : m = 0 ∨ r = 0 := by omega
        refine zaq rfl rfl (zaq rfl rfl ?_)
        refine yYq rfl rfl (fun h2 => ?_) (fun h2 => ?_)
        · refine zaq rfl rfl (zgq rfl (zgq rfl (zgq rfl (zgq rfl (zgq rfl (zgq rfl (zgq rfl (zgq rfl (zgq rfl (zgq rfl (zaq rfl rfl (zaq rfl rfl (zeq ?_)))))))))))))
          refine zfq (zQq rfl (zcq (zbq (zaq rfl rfl (zaq rfl rfl (zeq ?_))))))
          refine zfq (zjq ?_)
          refine zlq (by intro h; cases h) ?_
          exact k3q (m := m + r) 8 (.inr rfl) (by show 2 ≤ 5; omega) rfl rfl rfl rfl (by rw [if_pos hc]; exact u9q hm (hR) (by omega))
        · obtain ⟨y, hy⟩ : ∃ y, ns[m + r - 1]? = some y := ⟨_, List.getElem?_eq_getElem (by omega)⟩
          refine zaq rfl rfl (zaq rfl rfl (zaq rfl rfl (zaq rfl rfl (zaq rfl rfl (zdq rfl rfl (zaq rfl rfl (zAq (m + r - 1) rfl rfl (by first | rfl | omega) ⟨by omega, by omega⟩ ?_)))))))
          refine zaq rfl (ylq (i := m + r - 1) rfl rfl rfl rfl rfl rfl rfl (by omega)) ?_
          refine zaq rfl rfl (zdq rfl (y1q rfl rfl rfl (xVq ns hy)) (zaq rfl rfl (zaq rfl rfl (zeq ?_))))
          refine zfq ?_
          refine zHq rfl (fun h3 => ?_) (fun h3 => ?_)
          · refine zcq (zbq (zaq rfl rfl (zaq rfl rfl (zeq ?_))))
            refine zfq (zjq ?_)
            refine zlq (by intro h; cases h) ?_
            exact k3q (m := m + r) 8 (.inr rfl) (by show 2 ≤ 5; omega) rfl rfl rfl rfl (by rw [if_pos hc]; exact xXq hm (hR) hz (by omega) hy h3)
          · refine ziq (zfq (zcq (zbq (zaq rfl rfl (zdq rfl rfl (zsq rfl rfl rfl rfl rfl rfl (qWq _ _) ?_))))))
            (refine z3q rfl (yzq 1 rfl rfl rfl rfl (by simp) (by omega) (by show 1 < 5; omega) rfl rfl (qxq _ root _ (by first | omega | (simp only [List.length_append]; omega))) ?_); rintro ns2 m2 ⟨rfl, rfl⟩)
            refine zaq rfl rfl (zeq ?_)
            refine zfq (zjq ?_)
            exact jhq 8 5 (.inr rfl) (by omega) (by show 5 < 6; omega) rfl rfl rfl rfl (by rw [if_pos hc, xYq hm (hR) hz (by omega) hy (by simpa using h3)]; exact vaq hok hm (hR) (by omega))
      · refine zaq rfl rfl (zgq rfl (zgq rfl (zgq rfl (zgq rfl (zgq rfl (zgq rfl (zgq rfl (zgq rfl (zgq rfl (zgq rfl (zgq rfl (zgq rfl (zgq rfl (zgq rfl (zaq rfl rfl (zeq ?_))))))))))))))))
        refine zfq (zCq rfl (ziq (zfq (zcq (zbq (zaq rfl rfl (zdq rfl rfl (zsq rfl rfl rfl rfl rfl rfl (qWq _ _) ?_))))))))
        (refine z3q rfl (yzq 1 rfl rfl rfl rfl (by simp) (by omega) (by show 1 < 5; omega) rfl rfl (qxq _ root _ (by first | omega | (simp only [List.length_append]; omega))) ?_); rintro ns2 m2 ⟨rfl, rfl⟩)
        refine zaq rfl rfl (zeq ?_)
        refine zfq (zjq ?_)
        exact jhq 8 5 (.inr rfl) (by omega) (by show 5 < 6; omega) rfl rfl rfl rfl (by rw [if_pos hc, u8q hm (hR) (by omega) (by omega)]; exact vaq hok hm (hR) (by omega))
    · rintro ns1 m ⟨⟨ms, rfl, hms⟩, hok1, hm⟩
      refine ⟨by first | rfl | kernel_rfl, ?_⟩
      skip
      have la := (hm).le
      have lb := ((hR.app ms)).le
      have ll : (ns ++ ms).length ≤ 1000000000 := by first | omega | (simp only [List.length_append]; omega)
      refine zhq rfl rfl (z9q ?_)
      refine zfq (zcq (zbq (zaq rfl rfl (zaq rfl rfl ?_))))
      first | refine zaq rfl (z8q rfl rfl rfl rfl rfl rfl rfl (by first | assumption | (simp; done))) ?_ | refine zaq rfl (ylq rfl rfl rfl rfl rfl rfl rfl (by omega)) ?_ | refine zaq rfl (z1q rfl rfl rfl rfl rfl rfl (by omega)) ?_ | refine zaq rfl rfl ?_
      refine zdq rfl rfl (zeq ?_)
      refine zfq (zcq (zcq (zbq ?_)))
      first | refine zaq rfl (z8q rfl rfl rfl rfl rfl rfl rfl (by first | assumption | (simp; done))) ?_ | refine zaq rfl (ylq rfl rfl rfl rfl rfl rfl rfl (by omega)) ?_ | refine zaq rfl (z1q rfl rfl rfl rfl rfl rfl (by omega)) ?_ | refine zaq rfl rfl ?_
      refine zdq rfl rfl ?_
      first | refine zaq rfl (z8q rfl rfl rfl rfl rfl rfl rfl (by first | assumption | (simp; done))) ?_ | refine zaq rfl (ylq rfl rfl rfl rfl rfl rfl rfl (by omega)) ?_ | refine zaq rfl (z1q rfl rfl rfl rfl rfl rfl (by omega)) ?_ | refine zaq rfl rfl ?_
      refine zdq rfl rfl (zAq (m + r) rfl rfl (by first | rfl | omega) ⟨by omega, by omega⟩ ?_)
      refine zaq rfl rfl (zeq ?_)
      refine zfq (zcq (zbq ?_))
      first | refine zaq rfl (z8q rfl rfl rfl rfl rfl rfl rfl (by first | assumption | (simp; done))) ?_ | refine zaq rfl (ylq rfl rfl rfl rfl rfl rfl rfl (by omega)) ?_ | refine zaq rfl (z1q rfl rfl rfl rfl rfl rfl (by omega)) ?_ | refine zaq rfl rfl ?_
      refine zdq rfl rfl ?_
      first | refine zaq rfl (z8q rfl rfl rfl rfl rfl rfl rfl (by first | assumption | (simp; done))) ?_ | refine zaq rfl (ylq rfl rfl rfl rfl rfl rfl rfl (by omega)) ?_ | refine zaq rfl (z1q rfl rfl rfl rfl rfl rfl (by omega)) ?_ | refine zaq rfl rfl ?_
      refine zdq rfl rfl (zXq (w' := .int .i64 ((min m r : Nat) : Int)) rfl rfl (min_w _ _) ?_)
      refine yYq rfl rfl (fun h1 => ?_) (fun h1 => ?_)
      · have hz : m = 0 ∨ r = 0 := by omega
        refine zaq rfl rfl (zaq rfl rfl ?_)
        refine yYq rfl rfl (fun h2 => ?_) (fun h2 => ?_)
        · refine zaq rfl rfl (zgq rfl (zgq rfl (zgq rfl (zgq rfl (zgq rfl (zgq rfl (zgq rfl (zgq rfl (zgq rfl (zgq rfl (zaq rfl rfl (zaq rfl rfl (zeq ?_)))))))))))))
          refine zfq (zQq rfl (zcq (zbq (zaq rfl rfl (zaq rfl rfl (zeq ?_))))))
          refine zfq (zjq ?_)
          refine zlq (by intro h; cases h) ?_
          exact jhq (m := m + r) 8 5 (.inr rfl) (by omega) (by show 5 < 6; omega) rfl rfl rfl rfl ⟨⟨ms, rfl, by omega⟩, hok1, by rw [if_pos hc]; exact u9q hm (hR.app ms) (by omega)⟩
        · obtain ⟨y, hy⟩ : ∃ y, (ns ++ ms)[m + r - 1]? = some y := ⟨_, List.getElem?_eq_getElem (by omega)⟩
          refine zaq rfl rfl (zaq rfl rfl (zaq rfl rfl (zaq rfl rfl (zaq rfl rfl (zdq rfl rfl (zaq rfl rfl (zAq (m + r - 1) rfl rfl (by first | rfl | omega) ⟨by omega, by omega⟩ ?_)))))))
          refine zaq rfl (ylq (i := m + r - 1) rfl rfl rfl rfl rfl rfl rfl (by omega)) ?_
          refine zaq rfl rfl (zdq rfl (y1q rfl rfl rfl (xVq (ns ++ ms) hy)) (zaq rfl rfl (zaq rfl rfl (zeq ?_))))
          refine zfq ?_
          refine zHq rfl (fun h3 => ?_) (fun h3 => ?_)
          · refine zcq (zbq (zaq rfl rfl (zaq rfl rfl (zeq ?_))))
            refine zfq (zjq ?_)
            refine zlq (by intro h; cases h) ?_
            exact jhq (m := m + r) 8 5 (.inr rfl) (by omega) (by show 5 < 6; omega) rfl rfl rfl rfl ⟨⟨ms, rfl, by omega⟩, hok1, by rw [if_pos hc]; exact xXq hm (hR.app ms) hz (by omega) hy h3⟩
          · refine ziq (zfq (zcq (zbq (zaq rfl rfl (zdq rfl rfl (zsq rfl rfl rfl rfl rfl rfl (qWq _ _) ?_))))))
            (refine z3q rfl (yzq 5 rfl rfl rfl rfl (by simp) (by omega) (by show 5 < 6; omega) rfl rfl (qxq _ root _ (by first | omega | (simp only [List.length_append]; omega))) ?_); rintro ns2 m2 ⟨rfl, rfl⟩)
            refine zaq rfl rfl (zeq ?_)
            refine zfq (zjq ?_)
            exact jhq 8 6 (.inr rfl) (by omega) (by show 6 < 7; omega) rfl rfl rfl rfl (by rw [if_pos hc, xYq hm (hR.app ms) hz (by omega) hy (by simpa using h3)]; exact qEq hms hok1 hm (hR.app ms) (by omega))
      · refine zaq rfl rfl (zgq rfl (zgq rfl (zgq rfl (zgq rfl (zgq rfl (zgq rfl (zgq rfl (zgq rfl (zgq rfl (zgq rfl (zgq rfl (zgq rfl (zgq rfl (zgq rfl (zaq rfl rfl (zeq ?_))))))))))))))))
        refine zfq (zCq rfl (ziq (zfq (zcq (zbq (zaq rfl rfl (zdq rfl rfl (zsq rfl rfl rfl rfl rfl rfl (qWq _ _) ?_))))))))
        (refine z3q rfl (yzq 5 rfl rfl rfl rfl (by simp) (by omega) (by show 5 < 6; omega) rfl rfl (qxq _ root _ (by first | omega | (simp only [List.length_append]; omega))) ?_); rintro ns2 m2 ⟨rfl, rfl⟩)
        refine zaq rfl rfl (zeq ?_)
        refine zfq (zjq ?_)
        exact jhq 8 6 (.inr rfl) (by omega) (by show 6 < 7; omega) rfl rfl rfl rfl (by rw [if_pos hc, u8q hm (hR.app ms) (by omega) (by omega)]; exact qEq hms hok1 hm (hR.app ms) (by omega))
  · skip
    rw [if_neg (by omega)] at sp
    refine yuq (fn := Try.f57) rfl rfl rfl (Nat.le_of_ble_eq_true rfl) (fun k0 => ?_)
    refine zcq (zbq (zdq rfl rfl (zaq rfl rfl (zeq ?_))))
    refine zfq (zcq (zbq (zaq rfl rfl (zaq rfl rfl (zaq rfl rfl (zaq rfl rfl (zdq rfl rfl (zaq rfl rfl (zAq (i) rfl rfl (by first | rfl | omega) ⟨by omega, by omega⟩ ?_)))))))))
    refine zaq rfl (ylq (i := i) rfl rfl rfl rfl rfl rfl rfl hi) (zdq rfl (y1q rfl rfl rfl hw) (zdq rfl rfl (zdq rfl rfl (zeq ?_))))
    refine zfq (zcq (zcq (zbq (zaq rfl rfl (zdq rfl rfl (zeq ?_))))))
    refine zfq (zCq rfl (ziq (zfq (zcq (zbq (zdq rfl rfl (zsq rfl rfl rfl rfl rfl rfl (jvq _) ?_)))))))
    refine zdq rfl rfl (zdq rfl rfl (zeq ?_))
    refine zfq (zcq (zbq (zdq rfl rfl (zaq rfl rfl (zsq rfl rfl rfl rfl rfl rfl (yLq k d 1 hd hc) ?_)))))
    refine zaq rfl rfl (zeq ?_)
    refine zfq (zcq (z0q (zhq rfl rfl (zhq rfl rfl ?_))))
    first | refine zhq rfl (z8q rfl rfl rfl rfl rfl rfl rfl (by first | assumption | (simp; done))) ?_ | refine zhq rfl (ylq rfl rfl rfl rfl rfl rfl rfl (by omega)) ?_ | refine zhq rfl (z1q rfl rfl rfl rfl rfl rfl (by omega)) ?_ | refine zhq rfl rfl ?_
    refine zGq rfl rfl ?_
    refine zhq rfl rfl (jyq (d + 1) rfl rfl (by first | rfl | omega) ⟨by omega, by omega⟩ ?_)
    refine zGq rfl rfl ?_
    skip
    skip
    refine yMq rfl (step_mkO 1 rfl rfl rfl rfl (by simp) (by omega) (by show 1 < 5; omega) rfl rfl sp ?_ ?_)
    · rintro m hm
      refine ⟨by first | rfl | kernel_rfl, ?_⟩
      skip
      have la := ((hL)).le
      have lb := (hm).le
      have ll : ns.length ≤ 1000000000 := by first | omega | (simp only [List.length_append]; omega)
      refine zhq rfl rfl (z9q ?_)
      refine zfq (zcq (zbq (zaq rfl rfl (zaq rfl rfl ?_))))
      first | refine zaq rfl (z8q rfl rfl rfl rfl rfl rfl rfl (by first | assumption | (simp; done))) ?_ | refine zaq rfl (ylq rfl rfl rfl rfl rfl rfl rfl (by omega)) ?_ | refine zaq rfl (z1q rfl rfl rfl rfl rfl rfl (by omega)) ?_ | refine zaq rfl rfl ?_
      refine zdq rfl rfl (zeq ?_)
      refine zfq (zcq (zcq (zbq ?_)))
      first | refine zaq rfl (z8q rfl rfl rfl rfl rfl rfl rfl (by first | assumption | (simp; done))) ?_ | refine zaq rfl (ylq rfl rfl rfl rfl rfl rfl rfl (by omega)) ?_ | refine zaq rfl (z1q rfl rfl rfl rfl rfl rfl (by omega)) ?_ | refine zaq rfl rfl ?_
      refine zdq rfl rfl ?_
      first | refine zaq rfl (z8q rfl rfl rfl rfl rfl rfl rfl (by first | assumption | (simp; done))) ?_ | refine zaq rfl (ylq rfl rfl rfl rfl rfl rfl rfl (by omega)) ?_ | refine zaq rfl (z1q rfl rfl rfl rfl rfl rfl (by omega)) ?_ | refine zaq rfl rfl ?_
      refine zdq rfl rfl (zAq (l + m) rfl rfl (by first | rfl | omega) ⟨by omega, by omega⟩ ?_)
      refine zaq rfl rfl (zeq ?_)
      refine zfq (zcq (zbq ?_))
      first | refine zaq rfl (z8q rfl rfl rfl rfl rfl rfl rfl (by first | assumption | (simp; done))) ?_ | refine zaq rfl (ylq rfl rfl rfl rfl rfl rfl rfl (by omega)) ?_ | refine zaq rfl (z1q rfl rfl rfl rfl rfl rfl (by omega)) ?_ | refine zaq rfl rfl ?_
      refine zdq rfl rfl ?_
      first | refine zaq rfl (z8q rfl rfl rfl rfl rfl rfl rfl (by first | assumption | (simp; done))) ?_ | refine zaq rfl (ylq rfl rfl rfl rfl rfl rfl rfl (by omega)) ?_ | refine zaq rfl (z1q rfl rfl rfl rfl rfl rfl (by omega)) ?_ | refine zaq rfl rfl ?_
      refine zdq rfl rfl (zXq (w' := .int .i64 ((min l m : Nat) : Int)) rfl rfl (min_w _ _) ?_)
      refine yYq rfl rfl (fun h1 => ?_) (fun h1 => ?_)
      · have hz : l = 0 ∨ m = 0 := by omega
        refine zaq rfl rfl (zaq rfl rfl ?_)
        refine yYq rfl rfl (fun h2 => ?_) (fun h2 => ?_)
        · refine zaq rfl rfl (zgq rfl (zgq rfl (zgq rfl (zgq rfl (zgq rfl (zgq rfl (zgq rfl (zgq rfl (zgq rfl (zgq rfl (zaq rfl rfl (zaq rfl rfl (zeq ?_)))))))))))))
          refine zfq (zQq rfl (zcq (zbq (zaq rfl rfl (zaq rfl rfl (zeq ?_))))))
          refine zfq (zjq ?_)
          refine zlq (by intro h; cases h) ?_
          exact k3q (m := l + m) 8 (.inr rfl) (by show 2 ≤ 5; omega) rfl rfl rfl rfl (by rw [if_neg (by omega)]; exact u9q (hL) hm (by omega))
        · obtain ⟨y, hy⟩ : ∃ y, ns[l + m - 1]? = some y := ⟨_, List.getElem?_eq_getElem (by omega)⟩
          refine zaq rfl rfl (zaq rfl rfl (zaq rfl rfl (zaq rfl rfl (zaq rfl rfl (zdq rfl rfl (zaq rfl rfl (zAq (l + m - 1) rfl rfl (by first | rfl | omega) ⟨by omega, by omega⟩ ?_)))))))
          refine zaq rfl (ylq (i := l + m - 1) rfl rfl rfl rfl rfl rfl rfl (by omega)) ?_
          refine zaq rfl rfl (zdq rfl (y1q rfl rfl rfl (xVq ns hy)) (zaq rfl rfl (zaq rfl rfl (zeq ?_))))
          refine zfq ?_
          refine zHq rfl (fun h3 => ?_) (fun h3 => ?_)
          · refine zcq (zbq (zaq rfl rfl (zaq rfl rfl (zeq ?_))))
            refine zfq (zjq ?_)
            refine zlq (by intro h; cases h) ?_
            exact k3q (m := l + m) 8 (.inr rfl) (by show 2 ≤ 5; omega) rfl rfl rfl rfl (by rw [if_neg (by omega)]; exact xXq (hL) hm hz (by omega) hy h3)
          · refine ziq (zfq (zcq (zbq (zaq rfl rfl (zdq rfl rfl (zsq rfl rfl rfl rfl rfl rfl (qWq _ _) ?_))))))
            (refine z3q rfl (yzq 1 rfl rfl rfl rfl (by simp) (by omega) (by show 1 < 5; omega) rfl rfl (qxq _ root _ (by first | omega | (simp only [List.length_append]; omega))) ?_); rintro ns2 m2 ⟨rfl, rfl⟩)
            refine zaq rfl rfl (zeq ?_)
            refine zfq (zjq ?_)
            exact jhq 8 5 (.inr rfl) (by omega) (by show 5 < 6; omega) rfl rfl rfl rfl (by rw [if_neg (by omega), xYq (hL) hm hz (by omega) hy (by simpa using h3)]; exact vaq hok (hL) hm (by omega))
      · refine zaq rfl rfl (zgq rfl (zgq rfl (zgq rfl (zgq rfl (zgq rfl (zgq rfl (zgq rfl (zgq rfl (zgq rfl (zgq rfl (zgq rfl (zgq rfl (zgq rfl (zgq rfl (zaq rfl rfl (zeq ?_))))))))))))))))
        refine zfq (zCq rfl (ziq (zfq (zcq (zbq (zaq rfl rfl (zdq rfl rfl (zsq rfl rfl rfl rfl rfl rfl (qWq _ _) ?_))))))))
        (refine z3q rfl (yzq 1 rfl rfl rfl rfl (by simp) (by omega) (by show 1 < 5; omega) rfl rfl (qxq _ root _ (by first | omega | (simp only [List.length_append]; omega))) ?_); rintro ns2 m2 ⟨rfl, rfl⟩)
        refine zaq rfl rfl (zeq ?_)
        refine zfq (zjq ?_)
        exact jhq 8 5 (.inr rfl) (by omega) (by show 5 < 6; omega) rfl rfl rfl rfl (by rw [if_neg (by omega), u8q (hL) hm (by omega) (by omega)]; exact vaq hok (hL) hm (by omega))
    · rintro ns1 m ⟨⟨ms, rfl, hms⟩, hok1, hm⟩
      refine ⟨by first | rfl | kernel_rfl, ?_⟩
      skip
      have la := ((hL.app ms)).le
      have lb := (hm).le
      have ll : (ns ++ ms).length ≤ 1000000000 := by first | omega | (simp only [List.length_append]; omega)
      refine zhq rfl rfl (z9q ?_)
      refine zfq (zcq (zbq (zaq rfl rfl (zaq rfl rfl ?_))))
      first | refine zaq rfl (z8q rfl rfl rfl rfl rfl rfl rfl (by first | assumption | (simp; done))) ?_ | refine zaq rfl (ylq rfl rfl rfl rfl rfl rfl rfl (by omega)) ?_ | refine zaq rfl (z1q rfl rfl rfl rfl rfl rfl (by omega)) ?_ | refine zaq rfl rfl ?_
      refine zdq rfl rfl (zeq ?_)
      refine zfq (zcq (zcq (zbq ?_)))
      first | refine zaq rfl (z8q rfl rfl rfl rfl rfl rfl rfl (by first | assumption | (simp; done))) ?_ | refine zaq rfl (ylq rfl rfl rfl rfl rfl rfl rfl (by omega)) ?_ | refine zaq rfl (z1q rfl rfl rfl rfl rfl rfl (by omega)) ?_ | refine zaq rfl rfl ?_
      refine zdq rfl rfl ?_
      first | refine zaq rfl (z8q rfl rfl rfl rfl rfl rfl rfl (by first | assumption | (simp; done))) ?_ | refine zaq rfl (ylq rfl rfl rfl rfl rfl rfl rfl (by omega)) ?_ | refine zaq rfl (z1q rfl rfl rfl rfl rfl rfl (by omega)) ?_ | refine zaq rfl rfl ?_
      refine zdq rfl rfl (zAq (l + m) rfl rfl (by first | rfl | omega) ⟨by omega, by omega⟩ ?_)
      refine zaq rfl rfl (zeq ?_)
      refine zfq (zcq (zbq ?_))
      first | refine zaq rfl (z8q rfl rfl rfl rfl rfl rfl rfl (by first | assumption | (simp; done))) ?_ | refine zaq rfl (ylq rfl rfl rfl rfl rfl rfl rfl (by omega)) ?_ | refine zaq rfl (z1q rfl rfl rfl rfl rfl rfl (by omega)) ?_ | refine zaq rfl rfl ?_
      refine zdq rfl rfl ?_
      first | refine zaq rfl (z8q rfl rfl rfl rfl rfl rfl rfl (by first | assumption | (simp; done))) ?_ | refine zaq rfl (ylq rfl rfl rfl rfl rfl rfl rfl (by omega)) ?_ | refine zaq rfl (z1q rfl rfl rfl rfl rfl rfl (by omega)) ?_ | refine zaq rfl rfl ?_
      refine zdq rfl rfl (zXq (w' := .int .i64 ((min l m : Nat) : Int)) rfl rfl (min_w _ _) ?_)
      refine yYq rfl rfl (fun h1 => ?_) (fun h1 => ?_)
      · have hz : l = 0 ∨ m = 0 := by omega
        refine zaq rfl rfl (zaq rfl rfl ?_)
        refine yYq rfl rfl (fun h2 => ?_) (fun h2 => ?_)
        · refine zaq rfl rfl (zgq rfl (zgq rfl (zgq rfl (zgq rfl (zgq rfl (zgq rfl (zgq rfl (zgq rfl (zgq rfl (zgq rfl (zaq rfl rfl (zaq rfl rfl (zeq ?_)))))))))))))
          refine zfq (zQq rfl (zcq (zbq (zaq rfl rfl (zaq rfl rfl (zeq ?_))))))
          refine zfq (zjq ?_)
          refine zlq (by intro h; cases h) ?_
          exact jhq (m := l + m) 8 5 (.inr rfl) (by omega) (by show 5 < 6; omega) rfl rfl rfl rfl ⟨⟨ms, rfl, by omega⟩, hok1, by rw [if_neg (by omega)]; exact u9q (hL.app ms) hm (by omega)⟩
        · obtain ⟨y, hy⟩ : ∃ y, (ns ++ ms)[l + m - 1]? = some y := ⟨_, List.getElem?_eq_getElem (by omega)⟩
          refine zaq rfl rfl (zaq rfl rfl (zaq rfl rfl (zaq rfl rfl (zaq rfl rfl (zdq rfl rfl (zaq rfl rfl (zAq (l + m - 1) rfl rfl (by first | rfl | omega) ⟨by omega, by omega⟩ ?_)))))))
          refine zaq rfl (ylq (i := l + m - 1) rfl rfl rfl rfl rfl rfl rfl (by omega)) ?_
          refine zaq rfl rfl (zdq rfl (y1q rfl rfl rfl (xVq (ns ++ ms) hy)) (zaq rfl rfl (zaq rfl rfl (zeq ?_))))
          refine zfq ?_
          refine zHq rfl (fun h3 => ?_) (fun h3 => ?_)
          · refine zcq (zbq (zaq rfl rfl (zaq rfl rfl (zeq ?_))))
            refine zfq (zjq ?_)
            refine zlq (by intro h; cases h) ?_
            exact jhq (m := l + m) 8 5 (.inr rfl) (by omega) (by show 5 < 6; omega) rfl rfl rfl rfl ⟨⟨ms, rfl, by omega⟩, hok1, by rw [if_neg (by omega)]; exact xXq (hL.app ms) hm hz (by omega) hy h3⟩
          · refine ziq (zfq (zcq (zbq (zaq rfl rfl (zdq rfl rfl (zsq rfl rfl rfl rfl rfl rfl (qWq _ _) ?_))))))
            (refine z3q rfl (yzq 5 rfl rfl rfl rfl (by simp) (by omega) (by show 5 < 6; omega) rfl rfl (qxq _ root _ (by first | omega | (simp only [List.length_append]; omega))) ?_); rintro ns2 m2 ⟨rfl, rfl⟩)
            refine zaq rfl rfl (zeq ?_)
            refine zfq (zjq ?_)
            exact jhq 8 6 (.inr rfl) (by omega) (by show 6 < 7; omega) rfl rfl rfl rfl (by rw [if_neg (by omega), xYq (hL.app ms) hm hz (by omega) hy (by simpa using h3)]; exact qEq hms hok1 (hL.app ms) hm (by omega))
      · refine zaq rfl rfl (zgq rfl (zgq rfl (zgq rfl (zgq rfl (zgq rfl (zgq rfl (zgq rfl (zgq rfl (zgq rfl (zgq rfl (zgq rfl (zgq rfl (zgq rfl (zgq rfl (zaq rfl rfl (zeq ?_))))))))))))))))
        refine zfq (zCq rfl (ziq (zfq (zcq (zbq (zaq rfl rfl (zdq rfl rfl (zsq rfl rfl rfl rfl rfl rfl (qWq _ _) ?_))))))))
        (refine z3q rfl (yzq 5 rfl rfl rfl rfl (by simp) (by omega) (by show 5 < 6; omega) rfl rfl (qxq _ root _ (by first | omega | (simp only [List.length_append]; omega))) ?_); rintro ns2 m2 ⟨rfl, rfl⟩)
        refine zaq rfl rfl (zeq ?_)
        refine zfq (zjq ?_)
        exact jhq 8 6 (.inr rfl) (by omega) (by show 6 < 7; omega) rfl rfl rfl rfl (by rw [if_neg (by omega), u8q (hL.app ms) hm (by omega) (by omega)]; exact qEq hms hok1 (hL.app ms) hm (by omega))
theorem find_fork {k : Dig} {d : Nat} {L R : T} : T.find k d (.fork L R) = (if bitN k d = 0 then L.find k (d + 1) else R.find k (d + 1)) := rfl
theorem wout_s (root : Int) (k : Dig) (ns : List Node) (hok : okN ns) : ∀ (t : T) (n d f : Nat) (b : Dig), Rep ns n t → t.ok d b = true → d + f = 256 → (t.find k d).isSome = true → ns.length + f + 1 ≤ 1000000000 → WoutS G root k ns n d (fun m => Rep ns m (T.drop k d t)) (Gr ns f (T.drop k d t)) := by
  intro t
  induction t with
  | nil => intro n d f b hr ht hf hs hl; cases hs
  | leaf k' v' =>
    intro n d f b hr ht hf hs hl
    cases hr with
    | leaf hx => exact wout_leaf hx (by omega)
  | fork tl tr ihL ihR =>
    intro n d f b hr ht hf hs hl
    obtain ⟨hd, k1, k2, _⟩ := ok_fork.1 ht
    cases hr with
    | fork hx h1 h2 hL hR =>
      rename_i n l r k' v'
      cases f with
      | zero => omega
      | succ f =>
        rw [find_fork] at hs
        have key : WoutS G root k ns (n + 1) d (fun m => Rep ns m (if bitN k d = 0 then .join (T.drop k (d + 1) (if bitN k d = 0 then tl else tr)) tr else .join tl (T.drop k (d + 1) (if bitN k d = 0 then tl else tr)))) (Gr ns (f + 1) (if bitN k d = 0 then .join (T.drop k (d + 1) (if bitN k d = 0 then tl else tr)) tr else .join tl (T.drop k (d + 1) (if bitN k d = 0 then tl else tr)))) := by
          refine wout_fork hx hok hL hR hd (by omega) ?_
          by_cases hb : bitN k d = 0
          · rw [if_pos hb] at hs ⊢
            rw [if_pos hb]
            exact ihL l (d + 1) f b hL k1 (by omega) hs (by omega)
          · rw [if_neg hb] at hs ⊢
            rw [if_neg hb]
            exact ihR r (d + 1) f (qgq b d) hR k2 (by omega) hs (by omega)
        have ep : T.drop k d (.fork tl tr) = (if bitN k d = 0 then .join (T.drop k (d + 1) (if bitN k d = 0 then tl else tr)) tr else .join tl (T.drop k (d + 1) (if bitN k d = 0 then tl else tr))) := by
          simp only [T.drop]
          by_cases hb : bitN k d = 0
          · simp only [if_pos hb]
          · simp only [if_neg hb]
        rw [ep]
        exact key
end Go.Proofs.Ytgeelfdgnehdnaa
namespace Go.Proofs.Ytgeelfdgnehdnaa
open Go.RowKit
set_option linter.unusedSimpArgs false
set_option linter.unusedVariables false
attribute [local irreducible] CoW OpW FlW Step Spec
variable {G : Nat → Option W}
theorem step_mkJ {o : Oper} {fr : FrW} {hp : HpW} {nw : Nat} {R : Res} {post : W → HpW → Nat → Res → Option EvW → Prop} {x : Operand} {xs : Array Operand} {ats : Array TypeId} {f : FuncId} {us : List W} {root : Int} {ns : List Node} {S : Nat → Prop} {P : List Node → Nat → Prop} (j k : Nat)
    (ho : o.op = .call ⟨.value x, xs, ats⟩) (hx : evW cfg G fr x = some (.fn f [] [])) (he : cfg.ext f = none) (hxs : evLW cfg G fr xs.toList = some (.ptr j 0 :: us)) (hpu : purL us = true) (hjk : j ≠ k) (hj : j < nw) (hkn : k < nw)
    (h0 : hget hp j = some (101, mkW k ns.length root)) (h1 : hget hp k = some (70, nsW ns)) (sp : qVq cfg G f 2 (.ptr 0 0 :: us) [(0, 101, mkW 1 ns.length root), (1, 70, nsW ns)] (MkO root ns S P))
    (hsame : ∀ m, S m → post (.int .i64 ((m : Nat) : Int)) ((j, 101, mkW k ns.length root) :: (k, 70, nsW ns) :: delA [j, k] hp) nw R (some .dirty))
    (hpost : ∀ ns' m, P ns' m → post (.int .i64 ((m : Nat) : Int)) ((j, 101, mkW nw ns'.length root) :: (nw, 70, nsW ns') :: delA [j, k] hp) (nw + 1) R (some .dirty)) : Step cfg G o fr hp nw R post := by
  refine q8q (ext := [j, k]) (ws := .ptr 0 0 :: us) ho hx he hxs ?_ sp ?_ ?_ (by simp) (YDq h0 (by rw [yBq (qTq _)]; exact h1) rfl (zyq (qTq _))) ?_ ?_
  · show .ptr j 0 :: (us ++ []) = W.ptr j 0 :: qaq (numC [j, k] nw) us
    rw [jTq hpu, List.append_nil]
  · simp; omega
  · intro b hb
    simp only [List.mem_cons, List.not_mem_nil, or_false] at hb
    omega
  · have h := zyq (m := 2) (w := .tup us) hpu
    have h : refL 2 us = true := h
    show (refB 2 (.ptr 0 0) && refL 2 us) = true
    rw [h]; rfl
  · rintro w hp1 nw1 (⟨m, h, rfl, rfl, rfl⟩ | ⟨ns', m, h, rfl, rfl, rfl⟩)
    · have e : renH (numC [j, k] nw) [(0, 101, mkW 1 ns.length root), (1, 70, nsW ns)] = [(j, 101, mkW k ns.length root), (k, 70, nsW ns)] := by
        simp only [renH, yBq (qTq _)]; rfl
      have h := hsame m h
      rw [show ([j, k] : List Nat).length = 2 from rfl, e]
      exact h
    · have e : renH (numC [j, k] nw) [(0, 101, mkW 2 ns'.length root), (2, 70, nsW ns')] = [(j, 101, mkW nw ns'.length root), (nw, 70, nsW ns')] := by
        simp only [renH, yBq (qTq _)]; rfl
      have h := hpost ns' m h
      rw [show ([j, k] : List Nat).length = 2 from rfl, e]
      exact h
theorem mkO_of {f : FuncId} {ws : List W} {hp : HpW} {root : Int} {ns : List Node} {P : List Node → Nat → Prop} (h : qVq cfg G f 2 ws hp (Mk root P)) : qVq cfg G f 2 ws hp (MkO root ns (fun _ => False) P) := pspec_mono h fun _ _ _ h => .inr h
noncomputable def nilM (root : Int) : W := .agg 2 [.nils, .int .i64 root]
noncomputable def Mk0 (root : Int) (P : List Node → Nat → Prop) : W → HpW → Nat → Prop := fun w hp nw =>
  ∃ ns m, P ns m ∧ w = .int .i64 ((m : Nat) : Int) ∧ hp = [(0, 101, mkW 1 ns.length root), (1, 70, nsW ns)] ∧ nw = 2
theorem step_mk0 {o : Oper} {fr : FrW} {hp : HpW} {nw : Nat} {R : Res} {post : W → HpW → Nat → Res → Option EvW → Prop} {x : Operand} {xs : Array Operand} {ats : Array TypeId} {f : FuncId} {us : List W} {root : Int} {P : List Node → Nat → Prop} (j : Nat)
    (ho : o.op = .call ⟨.value x, xs, ats⟩) (hx : evW cfg G fr x = some (.fn f [] [])) (he : cfg.ext f = none) (hxs : evLW cfg G fr xs.toList = some (.ptr j 0 :: us)) (hpu : purL us = true) (hj : j < nw)
    (h0 : hget hp j = some (101, nilM root)) (sp : qVq cfg G f 1 (.ptr 0 0 :: us) [(0, 101, nilM root)] (Mk0 root P))
    (hpost : ∀ ns' m, P ns' m → post (.int .i64 ((m : Nat) : Int)) ((j, 101, mkW nw ns'.length root) :: (nw, 70, nsW ns') :: delA [j] hp) (nw + 1) R (some .dirty)) : Step cfg G o fr hp nw R post := by
  refine q8q (ext := [j]) (ws := .ptr 0 0 :: us) ho hx he hxs ?_ sp (by simp) ?_ (by simp) (handed1 h0 rfl) ?_ ?_
  · show .ptr j 0 :: (us ++ []) = W.ptr j 0 :: qaq (numC [j] nw) us
    rw [jTq hpu, List.append_nil]
  · intro b hb
    simp only [List.mem_cons, List.not_mem_nil, or_false] at hb
    omega
  · have h := zyq (m := 1) (w := .tup us) hpu
    have h : refL 1 us = true := h
    show (refB 1 (.ptr 0 0) && refL 1 us) = true
    rw [h]; rfl
  · rintro w hp1 nw1 ⟨ns', m, h, rfl, rfl, rfl⟩
    have e : renH (numC [j] nw) [(0, 101, mkW 1 ns'.length root), (1, 70, nsW ns')] = [(j, 101, mkW nw ns'.length root), (nw, 70, nsW ns')] := by
      simp only [renH, yBq (qTq _)]; rfl
    have h := hpost ns' m h
    rw [show ([j] : List Nat).length = 1 from rfl, e]
    exact h
theorem fin_mk0 {k0 : Nat} {rs : List ResultVar} {x : Exit} {fr : FrW} {hp : HpW} {nw : Nat} {R : Res} {root : Int} {P : List Node → Nat → Prop} {ns : List Node} {m : Nat} (s k : Nat) (hx : x = .normal ∨ x = .ret) (hk : 1 ≤ k) (hkn : k < nw) (hf : getW fr s = some (.int .i64 ((m : Nat) : Int)))
    (h0 : hget hp (tau1 1 k 0) = some (101, renW (tau1 1 k) (mkW 1 ns.length root))) (h1 : hget hp (tau1 1 k 1) = some (70, nsW ns)) (ho : outW cfg [(s, .int .i64 ((m : Nat) : Int))] [(0, 101, mkW 1 ns.length root), (1, 70, nsW ns)] rs = some (.int .i64 ((m : Nat) : Int))) (hP : P ns m) :
    QFin cfg G 1 k0 rs (fun w hp nw R' => R' = R ∧ Mk0 root P w hp nw) x fr hp nw R :=
  fin hx (joq (b := 1) (k := k) (fr2 := [(s, .int .i64 ((m : Nat) : Int))]) (hp2 := [(0, 101, mkW 1 ns.length root), (1, 70, nsW ns)]) (by omega) hk hkn ⟨⟨hf, rfl⟩, trivial⟩ ⟨⟨by omega, h0, rfl⟩, ⟨by omega, by rw [yBq (qTq _)]; exact h1, zyq (qTq _)⟩, trivial⟩ (by simp)) ho ⟨rfl, ns, m, hP, rfl, rfl, rfl⟩
theorem node_0 (root : Int) (x : Node) : qVq cfg G 74 1 [.ptr 0 0, nW x] [(0, 101, nilM root)] (Mk0 root fun ns m => ns = [x] ∧ m = 1) := by
  intro R
  refine yuq (fn := Try.f74) rfl rfl rfl (Nat.le_of_ble_eq_true rfl) (fun k0 => ?_)
  refine zcq (zbq (zdq rfl rfl (zaq rfl rfl (zeq ?_))))
  refine zfq (zcq (z0q (zhq rfl rfl (zhq rfl rfl (zhq rfl rfl (zhq rfl rfl (zhq rfl rfl (zGq rfl rfl ?_))))))))
  refine zGq rfl rfl ?_
  refine zGq rfl rfl ?_
  refine jjq rfl (jCq rfl rfl (Zhq (news := [nW x]) (k := ti70) rfl rfl rfl rfl (jQq rfl rfl rfl rfl) (by simp) (by show 1 * ti70.bytes ≤ _; decide) (by show 1 ≤ _; decide))) (by first | rfl | kernel_rfl) ?_
  refine zhq rfl rfl (zhq rfl rfl (zhq rfl rfl (zGq rfl rfl ?_)))
  refine z9q ?_
  refine zfq (zcq (zbq (zaq rfl rfl (zaq rfl rfl (zaq rfl rfl (zaq rfl rfl (zdq rfl rfl ?_)))))))
  first | refine ZFq rfl rfl ?_ | refine zaq rfl rfl ?_
  refine zaq rfl rfl (zeq ?_)
  refine zfq (zjq ?_)
  exact fin_mk0 (ns := [x]) (m := 1) 4 3 (.inr rfl) (by omega) (by show 3 < 4; omega) rfl rfl rfl rfl ⟨rfl, rfl⟩
theorem with_0 {root : Int} {k : Dig} {v : List UInt8} {d : Int} : qVq cfg G 55 1 [.ptr 0 0, .int .i64 ((0 : Nat) : Int), .int .i64 d, nW ⟨true, k, v, 0, 0⟩] [(0, 101, nilM root)] (Mk0 root fun ns m => ns = [⟨true, k, v, 0, 0⟩] ∧ m = 1) := by
  intro R
  refine yuq (fn := Try.f55) rfl rfl rfl (Nat.le_of_ble_eq_true rfl) (fun k0 => ?_)
  refine zcq (zbq (zdq rfl rfl (zaq rfl rfl (zeq ?_))))
  refine zfq (zcq (zcq (zbq (zaq rfl rfl (zEq rfl rfl ?_)))))
  refine zeq ?_
  refine zfq ?_
  refine zHq rfl (fun h1 => ?_) (fun h1 => ?_)
  · refine zcq (zbq (zaq rfl rfl (zdq rfl rfl ?_)))
    (refine z3q rfl (step_mk0 0 rfl rfl rfl rfl (by simp) (by show 0 < 2; omega) rfl (node_0 root _) ?_); rintro ns1 m ⟨rfl, rfl⟩)
    refine zaq rfl rfl (zeq ?_)
    refine zfq (zjq ?_)
    refine zlq (by intro h; cases h) ?_
    exact fin_mk0 (ns := [⟨true, k, v, 0, 0⟩]) (m := 1) 8 2 (.inr rfl) (by omega) (by show 2 < 3; omega) rfl rfl rfl rfl ⟨rfl, rfl⟩
  · exfalso; omega
end Go.Proofs.Ytgeelfdgnehdnaa
namespace Go.Proofs.Ytgeelfdgnehdnaa
open Go.RowKit
set_option linter.unusedSimpArgs false
set_option linter.unusedVariables false
attribute [local irreducible] CoW OpW FlW Step Spec
variable {G : Nat → Option W}
def PutA (t0 : T) : W → Prop := fun w => ∃ t n, IsT t n t0 ∧ w = .tup [tW t, .int .i64 0]
theorem vkq {hp : HpW} {b : Nat} {ns : List Node} {root : Int} (h : hget hp b = some (70, nsW ns)) : View (blkA hp) (mkW b ns.length root) (tW ⟨ns, root⟩) :=
  .agg (.cons (.sl (c := nsW ns) (by unfold blkA; rw [h]) (qTq ns) (qeq (by decide) (List.length_map _).symm rfl) (by intro h; cases h)) (.cons (.pur rfl) .nil))
theorem ist_put {ns ns' : List Node} {n m : Nat} {t0 : T} {k : Dig} {v : List UInt8} (h : IsT ⟨ns, (n : Int)⟩ n t0) (hl : ns.length ≤ 261844) (hg : Gr ns 257 (t0.put k v 256) ns' m) : IsT ⟨ns', (m : Int)⟩ m (t0.put k v 256) := by
  obtain ⟨⟨ms, rfl, hms⟩, hok, hr⟩ := hg
  exact ⟨by simp only [List.length_append]; omega, hok, rfl, hr, (jEq k v 256 t0 (d := 0) (b := qSq) rfl j2q h.ok (Nat.zero_le _)).1⟩
theorem tput_s (t : Tree) (n : Nat) (t0 : T) (k : Dig) (v : List UInt8) (f : Bool) (h : IsT t n t0) (hv : MayP [(k, v)]) (hl : t.nodes.length ≤ 261844) : PE cfg G 29 [tW t, dW k, .fz (zDq v) 1 f] (PutA (t0.put k v 256)) := by
  have hy := h.may
  have hr := h.root
  obtain ⟨ns, root⟩ := t
  simp only at hr hl
  subst hr
  have hvl : v.length ≤ 70368744177664 := by
    have h2 := (hv.2 0 (by simp) (k, v) rfl).1
    simp only [valB, Bool.and_eq_true, decide_eq_true_eq] at h2
    omega
  have e : (ns.map nW).length = ns.length := List.length_map _
  have hvals : ∀ x ∈ ns, x.val.length ≤ 70368744177664 := fun x hx => by
    obtain ⟨i, hi⟩ := List.getElem?_of_mem hx
    have h1 := h.okn i x hi
    obtain ⟨lf, k', v', l, r⟩ := x
    cases lf with
    | true => have := (vEq h.okn hi).2; simp only; omega
    | false => simp only [oneB, Bool.false_eq_true, if_false] at h1; simp only; rw [h1.2.2.2.1]; simp
  refine pe_inV (fn := Try.f29) rfl rfl rfl (Nat.le_of_ble_eq_true rfl) (fun R k0 => ?_)
  refine zcq (zbq (zdq rfl rfl (zdq rfl rfl (zdq rfl rfl (zaq rfl rfl (zeq ?_))))))
  refine zfq (zcq (z0q (zGq rfl rfl ?_)))
  refine zhq rfl rfl ?_
  refine qKq rfl rfl rfl rfl rfl rfl (v6q _ _ (by first | assumption | (simp; omega))) ?_
  refine zhq rfl rfl (zGq rfl rfl ?_)
  refine zGq rfl rfl ?_
  refine z9q ?_
  refine zfq (zcq (zmq (zcq (zbq (zdq rfl rfl ?_)))))
  first | refine zsq rfl rfl rfl rfl rfl rfl (yXq (w' := .int .i64 0) (qoq ⟨ns, (n : Int)⟩ (by show ns.length ≤ _; omega)) (by rw [if_pos hy])) ?_ | refine zsq rfl rfl rfl rfl rfl rfl (qoq _ (by omega)) ?_
  refine yYq rfl rfl (fun h1 => ?_) (fun h1 => ?_)
  · exfalso; exact h1 rfl
  · refine zaq rfl rfl (zdq rfl rfl ?_)
    first | refine zsq rfl rfl rfl rfl rfl rfl (yXq (w' := .bool true) (one_s ⟨true, k, v, 0, 0⟩ 0 (by omega)) (by rw [decide_eq_true (leaf_one hv 0)])) ?_ | refine zsq rfl rfl rfl rfl rfl rfl (one_s _ _ (by omega)) ?_
    refine zaq rfl rfl (zaq rfl rfl (zaq rfl rfl (zeq ?_)))
    refine zfq (zCq rfl (zcq (zbq (zaq rfl rfl (zdq rfl rfl (zXq (w' := .int .i64 (ns.length : Int)) rfl rfl (by rw [← e]; rfl) ?_))))))
    refine zEq rfl rfl ?_
    refine zaq rfl rfl (zeq ?_)
    refine zfq ?_
    refine zHq rfl (fun h2 => ?_) (fun h2 => ?_)
    · exfalso; omega
    · refine ziq (ztq (by intro i h; cases h) ?_)
      refine zfq (zcq (zbq (zdq rfl rfl ?_)))
      skip
      skip
      refine z3q rfl (u1q rfl rfl rfl rfl rfl (by simp [xnq]) (twin_s ns (n : Int) (by omega) hvals) ?_)
      rintro w hp1 nw1 (⟨hn, rfl, rfl, rfl⟩ | ⟨rfl, rfl, rfl⟩)
      · subst hn
        obtain rfl : n = 0 := by have := h.rep.le; simpa using this
        skip
        refine zaq rfl rfl (zdq rfl rfl (zaq rfl rfl (zeq ?_)))
        refine zfq (zcq (z0q (zhq rfl rfl (zhq rfl rfl (zhq rfl rfl (zhq rfl rfl (zhq rfl rfl (zhq rfl rfl (zGq rfl rfl ?_)))))))))
        refine zGq rfl rfl ?_
        (refine yMq rfl (step_mk0 6 rfl rfl rfl rfl (by simp [renW]) (by show 6 < 7; omega) rfl (with_0 (k := k) (v := v)) ?_); rintro ns1 m ⟨rfl, rfl⟩; refine ⟨by first | rfl | kernel_rfl, ?_⟩)
        refine zhq rfl rfl (zhq rfl rfl (zhq rfl rfl (zGq rfl rfl ?_)))
        refine z9q ?_
        refine zfq (zcq (zbq (zaq rfl rfl (zaq rfl rfl (zaq rfl rfl (zdq rfl rfl (zdq rfl rfl (zaq rfl rfl (zeq ?_)))))))))
        refine zfq (zjq ?_)
        obtain rfl := h.rep.zero
        refine uUq (w' := .tup [tW ⟨[⟨true, k, v, 0, 0⟩], ((1 : Nat) : Int)⟩, .int .i64 0]) (.inr rfl) rfl (.tup (.cons (vkq (b := 7) (ns := [⟨true, k, v, 0, 0⟩]) (root := ((1 : Nat) : Int)) rfl) (.cons (.pur rfl) .nil))) (by simp) ⟨_, 1, ?_, rfl⟩
        refine ist_put (n := 0) h (by simp) ?_
        rw [show T.put k v 256 .nil = .leaf k v from by simp [T.put]]
        exact YEq (ns := []) h.okn hv (by omega)
      · skip
        refine zaq rfl rfl (zdq rfl rfl (zaq rfl rfl (zeq ?_)))
        refine zfq (zcq (z0q (zhq rfl rfl (zhq rfl rfl (zhq rfl rfl (zhq rfl rfl (zhq rfl rfl (zhq rfl rfl (zGq rfl rfl ?_)))))))))
        refine zGq rfl rfl ?_
        (refine yMq rfl (step_mkJ 7 6 rfl rfl rfl rfl (by simp [renW]) (by omega) (by show 7 < 8; omega) (by show 6 < 8; omega) rfl (by show some (70, renW _ (nsW ns)) = _; rw [yBq (qTq ns)]) (mkO_of (with_s (n : Int) k v hv 256 t0 ns n 0 qSq h.rep h.okn h.ok rfl j2q (Nat.zero_le _) (by omega))) ?_ ?_); exact fun m hm => hm.elim; rintro ns1 m hg; refine ⟨by first | rfl | kernel_rfl, ?_⟩)
        refine zhq rfl rfl (zhq rfl rfl (zhq rfl rfl (zGq rfl rfl ?_)))
        refine z9q ?_
        refine zfq (zcq (zbq (zaq rfl rfl (zaq rfl rfl (zaq rfl rfl (zdq rfl rfl (zdq rfl rfl (zaq rfl rfl (zeq ?_)))))))))
        refine zfq (zjq ?_)
        exact uUq (w' := .tup [tW ⟨ns1, (m : Int)⟩, .int .i64 0]) (.inr rfl) rfl (.tup (.cons (vkq (b := 8) (ns := ns1) (root := (m : Int)) rfl) (.cons (.pur rfl) .nil))) (by simp) ⟨_, m, ist_put h hl hg, rfl⟩
end Go.Proofs.Ytgeelfdgnehdnaa

/-
  SHA-256, reckoned fast: the same digests. Nothing here speaks of a program.
-/
import Derived.Test.YtmlemnbhjbaedaaGreatDoorShaY
namespace Go.Proofs.YtmlemnbhjbaedaaGreatDoor
open Go.RowKit
set_option linter.unusedSimpArgs false
set_option linter.unusedVariables false
theorem p32 : (4294967296 : Nat) = 2 ^ 32 := by decide
theorem rot_eq {x n : Nat} (hx : x < 4294967296) (hn : n ≤ 32) : rotN x n = Nat.mod (Nat.shiftRight (Nat.mul x 4294967297) n) 4294967296 := by
  show ((x <<< (32 - n)) % 4294967296 % 4294967296) ||| ((x >>> n) % 4294967296) = ((x * 4294967297) >>> n) % 4294967296
  have e : x * 4294967297 = x <<< 32 ||| x := by
    rw [← Nat.shiftLeft_add_eq_or_of_lt (by rw [← p32]; exact hx), Nat.shiftLeft_eq]; omega
  rw [e, Nat.mod_mod, p32]
  rw [p32] at hx
  apply Nat.eq_of_testBit_eq
  intro i
  simp only [Nat.testBit_or, Nat.testBit_mod_two_pow, Nat.testBit_shiftLeft, Nat.testBit_shiftRight]
  by_cases h1 : i < 32
  · by_cases h2 : 32 - n ≤ i
    · have h3 : 32 ≤ n + i := by omega
      have h4 : i - (32 - n) = n + i - 32 := by omega
      simp [h1, h2, h3, h4]
    · have h3 : ¬ 32 ≤ n + i := by omega
      simp [h1, h2, h3]
  · simp [h1]
theorem xor_eq (a b : Nat) : xorN a b = Nat.mod (Nat.xor a b) 4294967296 := by
  show (a % 4294967296) ^^^ (b % 4294967296) = (a ^^^ b) % 4294967296
  rw [p32, Nat.xor_mod_two_pow]
theorem xor_eq' {a b : Nat} (ha : a < 4294967296) (hb : b < 4294967296) : xorN a b = Nat.xor a b := by
  show (a % 4294967296) ^^^ (b % 4294967296) = a ^^^ b
  rw [Nat.mod_eq_of_lt ha, Nat.mod_eq_of_lt hb]
theorem and_eq {a b : Nat} (ha : a < 4294967296) (hb : b < 4294967296) : andN a b = Nat.land a b := by
  show (a % 4294967296) &&& (b % 4294967296) = a &&& b
  rw [Nat.mod_eq_of_lt ha, Nat.mod_eq_of_lt hb]
theorem and_lt {a b : Nat} (hb : b < 4294967296) : Nat.land a b < 4294967296 := Nat.lt_of_le_of_lt (Nat.and_le_right (n := a) (m := b)) hb
theorem xor_lt {a b : Nat} (ha : a < 4294967296) (hb : b < 4294967296) : Nat.xor a b < 4294967296 := by
  rw [p32] at *; exact Nat.xor_lt_two_pow ha hb
theorem not_lt (e : Nat) : notN e < 4294967296 := by
  unfold notN
  exact xor_lt (by omega) (Nat.mod_lt _ (by decide))
noncomputable def sgF (y i j k : Nat) : Nat := Nat.mod (Nat.xor (Nat.xor (Nat.shiftRight y i) (Nat.shiftRight y j)) (Nat.shiftRight y k)) 4294967296
theorem sg_eq {x i j k : Nat} (hx : x < 4294967296) (hi : i ≤ 32) (hj : j ≤ 32) (hk : k ≤ 32) : xorN (xorN (rotN x i) (rotN x j)) (rotN x k) = sgF (Nat.mul x 4294967297) i j k := by
  rw [rot_eq hx hi, rot_eq hx hj, rot_eq hx hk]
  unfold sgF
  generalize Nat.shiftRight (Nat.mul x 4294967297) i = A
  generalize Nat.shiftRight (Nat.mul x 4294967297) j = B
  generalize Nat.shiftRight (Nat.mul x 4294967297) k = D
  show ((A % 4294967296 % 4294967296 ^^^ B % 4294967296 % 4294967296) % 4294967296) ^^^ (D % 4294967296 % 4294967296) = (A ^^^ B ^^^ D) % 4294967296
  simp only [Nat.mod_mod, p32, ← Nat.xor_mod_two_pow]
noncomputable def ch3 (e f g : Nat) : Nat := Nat.xor g (Nat.land e (Nat.xor f g))
theorem ch_eq {e f g : Nat} (he : e < 4294967296) (hf : f < 4294967296) (hg : g < 4294967296) : xorN (andN e f) (andN (notN e) g) = ch3 e f g := by
  rw [and_eq he hf, and_eq (not_lt e) hg, xor_eq' (and_lt hf) (and_lt hg)]
  have e1 : notN e = 2 ^ 32 - 1 ^^^ e := by
    show (4294967295 % 4294967296) ^^^ (e % 4294967296) = _
    rw [Nat.mod_eq_of_lt he]
  show (e &&& f) ^^^ (notN e &&& g) = g ^^^ (e &&& (f ^^^ g))
  rw [e1]
  rw [p32] at he hf hg
  apply Nat.eq_of_testBit_eq
  intro i
  simp only [Nat.testBit_xor, Nat.testBit_and, Nat.testBit_two_pow_sub_one]
  by_cases h : i < 32
  · simp only [h, decide_true]
    cases e.testBit i <;> cases f.testBit i <;> cases g.testBit i <;> rfl
  · have hp : 2 ^ 32 ≤ 2 ^ i := Nat.pow_le_pow_right (by decide) (by omega)
    rw [Nat.testBit_lt_two_pow (Nat.lt_of_lt_of_le he hp), Nat.testBit_lt_two_pow (Nat.lt_of_lt_of_le hf hp), Nat.testBit_lt_two_pow (Nat.lt_of_lt_of_le hg hp)]
    simp
noncomputable def ma3 (a b c : Nat) : Nat := Nat.xor (Nat.land a (Nat.xor b c)) (Nat.land b c)
theorem ma_eq {a b c : Nat} (ha : a < 4294967296) (hb : b < 4294967296) (hc : c < 4294967296) : xorN (xorN (andN a b) (andN a c)) (andN b c) = ma3 a b c := by
  rw [and_eq ha hb, and_eq ha hc, and_eq hb hc, xor_eq' (and_lt hb) (and_lt hc), xor_eq' (xor_lt (and_lt hb) (and_lt hc)) (and_lt hc)]
  show ((a &&& b) ^^^ (a &&& c)) ^^^ (b &&& c) = (a &&& (b ^^^ c)) ^^^ (b &&& c)
  apply Nat.eq_of_testBit_eq
  intro i
  simp only [Nat.testBit_xor, Nat.testBit_and]
  cases a.testBit i <;> cases b.testBit i <;> cases c.testBit i <;> rfl
noncomputable def s3F (y x i j k : Nat) : Nat := Nat.xor (Nat.mod (Nat.xor (Nat.shiftRight y i) (Nat.shiftRight y j)) 4294967296) (Nat.shiftRight x k)
theorem s3_eq {x i j k : Nat} (hx : x < 4294967296) (hi : i ≤ 32) (hj : j ≤ 32) (hk : k ≤ 32) : xorN (xorN (rotN x i) (rotN x j)) (shrN x k) = s3F (Nat.mul x 4294967297) x i j k := by
  rw [rot_eq hx hi, rot_eq hx hj, xor_eq (Nat.mod _ _)]
  have h1 : shrN x k = Nat.shiftRight x k := by
    show x >>> (min k 32) = x >>> k
    rw [Nat.min_eq_left hk]
  have h2 : Nat.shiftRight x k < 4294967296 := Nat.lt_of_le_of_lt (by show x >>> k ≤ x; rw [Nat.shiftRight_eq_div_pow]; exact Nat.div_le_self _ _) hx
  have e1 : ∀ A B : Nat, Nat.mod (Nat.xor (Nat.mod A 4294967296) (Nat.mod B 4294967296)) 4294967296 = Nat.mod (Nat.xor A B) 4294967296 := fun A B => by
    show ((A % 4294967296) ^^^ (B % 4294967296)) % 4294967296 = (A ^^^ B) % 4294967296
    rw [p32, ← Nat.xor_mod_two_pow, Nat.mod_mod]
  rw [e1, h1]
  exact xor_eq' (Nat.mod_lt _ (by decide)) h2

/-! ### rounds -/
/-- a number, reckoned now -/
noncomputable def fz {α : Type} (n : Nat) (c : Nat → α) : α := Nat.rec (c 0) (fun m _ => c (Nat.succ m)) n
theorem fz_eq {α : Type} (n : Nat) (c : Nat → α) : fz n c = c n := by cases n <;> rfl
noncomputable def oneF (h e f g k w : Nat) : Nat := Nat.add (Nat.add (Nat.add (Nat.add h (sgF (Nat.mul e 4294967297) 6 11 25)) (ch3 e f g)) k) w
noncomputable def naF (one a b c : Nat) : Nat := Nat.mod (Nat.add (Nat.add one (sgF (Nat.mul a 4294967297) 2 13 22)) (ma3 a b c)) 4294967296
noncomputable def neF (d one : Nat) : Nat := Nat.mod (Nat.add d one) 4294967296
noncomputable def nwF (w0 w1 w9 w14 : Nat) : Nat := Nat.mod (Nat.add (Nat.add (Nat.add w0 (s3F (Nat.mul w1 4294967297) w1 7 18 3)) w9) (s3F (Nat.mul w14 4294967297) w14 17 19 10)) 4294967296
/-- below 2^32, all eight -/
structure S8.Ok (s : S8) : Prop where
  a : s.a < 4294967296
  b : s.b < 4294967296
  c : s.c < 4294967296
  d : s.d < 4294967296
  e : s.e < 4294967296
  f : s.f < 4294967296
  g : s.g < 4294967296
  h : s.h < 4294967296
theorem add_lt (a b : Nat) : addN a b < 4294967296 := Nat.mod_lt _ (by decide)
theorem round_ok {s : S8} (h : s.Ok) (k w : Nat) : (roundN k w s).Ok := ⟨add_lt _ _, h.a, h.b, h.c, add_lt _ _, h.e, h.f, h.g⟩
theorem round_eq {s : S8} (h : s.Ok) (k w : Nat) : roundN k w s = ⟨naF (oneF s.h s.e s.f s.g k w) s.a s.b s.c, s.a, s.b, s.c, neF s.d (oneF s.h s.e s.f s.g k w), s.e, s.f, s.g⟩ := by
  have e1 : addN (addN (addN (addN s.h (xorN (xorN (rotN s.e 6) (rotN s.e 11)) (rotN s.e 25))) (xorN (andN s.e s.f) (andN (notN s.e) s.g))) k) w = oneF s.h s.e s.f s.g k w % 4294967296 := by
    rw [sg_eq h.e (by decide) (by decide) (by decide), ch_eq h.e h.f h.g]
    unfold oneF
    generalize sgF _ _ _ _ = A
    generalize ch3 _ _ _ = B
    show ((((s.h + A) % 4294967296 + B) % 4294967296 + k) % 4294967296 + w) % 4294967296 = (s.h + A + B + k + w) % 4294967296
    omega
  unfold roundN
  simp only [e1]
  rw [sg_eq h.a (by decide) (by decide) (by decide), ma_eq h.a h.b h.c]
  generalize oneF _ _ _ _ _ _ = O
  unfold naF neF
  generalize sgF _ _ _ _ = A
  generalize ma3 _ _ _ = B
  have q1 : addN (O % 4294967296) (addN A B) = Nat.mod (Nat.add (Nat.add O A) B) 4294967296 := by
    show (O % 4294967296 + (A + B) % 4294967296) % 4294967296 = (O + A + B) % 4294967296
    omega
  have q2 : addN s.d (O % 4294967296) = Nat.mod (Nat.add s.d O) 4294967296 := by
    show (s.d + O % 4294967296) % 4294967296 = (s.d + O) % 4294967296
    omega
  rw [q1, q2]
/-- all rounds, with the sixteen words that come next -/
noncomputable def goF (ks : List Nat) : Nat → Nat → Nat → Nat → Nat → Nat → Nat → Nat → Nat → Nat → Nat → Nat → Nat → Nat → Nat → Nat → Nat → Nat → Nat → Nat → Nat → Nat → Nat → Nat → S8 :=
  List.rec (fun a b c d e f g h _ _ _ _ _ _ _ _ _ _ _ _ _ _ _ _ => ⟨a, b, c, d, e, f, g, h⟩)
    (fun k _ ih a b c d e f g h w0 w1 w2 w3 w4 w5 w6 w7 w8 w9 w10 w11 w12 w13 w14 w15 =>
      fz (oneF h e f g k w0) fun one => fz (naF one a b c) fun na => fz (neF d one) fun ne => fz (nwF w0 w1 w9 w14) fun nw =>
        ih na a b c ne e f g w1 w2 w3 w4 w5 w6 w7 w8 w9 w10 w11 w12 w13 w14 w15 nw) ks
theorem goF_cons (k : Nat) (ks : List Nat) (a b c d e f g h w0 w1 w2 w3 w4 w5 w6 w7 w8 w9 w10 w11 w12 w13 w14 w15 : Nat) :
    goF (k :: ks) a b c d e f g h w0 w1 w2 w3 w4 w5 w6 w7 w8 w9 w10 w11 w12 w13 w14 w15 =
      goF ks (naF (oneF h e f g k w0) a b c) a b c (neF d (oneF h e f g k w0)) e f g w1 w2 w3 w4 w5 w6 w7 w8 w9 w10 w11 w12 w13 w14 w15 (nwF w0 w1 w9 w14) := by
  unfold goF
  simp only [fz_eq]
/-- word i of the schedule -/
noncomputable def wS (bs : Nat → Nat) (i : Nat) : Nat := (sched bs (i + 1)).getD i 0
theorem wS_next (bs : Nat → Nat) (i : Nat) : wS bs i = nextW bs (sched bs i) := by
  unfold wS
  rw [sched, List.getD_eq_getElem?_getD, List.getElem?_append_right (by rw [sched_len]; exact Nat.le_refl _), sched_len, Nat.sub_self]
  rfl
theorem sched_at (bs : Nat → Nat) : ∀ (t i : Nat), i < t → (sched bs t).getD i 0 = wS bs i
  | 0, _, h => by omega
  | t + 1, i, h => by
    rw [sched, List.getD_eq_getElem?_getD]
    by_cases e : i < t
    · rw [List.getElem?_append_left (by rw [sched_len]; exact e), ← List.getD_eq_getElem?_getD]
      exact sched_at bs t i e
    · obtain rfl : i = t := by omega
      rw [List.getElem?_append_right (by rw [sched_len]; exact Nat.le_refl _), sched_len, Nat.sub_self, wS_next]
      rfl
theorem wS_lt (bs : Nat → Nat) (i : Nat) (hb : ∀ i, bs i < 256) : wS bs i < 4294967296 := by
  rw [wS_next]
  unfold nextW
  split
  · unfold wordN orN
    have m : ∀ a, a % 4294967296 < 4294967296 := fun a => Nat.mod_lt _ (by decide)
    rw [p32] at *
    exact Nat.or_lt_two_pow (m _) (m _)
  · exact add_lt _ _
theorem nw_sum (X A Y B : Nat) : addN (addN (addN X A) Y) B = Nat.mod (Nat.add (Nat.add (Nat.add X A) Y) B) 4294967296 := by
  show (((X + A) % 4294967296 + Y) % 4294967296 + B) % 4294967296 = (X + A + Y + B) % 4294967296
  omega
attribute [local irreducible] wS in
theorem wS_late (bs : Nat → Nat) (hb : ∀ i, bs i < 256) (t : Nat) : wS bs (t + 16) = nwF (wS bs t) (wS bs (t + 1)) (wS bs (t + 9)) (wS bs (t + 14)) := by
  rw [wS_next]
  unfold nextW
  have h1 : Nat.blt (sched bs (t + 16)).length 16 = false := by
    rw [sched_len]
    cases hq : Nat.blt (t + 16) 16 with
    | true => have : t + 16 < 16 := by simpa [Nat.blt_eq] using hq
              omega
    | false => rfl
  rw [h1]
  simp only [sched_len]
  rw [show t + 16 - 16 = t by omega, show t + 16 - 15 = t + 1 by omega, show t + 16 - 7 = t + 9 by omega, show t + 16 - 2 = t + 14 by omega]
  rw [sched_at bs _ t (by omega), sched_at bs _ (t + 1) (by omega), sched_at bs _ (t + 9) (by omega), sched_at bs _ (t + 14) (by omega)]
  rw [s3_eq (wS_lt bs _ hb) (by decide) (by decide) (by decide), s3_eq (wS_lt bs _ hb) (by decide) (by decide) (by decide)]
  exact nw_sum _ _ _ _
theorem rounds_ok {s : S8} (h : s.Ok) (ws : List Nat) : ∀ t, (rounds ws s t).Ok
  | 0 => h
  | t + 1 => round_ok (rounds_ok h ws t) _ _
theorem go_eq (bs : Nat → Nat) (hb : ∀ i, bs i < 256) {s : S8} (h : s.Ok) : ∀ (n t : Nat), t + n = 64 → ∀ v, rounds (sched bs 64) s t = v →
    goF (kW.drop t) v.a v.b v.c v.d v.e v.f v.g v.h (wS bs t) (wS bs (t + 1)) (wS bs (t + 2)) (wS bs (t + 3)) (wS bs (t + 4)) (wS bs (t + 5)) (wS bs (t + 6)) (wS bs (t + 7)) (wS bs (t + 8)) (wS bs (t + 9)) (wS bs (t + 10)) (wS bs (t + 11)) (wS bs (t + 12)) (wS bs (t + 13)) (wS bs (t + 14)) (wS bs (t + 15)) = rounds (sched bs 64) s 64
  | 0, t, ht, v, hv => by
    obtain rfl : t = 64 := by omega
    rw [hv, show kW.drop 64 = [] from rfl]
    cases v
    rfl
  | n + 1, t, ht, v, hv => by
    have hlt : t < kW.length := by show t < 64; omega
    have ok : v.Ok := hv ▸ rounds_ok h _ t
    rw [List.drop_eq_getElem_cons hlt, goF_cons]
    have hn : rounds (sched bs 64) s (t + 1) = ⟨naF (oneF v.h v.e v.f v.g kW[t] (wS bs t)) v.a v.b v.c, v.a, v.b, v.c, neF v.d (oneF v.h v.e v.f v.g kW[t] (wS bs t)), v.e, v.f, v.g⟩ := by
      rw [rounds, hv, sched_at bs 64 t (by omega), round_eq ok, List.getD_eq_getElem?_getD, List.getElem?_eq_getElem hlt]
      rfl
    have := go_eq bs hb h n (t + 1) (by omega) _ hn
    rw [← this, wS_late bs hb]
/-! ### a block -/
noncomputable def hdF (l : List Nat) : Nat := List.rec 0 (fun b _ _ => b) l
noncomputable def tlF (l : List Nat) : List Nat := List.rec [] (fun _ l _ => l) l
noncomputable def w4F {α : Type} (l : List Nat) (c : Nat → List Nat → α) : α :=
  fz (Nat.lor (Nat.lor (Nat.lor (Nat.shiftLeft (hdF l) 24) (Nat.shiftLeft (hdF (tlF l)) 16)) (Nat.shiftLeft (hdF (tlF (tlF l))) 8)) (hdF (tlF (tlF (tlF l))))) fun w => c w (tlF (tlF (tlF (tlF l))))
noncomputable def opS {α : Type} (s : S8) (k : Nat → Nat → Nat → Nat → Nat → Nat → Nat → Nat → α) : α := S8.rec k s
theorem opS_eq {α : Type} (s : S8) (k : Nat → Nat → Nat → Nat → Nat → Nat → Nat → Nat → α) : opS s k = k s.a s.b s.c s.d s.e s.f s.g s.h := rfl
noncomputable def blockF {α : Type} (s : S8) (l : List Nat) (k : S8 → List Nat → α) : α :=
  w4F l fun w0 l => w4F l fun w1 l => w4F l fun w2 l => w4F l fun w3 l => w4F l fun w4 l => w4F l fun w5 l => w4F l fun w6 l => w4F l fun w7 l =>
  w4F l fun w8 l => w4F l fun w9 l => w4F l fun w10 l => w4F l fun w11 l => w4F l fun w12 l => w4F l fun w13 l => w4F l fun w14 l => w4F l fun w15 l =>
  opS s fun a b c d e f g h => opS (goF kW a b c d e f g h w0 w1 w2 w3 w4 w5 w6 w7 w8 w9 w10 w11 w12 w13 w14 w15) fun a' b' c' d' e' f' g' h' =>
    k ⟨Nat.mod (Nat.add a a') 4294967296, Nat.mod (Nat.add b b') 4294967296, Nat.mod (Nat.add c c') 4294967296, Nat.mod (Nat.add d d') 4294967296, Nat.mod (Nat.add e e') 4294967296, Nat.mod (Nat.add f f') 4294967296, Nat.mod (Nat.add g g') 4294967296, Nat.mod (Nat.add h h') 4294967296⟩ l
theorem hd_at : ∀ (l : List Nat), hdF l = atL l 0
  | [] => rfl
  | _ :: _ => rfl
theorem tl_drop : ∀ (l : List Nat), tlF l = l.drop 1
  | [] => rfl
  | _ :: _ => rfl
theorem at_drop (l : List Nat) (i j : Nat) : atL (l.drop i) j = atL l (i + j) := by
  simp [atL, List.getD_eq_getElem?_getD, List.getElem?_drop]
theorem word_eq {b0 b1 b2 b3 : Nat} (h0 : b0 < 256) (h1 : b1 < 256) (h2 : b2 < 256) (h3 : b3 < 256) : wordN b0 b1 b2 b3 = Nat.lor (Nat.lor (Nat.lor (Nat.shiftLeft b0 24) (Nat.shiftLeft b1 16)) (Nat.shiftLeft b2 8)) b3 := by
  have s : ∀ b n, b < 256 → n ≤ 24 → Nat.shiftLeft b n < 4294967296 := fun b n hb hn => by
    show b <<< n < 4294967296
    rw [Nat.shiftLeft_eq]
    have : 2 ^ n ≤ 2 ^ 24 := Nat.pow_le_pow_right (by decide) hn
    have := Nat.mul_le_mul (show b ≤ 255 by omega) this
    omega
  have e : ∀ b n, b < 256 → n ≤ 24 → shlN (b % 4294967296) n = Nat.shiftLeft b n := fun b n hb hn => by
    unfold shlN
    rw [Nat.min_eq_left (by omega), Nat.mod_eq_of_lt (show b < 4294967296 by omega), Nat.mod_eq_of_lt (s b n hb hn)]
  have o : ∀ a b, a < 4294967296 → b < 4294967296 → orN a b = Nat.lor a b := fun a b ha hb => by
    unfold orN
    rw [Nat.mod_eq_of_lt ha, Nat.mod_eq_of_lt hb]
  have ol : ∀ a b, a < 4294967296 → b < 4294967296 → Nat.lor a b < 4294967296 := fun a b ha hb => by
    rw [p32] at *
    exact Nat.or_lt_two_pow ha hb
  unfold wordN
  rw [e b0 24 h0 (by decide), e b1 16 h1 (by decide), e b2 8 h2 (by decide), Nat.mod_eq_of_lt (show b3 < 4294967296 by omega)]
  rw [o _ _ (s b0 24 h0 (by decide)) (s b1 16 h1 (by decide)), o _ _ (ol _ _ (s b0 24 h0 (by decide)) (s b1 16 h1 (by decide))) (s b2 8 h2 (by decide)), o _ _ (ol _ _ (ol _ _ (s b0 24 h0 (by decide)) (s b1 16 h1 (by decide))) (s b2 8 h2 (by decide))) (by omega)]
theorem wS_early (bs : Nat → Nat) (hb : ∀ i, bs i < 256) (t : Nat) (ht : t < 16) : wS bs t = Nat.lor (Nat.lor (Nat.lor (Nat.shiftLeft (bs (4 * t)) 24) (Nat.shiftLeft (bs (4 * t + 1)) 16)) (Nat.shiftLeft (bs (4 * t + 2)) 8)) (bs (4 * t + 3)) := by
  rw [wS_next]
  unfold nextW
  have h1 : Nat.blt (sched bs t).length 16 = true := by rw [sched_len]; simpa [Nat.blt_eq] using ht
  rw [h1]
  simp only [sched_len]
  exact word_eq (hb _) (hb _) (hb _) (hb _)
noncomputable def small (l : List Nat) : Prop := ∀ b ∈ l, b < 256
theorem small_at {l : List Nat} (h : small l) (i : Nat) : atL l i < 256 := by
  unfold atL
  rw [List.getD_eq_getElem?_getD]
  cases hq : l[i]? with
  | none => show (0 : Nat) < 256; decide
  | some b => exact h b (List.mem_of_getElem? hq)
theorem w4_eq {α : Type} {l : List Nat} (h : small l) (t : Nat) (ht : t < 16) (c : Nat → List Nat → α) : w4F (l.drop (4 * t)) c = c (wS (atL l) t) (l.drop (4 * (t + 1))) := by
  unfold w4F
  rw [fz_eq]
  simp only [hd_at, tl_drop, at_drop, List.drop_drop]
  rw [wS_early (atL l) (small_at h) t ht]
  rfl
theorem block_eq {α : Type} {s : S8} (hs : s.Ok) {l : List Nat} (h : small l) (k : S8 → List Nat → α) : blockF s l k = k (blockN (atL l) s) (l.drop 64) := by
  have key : goF kW s.a s.b s.c s.d s.e s.f s.g s.h (wS (atL l) 0) (wS (atL l) 1) (wS (atL l) 2) (wS (atL l) 3) (wS (atL l) 4) (wS (atL l) 5) (wS (atL l) 6) (wS (atL l) 7) (wS (atL l) 8) (wS (atL l) 9) (wS (atL l) 10) (wS (atL l) 11) (wS (atL l) 12) (wS (atL l) 13) (wS (atL l) 14) (wS (atL l) 15) = rounds (sched (atL l) 64) s 64 := go_eq (atL l) (small_at h) hs 64 0 rfl s (by rw [rounds])
  have e0 : blockF s l k = blockF s (l.drop (4 * 0)) k := rfl
  rw [e0]
  unfold blockF
  rw [w4_eq h 0 (by decide), w4_eq h 1 (by decide), w4_eq h 2 (by decide), w4_eq h 3 (by decide), w4_eq h 4 (by decide), w4_eq h 5 (by decide), w4_eq h 6 (by decide), w4_eq h 7 (by decide), w4_eq h 8 (by decide), w4_eq h 9 (by decide), w4_eq h 10 (by decide), w4_eq h 11 (by decide), w4_eq h 12 (by decide), w4_eq h 13 (by decide), w4_eq h 14 (by decide), w4_eq h 15 (by decide)]
  rw [opS_eq, key, opS_eq]
  unfold blockN
  generalize rounds (sched (atL l) 64) s 64 = X
  rfl
theorem block_ok (s : S8) (bs : Nat → Nat) : (blockN bs s).Ok := ⟨add_lt _ _, add_lt _ _, add_lt _ _, add_lt _ _, add_lt _ _, add_lt _ _, add_lt _ _, add_lt _ _⟩
/-! ### all of it -/
noncomputable def lenF (l : List Nat) : Nat := List.rec 0 (fun _ _ n => Nat.succ n) l
theorem lenF_eq : ∀ l : List Nat, lenF l = l.length
  | [] => rfl
  | _ :: l => congrArg Nat.succ (lenF_eq l)
theorem small_drop {l : List Nat} (h : small l) (n : Nat) : small (l.drop n) := fun b hb => h b (List.mem_of_mem_drop hb)
theorem small_app {a b : List Nat} (ha : small a) (hb : small b) : small (a ++ b) := fun x hx => by
  rcases List.mem_append.1 hx with h | h
  · exact ha x h
  · exact hb x h
noncomputable def eatF (n : Nat) : S8 → List Nat → S8 × List Nat := Nat.rec (fun s r => (s, r)) (fun _ ih s r => match Nat.ble 64 (lenF r) with
  | true => blockF s r ih
  | false => (s, r)) n
theorem eatF_eq : ∀ (n : Nat) {s : S8} {r : List Nat}, s.Ok → small r → eatF n s r = eat n s r ∧ (eat n s r).1.Ok ∧ small (eat n s r).2
  | 0, s, r, hs, hr => ⟨rfl, hs, hr⟩
  | n + 1, s, r, hs, hr => by
    have e : eatF (n + 1) s r = match Nat.ble 64 (lenF r) with
      | true => blockF s r (eatF n)
      | false => (s, r) := rfl
    rw [e, lenF_eq]
    unfold eat
    cases Nat.ble 64 r.length with
    | true =>
      show blockF s r (eatF n) = eat n (blockN (atL r) s) (r.drop 64) ∧ _
      rw [block_eq hs hr]
      exact eatF_eq n (block_ok _ _) (small_drop hr 64)
    | false => exact ⟨rfl, hs, hr⟩
noncomputable def absF (a : S8 × List Nat) (p : List Nat) : S8 × List Nat := eatF (lenF (a.2 ++ p)) a.1 (a.2 ++ p)
theorem absF_eq {a : S8 × List Nat} {p : List Nat} (ha : a.1.Ok) (h2 : small a.2) (hp : small p) : absF a p = absorb a p ∧ (absorb a p).1.Ok ∧ small (absorb a p).2 := by
  unfold absF absorb eats
  rw [lenF_eq]
  exact eatF_eq _ ha (small_app h2 hp)
noncomputable def allF (n : Nat) : S8 → List Nat → S8 := Nat.rec (fun s _ => s) (fun _ ih s r => match Nat.ble 1 (lenF r) with
  | true => blockF s r ih
  | false => s) n
theorem allF_eq : ∀ (n : Nat) {s : S8} {r : List Nat}, s.Ok → small r → allF n s r = eatAll n s r
  | 0, s, r, _, _ => rfl
  | n + 1, s, r, hs, hr => by
    have e : allF (n + 1) s r = match Nat.ble 1 (lenF r) with
      | true => blockF s r (allF n)
      | false => s := rfl
    rw [e, lenF_eq]
    unfold eatAll
    cases Nat.ble 1 r.length with
    | true =>
      show blockF s r (allF n) = eatAll n (blockN (atL r) s) (r.drop 64)
      rw [block_eq hs hr]
      exact allF_eq n (block_ok _ _) (small_drop hr 64)
    | false => rfl
noncomputable def padF (r : List Nat) : List Nat := r ++ List.replicate (Nat.mod (Nat.sub 120 (Nat.mod (lenF r) 64)) 64) 0
theorem pad_eq : ∀ (n : Nat) (r : List Nat), (120 - r.length % 64) % 64 ≤ n → padZ n r = r ++ List.replicate ((120 - r.length % 64) % 64) 0
  | 0, r, h => by
    rw [Nat.le_zero.1 h]; simp [padZ]
  | n + 1, r, h => by
    unfold padZ
    cases hb : Nat.beq (r.length % 64) 56 with
    | true =>
      have := Nat.eq_of_beq_eq_true hb
      rw [this]; simp
    | false =>
      have hne : r.length % 64 ≠ 56 := fun e => by rw [e] at hb; cases hb
      show padZ n (r ++ [0]) = _
      have hl : (r ++ [0]).length = r.length + 1 := by simp
      rw [pad_eq n (r ++ [0]) (by rw [hl]; omega), hl, List.append_assoc]
      have : (120 - r.length % 64) % 64 = (120 - (r.length + 1) % 64) % 64 + 1 := by omega
      rw [this]
      rfl
theorem padF_eq (r : List Nat) : padF r = padZ 64 r := by
  rw [pad_eq 64 r (by omega)]
  unfold padF
  rw [lenF_eq]; rfl
noncomputable def digF (s : S8) : List Nat := opS s fun a b c d e f g h =>
  [Nat.mod (Nat.shiftRight a 24) 256, Nat.mod (Nat.shiftRight a 16) 256, Nat.mod (Nat.shiftRight a 8) 256, Nat.mod (Nat.shiftRight a 0) 256,
   Nat.mod (Nat.shiftRight b 24) 256, Nat.mod (Nat.shiftRight b 16) 256, Nat.mod (Nat.shiftRight b 8) 256, Nat.mod (Nat.shiftRight b 0) 256,
   Nat.mod (Nat.shiftRight c 24) 256, Nat.mod (Nat.shiftRight c 16) 256, Nat.mod (Nat.shiftRight c 8) 256, Nat.mod (Nat.shiftRight c 0) 256,
   Nat.mod (Nat.shiftRight d 24) 256, Nat.mod (Nat.shiftRight d 16) 256, Nat.mod (Nat.shiftRight d 8) 256, Nat.mod (Nat.shiftRight d 0) 256,
   Nat.mod (Nat.shiftRight e 24) 256, Nat.mod (Nat.shiftRight e 16) 256, Nat.mod (Nat.shiftRight e 8) 256, Nat.mod (Nat.shiftRight e 0) 256,
   Nat.mod (Nat.shiftRight f 24) 256, Nat.mod (Nat.shiftRight f 16) 256, Nat.mod (Nat.shiftRight f 8) 256, Nat.mod (Nat.shiftRight f 0) 256,
   Nat.mod (Nat.shiftRight g 24) 256, Nat.mod (Nat.shiftRight g 16) 256, Nat.mod (Nat.shiftRight g 8) 256, Nat.mod (Nat.shiftRight g 0) 256,
   Nat.mod (Nat.shiftRight h 24) 256, Nat.mod (Nat.shiftRight h 16) 256, Nat.mod (Nat.shiftRight h 8) 256, Nat.mod (Nat.shiftRight h 0) 256]
theorem digF_eq (s : S8) : digF s = digN s := rfl
noncomputable def endF (n : Nat) (s : S8) (r : List Nat) : List Nat := digF (allF (lenF (padF (r ++ [128]) ++ len8 n)) s (padF (r ++ [128]) ++ len8 n))
noncomputable def shaF (ps : List (List Nat)) : List Nat := Prod.rec (fun s r => endF (total ps) s r) (ps.foldl absF (s0, []))
theorem small_len8 (n : Nat) : small (len8 n) := fun b hb => by
  unfold len8 at hb
  obtain ⟨i, _, rfl⟩ := List.mem_map.1 hb
  exact Nat.mod_lt _ (by decide)
theorem small_pad {r : List Nat} (h : small r) : small (padF r) := small_app h fun b hb => by
  rw [(List.mem_replicate.1 hb).2]; decide
theorem fold_eq : ∀ (ps : List (List Nat)) (a : S8 × List Nat), a.1.Ok → small a.2 → (∀ p ∈ ps, small p) → ps.foldl absF a = ps.foldl absorb a ∧ (ps.foldl absorb a).1.Ok ∧ small (ps.foldl absorb a).2
  | [], a, h1, h2, _ => ⟨rfl, h1, h2⟩
  | p :: ps, a, h1, h2, h3 => by
    obtain ⟨e, k1, k2⟩ := absF_eq h1 h2 (h3 p (List.mem_cons_self ..))
    simp only [List.foldl_cons, e]
    exact fold_eq ps _ k1 k2 fun q hq => h3 q (List.mem_cons_of_mem _ hq)
theorem sha_eq {ps : List (List Nat)} (h : ∀ p ∈ ps, small p) : shaF ps = shaN ps := by
  obtain ⟨e, k1, k2⟩ := fold_eq ps (s0, []) ⟨by decide, by decide, by decide, by decide, by decide, by decide, by decide, by decide⟩ (fun b hb => by cases hb) h
  have e1 : shaF ps = endF (total ps) (ps.foldl absF (s0, [])).1 (ps.foldl absF (s0, [])).2 := rfl
  rw [e1, e]
  unfold endF shaN
  have h1 : small ((ps.foldl absorb (s0, [])).2 ++ [128]) := small_app k2 fun b hb => by
    rw [List.mem_singleton.1 hb]; decide
  rw [allF_eq _ k1 (small_app (small_pad h1) (small_len8 _)), lenF_eq, padF_eq, digF_eq]
end Go.Proofs.YtmlemnbhjbaedaaGreatDoor

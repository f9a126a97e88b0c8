/-
  Laws in the short form in which a walk's text calls them. Nothing here speaks of a program.
-/
import Derived.Test.YtmlemnbhjbaedaaGreatDoorWEnt
namespace Go.Proofs.YtmlemnbhjbaedaaGreatDoor
open Go.RowKit
set_option linter.unusedSimpArgs false
set_option linter.unusedVariables false

/-! ### numbers -/
/-- a number that its kind holds -/
noncomputable def inK (k : IntKind) (z : Int) : Prop := match k with
  | .i64 => -9223372036854775808 ≤ z ∧ z < 9223372036854775808
  | .u64 => 0 ≤ z ∧ z < 18446744073709551616
  | .u32 => 0 ≤ z ∧ z < 4294967296
  | .u8 => 0 ≤ z ∧ z < 256
  | k => k.wrap z = z
theorem wrapF_in {k : IntKind} {z : Int} (h : inK k z) : wrapF k z = z := by
  cases k <;> simp only [inK] at h
  case i64 =>
    cases z with
    | ofNat a =>
      simp only [wrapF]
      have : Nat.blt a 9223372036854775808 = true := by simp only [Int.ofNat_eq_natCast] at h; simpa [Nat.blt_eq] using (by omega : a < 9223372036854775808)
      rw [this]
    | negSucc a =>
      simp only [wrapF]
      have : Nat.blt a 9223372036854775808 = true := by simpa [Nat.blt_eq] using (by omega : a < 9223372036854775808)
      rw [this]
  case u64 =>
    obtain ⟨a, rfl⟩ := Int.eq_ofNat_of_zero_le h.1
    show Int.ofNat (a % _) = _
    rw [Nat.mod_eq_of_lt (by omega)]; rfl
  case u32 =>
    obtain ⟨a, rfl⟩ := Int.eq_ofNat_of_zero_le h.1
    show Int.ofNat (a % _) = _
    rw [Nat.mod_eq_of_lt (by omega)]; rfl
  case u8 =>
    obtain ⟨a, rfl⟩ := Int.eq_ofNat_of_zero_le h.1
    show Int.ofNat (a % _) = _
    rw [Nat.mod_eq_of_lt (by omega)]; rfl
  all_goals (cases z <;> exact h)
theorem ltI_iff {m n : Int} : ltI m n = true ↔ m < n := by
  unfold ltI
  split
  · simp [Nat.blt_eq]
  · simp; omega
  · simp; omega
  · rename_i a b; simp [Nat.blt_eq]; omega
theorem ltI_not {m n : Int} : ltI m n = false ↔ ¬ m < n := by rw [← Bool.not_eq_true, ltI_iff]
theorem eqI_iff {m n : Int} : eqI m n = true ↔ m = n := by
  rw [eqI_eq]; simp
theorem eqI_not {m n : Int} : eqI m n = false ↔ ¬ m = n := by rw [← Bool.not_eq_true, eqI_iff]
theorem ltI_dec {m n : Int} : ltI m n = decide (m < n) := by rw [Bool.eq_iff_iff, ltI_iff]; simp
theorem eqI_dec {m n : Int} : eqI m n = decide (m = n) := by rw [Bool.eq_iff_iff, eqI_iff]; simp
section
variable {C : Cfg} {G : Nat → Option W} {m : Nat} {ops : Array Oper} {l : List Oper} {i : Nat} {es : List (Nat × EvW)} {fr : FrW} {hp : HpW} {nw : Nat} {R : Res} {K : FrW → HpW → Nat → Res → Prop} {o : Oper}
theorem op_wrap {k : IntKind} {z : Int} (hw : wantW ops fr o = some true) (hx : pureW C G fr o.op = some (.int k (wrapF k z))) (hz : inK k z) (h : OpW C G m ops l (putW fr o.dst (.int k z)) hp nw R K) : OpW C G m ops (o :: l) fr hp nw R K :=
  op_pure hw (by rw [hx, wrapF_in hz]) h
theorem fl_wrap {k : IntKind} {z : Int} (hw : wantW ops fr o = some true) (hx : pureW C G fr o.op = some (.int k (wrapF k z))) (hz : inK k z) (h : FlW C G m ops l (i + 1) es (putW fr o.dst (.int k z)) hp nw R K) : FlW C G m ops (o :: l) i es fr hp nw R K :=
  fl_pure hw (by rw [hx, wrapF_in hz]) h
/-- a number that is none below nought -/
theorem op_nat {k : IntKind} {z : Int} (n : Nat) (hw : wantW ops fr o = some true) (hx : pureW C G fr o.op = some (.int k (wrapF k z))) (hn : z = (n : Int)) (hz : inK k (n : Int)) (h : OpW C G m ops l (putW fr o.dst (.int k (n : Int))) hp nw R K) : OpW C G m ops (o :: l) fr hp nw R K :=
  op_pure hw (by rw [hx, hn, wrapF_in hz]) h
theorem fl_nat {k : IntKind} {z : Int} (n : Nat) (hw : wantW ops fr o = some true) (hx : pureW C G fr o.op = some (.int k (wrapF k z))) (hn : z = (n : Int)) (hz : inK k (n : Int)) (h : FlW C G m ops l (i + 1) es (putW fr o.dst (.int k (n : Int))) hp nw R K) : FlW C G m ops (o :: l) i es fr hp nw R K :=
  fl_pure hw (by rw [hx, hn, wrapF_in hz]) h
/-- a value by another name -/
theorem op_val {w w' : W} (hw : wantW ops fr o = some true) (hx : pureW C G fr o.op = some w) (e : w = w') (h : OpW C G m ops l (putW fr o.dst w') hp nw R K) : OpW C G m ops (o :: l) fr hp nw R K := op_pure hw (e ▸ hx) h
theorem fl_val {w w' : W} (hw : wantW ops fr o = some true) (hx : pureW C G fr o.op = some w) (e : w = w') (h : FlW C G m ops l (i + 1) es (putW fr o.dst w') hp nw R K) : FlW C G m ops (o :: l) i es fr hp nw R K := fl_pure hw (e ▸ hx) h
/-- loads and stores by what they lean on -/
theorem ld_own {t : TypeId} {x : Operand} {b off : Nat} {ti : TyI} {ty : TypeId} {v r : W} (hx : evW C G fr x = some (.ptr b off)) (hi : C.ty t = some ti) (hb : hget hp b = some (ty, v)) (hg : getAtW 50 v off ti.size ti.agg = some r) : opHW C G fr hp nw (.load t x) = some (r, hp, nw, .loadO b) := by
  simp only [opHW, hLoad, hx, hi, hb, hg]
theorem ld_fel {t : TypeId} {x : Operand} {ti : TyI} {v r : W} (hx : evW C G fr x = some (.fel v)) (hi : C.ty t = some ti) (hg : getAtW 50 v 0 ti.size ti.agg = some r) : opHW C G fr hp nw (.load t x) = some (r, hp, nw, .loadF) := by
  simp only [opHW, hLoad, hx, hi, hg]
theorem st_own {t : TypeId} {x y : Operand} {b off : Nat} {ti : TyI} {ty : TypeId} {u v v' : W} {hp' : HpW} (hx : evW C G fr x = some (.ptr b off)) (hy : evW C G fr y = some u) (hi : C.ty t = some ti) (hb : hget hp b = some (ty, v)) (hs : Nat.beq u.size ti.size = true) (hg : putAtW 50 v off u = some v') (hh : hset hp b (ty, v') = hp') : opHW C G fr hp nw (.store t x y) = some (.undef, hp', nw, .storeO b) := by
  simp only [opHW, hStore, hx, hy, hi, hb, hs, hg, hh]
theorem cut_hi {t : TypeId} {x z : Operand} {j k : TyI} {e : TypeId} {b base off len esz h : Nat} {lim : Option Nat} {u : W} (hj : C.ty t = some j) (hd : j.d = .slice e) (hx : evW C G fr x = some (.sl b base off len esz lim)) (hk : C.ty e = some k) (hs : Nat.beq k.size esz = true) (hz : evW C G fr z = some u) (hn : natW u = some h) (hle : h ≤ len) :
    pureW C G fr (.slice t x none (some z) none) = some (.sl b base (off + 0 * esz) (h - 0) esz (limCut 0 lim)) := by
  have : (Nat.ble 0 h && Nat.ble h len) = true := by rw [Nat.ble_eq_true_of_le hle]; simp
  simp only [pureW, wSlice, hj, hd, hx, hk, hs, bndW, hz, hn, cutW, this]
theorem cut_lo {t : TypeId} {x z : Operand} {j k : TyI} {e : TypeId} {b base off len esz l : Nat} {lim : Option Nat} {u : W} (hj : C.ty t = some j) (hd : j.d = .slice e) (hx : evW C G fr x = some (.sl b base off len esz lim)) (hk : C.ty e = some k) (hs : Nat.beq k.size esz = true) (hz : evW C G fr z = some u) (hn : natW u = some l) (hle : l ≤ len) (h0 : Nat.beq l 0 = false) :
    pureW C G fr (.slice t x (some z) none none) = some (.sl b off (off + l * esz) (len - l) esz (limCut l lim)) := by
  have : (Nat.ble l len && Nat.ble len len) = true := by rw [Nat.ble_eq_true_of_le hle]; simp
  simp only [pureW, wSlice, hj, hd, hx, hk, hs, bndW, hz, hn, cutW, this, h0]
theorem ix_sl {t : TypeId} {x y : Operand} {j k : TyI} {e : TypeId} {b base off len esz i : Nat} {lim : Option Nat} {u : W} (hj : C.ty t = some j) (hd : j.d = .slice e) (hx : evW C G fr x = some (.sl b base off len esz lim)) (hy : evW C G fr y = some u) (hn : natW u = some i) (hk : C.ty e = some k) (hs : Nat.beq k.size esz = true) (hi : i < len) :
    pureW C G fr (.indexAddr t x y) = some (.ptr b (off + i * esz)) := by
  have : Nat.blt i len = true := by simpa [Nat.blt_eq] using hi
  simp only [pureW, wIndexaddr, hj, hx, hy, hn, hd, hk, this, hs]
theorem ix_arr {t : TypeId} {x y : Operand} {j k : TyI} {e : TypeId} {b off n i : Nat} {u : W} (hj : C.ty t = some j) (hd : j.d = .arr n e) (hx : evW C G fr x = some (.ptr b off)) (hy : evW C G fr y = some u) (hn : natW u = some i) (hk : C.ty e = some k) (hi : i < n) :
    pureW C G fr (.indexAddr t x y) = some (.ptr b (off + i * k.size)) := by
  have : Nat.blt i n = true := by simpa [Nat.blt_eq] using hi
  simp only [pureW, wIndexaddr, hj, hx, hy, hn, hd, hk, this]
theorem ix_fz {t : TypeId} {x y : Operand} {j k : TyI} {e : TypeId} {l : List W} {esz i : Nat} {full : Bool} {u r : W} (hj : C.ty t = some j) (hd : j.d = .slice e) (hx : evW C G fr x = some (.fz l esz full)) (hy : evW C G fr y = some u) (hn : natW u = some i) (hk : C.ty e = some k) (hs : Nat.beq k.size esz = true) (hi : l[i]? = some r) :
    pureW C G fr (.indexAddr t x y) = some (.fel r) := by
  simp only [pureW, wIndexaddr, hj, hx, hy, hn, hd, hk, hi, hs]
theorem ix_fel {t : TypeId} {x y : Operand} {j k : TyI} {e : TypeId} {v r u : W} {n i : Nat} (hj : C.ty t = some j) (hd : j.d = .arr n e) (hx : evW C G fr x = some (.fel v)) (hy : evW C G fr y = some u) (hn : natW u = some i) (hk : C.ty e = some k) (hi : i < n) (h0 : Nat.beq k.size 0 = false) (hg : getAtW 50 v (i * k.size) k.size k.agg = some r) :
    pureW C G fr (.indexAddr t x y) = some (.fel r) := by
  have : Nat.blt i n = true := by simpa [Nat.blt_eq] using hi
  simp only [pureW, wIndexaddr, hj, hx, hy, hn, hd, hk, this, h0, hg]
end

/-! ### some behind a slice -/
section
variable {C : Cfg} {hp : HpW} {nw : Nat} {ts tx e ty : TypeId} {j k : TyI} {x : W} {news olds l : List W}
theorem app_nil0 (hj : C.ty ts = some j) (hd : j.d = .slice e) (hk : C.ty e = some k) (hz : Nat.beq k.size 0 = false) (hs : srcW C hp tx k.size x = some []) : appW C hp nw ts tx .nils x = some (.nils, hp, nw, .gen) := by
  simp only [appW, hj, hd, hk, hz, hs]
theorem app_nil (hj : C.ty ts = some j) (hd : j.d = .slice e) (hk : C.ty e = some k) (hz : Nat.beq k.size 0 = false) (hs : srcW C hp tx k.size x = some news) (hn : news ≠ []) (h1 : news.length * k.bytes ≤ 140737488355328) (h2 : news.length ≤ 70368744177664) :
    appW C hp nw ts tx .nils x = some (.sl nw 0 0 news.length k.size none, (nw, e, .arr (news.length * k.size) k.size news) :: hp, nw + 1, .gen) := by
  cases news with
  | nil => exact absurd rfl hn
  | cons a r => simp only [appW, hj, hd, hk, hz, hs, Nat.ble_eq_true_of_le h1, Nat.ble_eq_true_of_le h2, Bool.and_self]
theorem app_sl0 {b base off len : Nat} {lim : Option Nat} (hj : C.ty ts = some j) (hd : j.d = .slice e) (hk : C.ty e = some k) (hz : Nat.beq k.size 0 = false) (hs : srcW C hp tx k.size x = some []) : appW C hp nw ts tx (.sl b base off len k.size lim) x = some (.sl b base off len k.size lim, hp, nw, .gen) := by
  simp only [appW, hj, hd, hk, hz, hs, show Nat.beq k.size k.size = true by simp]
theorem app_sl {b base off len : Nat} {v : W} (hj : C.ty ts = some j) (hd : j.d = .slice e) (hk : C.ty e = some k) (hz : Nat.beq k.size 0 = false) (hs : srcW C hp tx k.size x = some news) (hn : news ≠ []) (h1 : (len + news.length) * k.bytes ≤ 140737488355328) (h2 : len + news.length ≤ 70368744177664) (hg : hget hp b = some (ty, v))
    (h3 : v.size < off + (len + news.length) * k.size) (ht : Nat.beq ty e = true) (ho : subArrW 50 v off len k.size = some olds) :
    appW C hp nw ts tx (.sl b base off len k.size none) x = some (.sl nw 0 0 (len + news.length) k.size none, (nw, e, .arr ((len + news.length) * k.size) k.size (olds ++ news)) :: hdel hp b, nw + 1, .dirty) := by
  have h3 : Nat.ble (off + (len + news.length) * k.size) v.size = false := by
    cases hq : Nat.ble (off + (len + news.length) * k.size) v.size with
    | true => have := Nat.le_of_ble_eq_true hq; omega
    | false => rfl
  cases news with
  | nil => exact absurd rfl hn
  | cons a r => simp only [appW, hj, hd, hk, hz, hs, Nat.ble_eq_true_of_le h1, Nat.ble_eq_true_of_le h2, Bool.and_self, show Nat.beq k.size k.size = true by simp, hg, h3, ht, ho]
theorem app_fz0 {full : Bool} (hj : C.ty ts = some j) (hd : j.d = .slice e) (hk : C.ty e = some k) (hz : Nat.beq k.size 0 = false) (hs : srcW C hp tx k.size x = some []) : appW C hp nw ts tx (.fz l k.size full) x = some (.fz l k.size full, hp, nw, .gen) := by
  simp only [appW, hj, hd, hk, hz, hs, show Nat.beq k.size k.size = true by simp]
theorem app_fz (hj : C.ty ts = some j) (hd : j.d = .slice e) (hk : C.ty e = some k) (hz : Nat.beq k.size 0 = false) (hs : srcW C hp tx k.size x = some news) (hn : news ≠ []) (h1 : (l.length + news.length) * k.bytes ≤ 140737488355328) (h2 : l.length + news.length ≤ 70368744177664) :
    appW C hp nw ts tx (.fz l k.size true) x = some (.sl nw 0 0 (l.length + news.length) k.size none, (nw, e, .arr ((l.length + news.length) * k.size) k.size (l ++ news)) :: hp, nw + 1, .gen) := by
  cases news with
  | nil => exact absurd rfl hn
  | cons a r => simp only [appW, hj, hd, hk, hz, hs, Nat.ble_eq_true_of_le h1, Nat.ble_eq_true_of_le h2, Bool.and_self, show Nat.beq k.size k.size = true by simp]
theorem ap_op {G : Nat → Option W} {fr : FrW} {x y : Operand} {s u : W} {r : OutW} (hx : evW C G fr x = some s) (hy : evW C G fr y = some u) (h : appW C hp nw ts tx s u = some r) : opHW C G fr hp nw (.call ⟨.builtin .append, #[x, y], #[ts, tx]⟩) = some r := by
  simp only [opHW, hAppend, hx, hy, h]
end

/-! ### behind a piece of code -/
section
variable {C : Cfg} {G : Nat → Option W} {m k0 : Nat} {rd : Bool} {fr : FrW} {hp : HpW} {nw : Nat} {R : Res} {Q : PostW} {x : Exit}
theorem q_seqx {y : Code} (hx : x ≠ .normal) (h : Q x fr hp nw R) : QSeq C G m k0 rd y Q x fr hp nw R := by cases x <;> first | exact h | exact absurd rfl hx
theorem q_blk {id : Nat} (h : Q .normal fr hp nw R) : QBlock id Q (.exit id) fr hp nw R := by simp only [QBlock, show Nat.beq id id = true by simp]; exact h
theorem q_blkx {id id' : Nat} (hne : Nat.beq id' id = false) (h : Q (.exit id') fr hp nw R) : QBlock id Q (.exit id') fr hp nw R := by simp only [QBlock, hne]; exact h
theorem q_blkn {id : Nat} (hx : ∀ i, x ≠ .exit i) (h : Q x fr hp nw R) : QBlock id Q x fr hp nw R := by cases x <;> first | exact h | exact absurd rfl (hx _)
theorem q_out {α : Type} {I : α → Prop} {F : α → FrW} {H : α → HpW} {N : α → Nat} {RR : α → Res} {μ : α → Nat} {k : Nat} (hx : x ≠ .normal) (h : Q x fr hp nw R) : QRound C G m k0 I F H N RR μ k Q x fr hp nw R := by cases x <;> first | exact h | exact absurd rfl hx
theorem q_scope {c : Code} {k : Nat} (hx : ∀ i, x ≠ .goto i) (h : Q x fr hp nw R) : QScope C G m k0 rd c Q k x fr hp nw R := by cases x <;> cases k <;> first | exact h | exact absurd rfl (hx _)
end

noncomputable def subF (fr : FrW) : FrW → Prop
  | [] => True
  | (t, w) :: l => getW fr t = some w ∧ subF fr l
theorem subF_get {fr : FrW} : ∀ {l : FrW}, subF fr l → ∀ t w, getW l t = some w → getW fr t = some w
  | [], _, t, w, h => by simp [getW] at h
  | (k, u) :: l, hs, t, w, h => by
    simp only [getW] at h
    split at h
    · rename_i e
      rw [Nat.beq_eq] at e
      subst e
      cases h
      exact hs.1
    · exact subF_get hs.2 t w h
theorem ent_sub {C : Cfg} {G : Nat → Option W} {m k0 : Nat} {fr fr2 : FrW} {hp hp2 : HpW} {nw nw2 : Nat} {R : Res} (hf : subF fr fr2) (hh : hp = hp2) (hn : nw = nw2) : Ent C G m k0 fr hp nw R fr2 hp2 nw2 R := by
  subst hh; subst hn; exact ent_drop (subF_get hf)

theorem co_post {C : Cfg} {G : Nat → Option W} {m k0 : Nat} {rd : Bool} {c : Code} {fr : FrW} {hp : HpW} {nw : Nat} {R : Res} {Q : PostW}
    (h : CoW C G m k0 rd c fr hp nw R fun x fr hp nw R => ∃ fr2 hp2 nw2 R2, Ent C G m k0 fr hp nw R fr2 hp2 nw2 R2 ∧ Q x fr2 hp2 nw2 R2) : CoW C G m k0 rd c fr hp nw R Q := fun Γ X st h1 h2 h3 h4 h5 => by
  obtain ⟨n, x, st', Γ', X', fr', hp', R', g1, g2, g3, g4, fr2, hp2, nw2, R2, e, g5⟩ := h Γ X st h1 h2 h3 h4 h5
  obtain ⟨Γ2, X2, e1, e2, e3⟩ := e Γ' X' st' rfl (g3.mle (h1 ▸ h2)) g2
  exact ⟨n, x, st', Γ2, X2, fr2, hp2, R2, g1, e2, g3.trans e3, g4, e1 ▸ g5⟩
/-- a piece of code that ends in one of some states -/
theorem co_cut {α : Type} {C : Cfg} {G : Nat → Option W} {m k0 : Nat} {rd : Bool} {x y : Code} {fr : FrW} {hp : HpW} {nw : Nat} {R : Res} {Q : PostW} (I : α → Prop) (F : α → FrW) (H : α → HpW) (N : α → Nat)
    (hx : CoW C G m k0 rd x fr hp nw R fun e fr hp nw R' => e = .normal ∧ ∃ a, I a ∧ Ent C G m k0 fr hp nw R' (F a) (H a) (N a) R) (hy : ∀ a, I a → CoW C G m k0 rd y (F a) (H a) (N a) R Q) : CoW C G m k0 rd (.seq x y) fr hp nw R Q :=
  co_seq (co_post (co_mono hx fun e fr hp nw R' h => by
    obtain ⟨rfl, a, h1, h2⟩ := h
    exact ⟨_, _, _, _, h2, hy a h1⟩))
/-- behind a function's body -/
noncomputable def QFin (C : Cfg) (G : Nat → Option W) (m k0 : Nat) (rs : List ResultVar) (Q : W → HpW → Nat → Res → Prop) : PostW := fun x fr hp nw R => ∃ fr2 hp2 nw2 R2, Ent C G m k0 fr hp nw R fr2 hp2 nw2 R2 ∧ (x = .normal ∨ x = .ret) ∧ ∃ w, outW C fr2 hp2 rs = some w ∧ Q w hp2 nw2 R2
theorem spec_in {C : Cfg} {G : Nat → Option W} {m : Nat} {hp : HpW} {R : Res} {f : FuncId} {fn : Func} {c : Code} {ws : List W} {Q : W → HpW → Nat → Res → Prop} (hk : C.known f = none) (hf : C.fn f = some fn) (hb : fn.body = some c) (hn : ws.length ≤ fn.ntmps)
    (h : ∀ k0, CoW C G m k0 false c (argsW 0 ws) hp m R (QFin C G m k0 fn.results.toList Q)) : Spec C G f m ws hp R Q := spec_of hk hf hb hn fun k0 => co_post (h k0)
theorem fin {C : Cfg} {G : Nat → Option W} {m k0 : Nat} {rs : List ResultVar} {Q : W → HpW → Nat → Res → Prop} {x : Exit} {fr fr2 : FrW} {hp hp2 : HpW} {nw nw2 : Nat} {R R2 : Res} {w : W} (hx : x = .normal ∨ x = .ret) (e : Ent C G m k0 fr hp nw R fr2 hp2 nw2 R2) (ho : outW C fr2 hp2 rs = some w) (hq : Q w hp2 nw2 R2) :
    QFin C G m k0 rs Q x fr hp nw R := ⟨fr2, hp2, nw2, R2, e, hx, w, ho, hq⟩
/-- other numbers: none, for blocks that come later -/
theorem ent_low {C : Cfg} {G : Nat → Option W} {m k0 nw nw2 : Nat} {fr fr2 : FrW} {hp hp2 : HpW} {R : Res} (hm : m ≤ nw2) (hn : nw2 ≤ nw) (hf : subF fr fr2) (hr : fr2.all (fun p => refB nw2 p.2) = true) (hh : ∀ b x, hget hp2 b = some x → b < nw2 ∧ hget hp b = some x ∧ refB nw2 x.2 = true) (nd : (hp2.map (·.1)).Nodup) :
    Ent C G m k0 fr hp nw R fr2 hp2 nw2 R := fun Γ X st hnw hmn s => by
  let Γ2 : Ctx := ⟨nw2, Γ.σ, Γ.D, Γ.h⟩
  have back : ∀ {w : W} {v : V}, refB nw2 w = true → RV Γ w v → RV Γ2 w v := fun {w v} q1 q2 => ⟨q2.1, by
    have h1 := RS_via (τ := fun b => b) (Γ := Γ) (Γ' := Γ) ⟨fun _ h => h, fun _ _ => rfl, fun _ h => h, fun _ _ => rfl⟩ q2.2
    exact RS_back (Γ := Γ) (Γ' := Γ2) (τ := fun b => b) rfl (fun _ _ => rfl) (fun _ h => h) (fun _ _ => rfl) q1 h1⟩
  have howns : ∀ {c}, Owns Γ2 hp2 c → Owns Γ hp c := fun {c} h => by
    obtain ⟨k, y, g1, g2⟩ := h
    exact ⟨k, _, (hh k y g1).2.1, g2⟩
  refine ⟨Γ2, X, rfl, ⟨s.hh, fun t w hw => ?_, ⟨s.sat.wf, fun b ty w hb => ?_, fun b c x y hx hy e => s.sat.inj b c x y (hh b x hx).2.1 (hh c y hy).2.1 e, nd, s.sat.dX, s.sat.xlt, s.sat.dlt, s.sat.res, s.sat.gl⟩, fun d hd => ?_, s.nd⟩, ⟨fun _ _ => rfl, fun _ => hm, Nat.le_refl _, fun _ _ _ _ => rfl, fun _ h => h, fun _ h => .inl h, fun b x _ h => ⟨x, (hh b x h).2.1⟩, fun b x hb h => .inr ⟨b, x, hb, (hh b x h).2.1, rfl⟩, fun _ h => .inl h, fun _ h _ _ => h⟩⟩
  · obtain ⟨v, g3, g4⟩ := s.fr _ _ (subF_get hf t w hw)
    refine ⟨v, g3, back ?_ g4⟩
    have key : ∀ {l : FrW}, getW l t = some w → ∃ p ∈ l, p.2 = w := fun {l} => by
      induction l with
      | nil => intro h; simp [getW] at h
      | cons p l ih =>
        obtain ⟨k, u⟩ := p
        intro h
        simp only [getW] at h
        split at h
        · cases h; exact ⟨_, List.mem_cons_self .., rfl⟩
        · obtain ⟨p, h1, h2⟩ := ih h
          exact ⟨p, List.mem_cons_of_mem _ h1, h2⟩
    obtain ⟨p, h1, rfl⟩ := key hw
    exact (List.all_eq_true.1 hr) p h1
  · obtain ⟨g1, g2, g3⟩ := hh b _ hb
    obtain ⟨q1, q2, q3, v, q4, q5⟩ := s.sat.own _ _ _ g2
    exact ⟨g1, q2, q3, v, q4, back g3 q5⟩
  · obtain ⟨q1, q2, q3, q4, q5, q6⟩ := s.ds d hd
    exact ⟨q1, q2, q3, fun h => q4 (howns h), q5, q6⟩
noncomputable def subH (hp : HpW) (nw : Nat) : HpW → Prop
  | [] => True
  | (b, x) :: l => (b < nw ∧ hget hp b = some x ∧ refB nw x.2 = true) ∧ subH hp nw l
theorem subH_get {hp : HpW} {nw : Nat} : ∀ {l : HpW}, subH hp nw l → ∀ b x, hget l b = some x → b < nw ∧ hget hp b = some x ∧ refB nw x.2 = true
  | [], _, b, x, h => by simp [hget] at h
  | (k, y) :: l, hs, b, x, h => by
    rw [hget_cons] at h
    split at h
    · rename_i e
      subst e
      cases h
      exact hs.1
    · exact subH_get hs.2 b x h

noncomputable def subR (τ : Nat → Nat) (nw2 : Nat) (fr : FrW) : FrW → Prop
  | [] => True
  | (t, w) :: l => (getW fr t = some (renW τ w) ∧ refB nw2 w = true) ∧ subR τ nw2 fr l
theorem subR_get {τ : Nat → Nat} {nw2 : Nat} {fr : FrW} : ∀ {l : FrW}, subR τ nw2 fr l → ∀ t w, getW l t = some w → getW fr t = some (renW τ w) ∧ refB nw2 w = true
  | [], _, t, w, h => by simp [getW] at h
  | (k, u) :: l, hs, t, w, h => by
    simp only [getW] at h
    split at h
    · rename_i e
      rw [Nat.beq_eq] at e
      subst e
      cases h
      exact hs.1
    · exact subR_get hs.2 t w h
noncomputable def subRH (τ : Nat → Nat) (nw2 : Nat) (hp : HpW) : HpW → Prop
  | [] => True
  | (b, x) :: l => (b < nw2 ∧ hget hp (τ b) = some (x.1, renW τ x.2) ∧ refB nw2 x.2 = true) ∧ subRH τ nw2 hp l
theorem subRH_get {τ : Nat → Nat} {nw2 : Nat} {hp : HpW} : ∀ {l : HpW}, subRH τ nw2 hp l → ∀ b x, hget l b = some x → b < nw2 ∧ hget hp (τ b) = some (x.1, renW τ x.2) ∧ refB nw2 x.2 = true
  | [], _, b, x, h => by simp [hget] at h
  | (k, y) :: l, hs, b, x, h => by
    rw [hget_cons] at h
    split at h
    · rename_i e
      subst e
      cases h
      exact hs.1
    · exact subRH_get hs.2 b x h
/-- one number by another one -/
noncomputable def tau1 (b k : Nat) : Nat → Nat := fun i => match Nat.beq i b with
  | true => k
  | false => i
theorem tau1_eq (b k : Nat) : tau1 b k b = k := by simp [tau1]
theorem tau1_ne {b k i : Nat} (h : i ≠ b) : tau1 b k i = i := by
  unfold tau1
  have : Nat.beq i b = false := by
    cases hq : Nat.beq i b with
    | true => exact absurd (Nat.eq_of_beq_eq_true hq) h
    | false => rfl
  rw [this]
/-- the last block under a number that is kept for it -/
theorem ent_last {C : Cfg} {G : Nat → Option W} {m k0 nw b k : Nat} {fr fr2 : FrW} {hp hp2 : HpW} {R : Res} (hm : m ≤ b) (hb : b ≤ k) (hk : k < nw) (hf : subR (tau1 b k) (b + 1) fr fr2) (hh : subRH (tau1 b k) (b + 1) hp hp2) (nd : (hp2.map (·.1)).Nodup) : Ent C G m k0 fr hp nw R fr2 hp2 (b + 1) R := by
  refine ent_num (tau1 b k) (by omega) (fun i hi => tau1_ne (by omega)) (fun i hi => ?_) (fun i h1 h2 => ?_) (subR_get hf) (subRH_get hh) (fun i j x y hx hy e => ?_) nd
  · by_cases e : i = b
    · subst e; rw [tau1_eq]; exact hk
    · rw [tau1_ne e]; omega
  · by_cases e : i = b
    · subst e; rw [tau1_eq]; omega
    · rw [tau1_ne e]; exact h1
  · have h1 := (subRH_get hh i x hx).1
    have h2 := (subRH_get hh j y hy).1
    by_cases e1 : i = b <;> by_cases e2 : j = b
    · rw [e1, e2]
    · subst e1; rw [tau1_eq, tau1_ne e2] at e; omega
    · subst e2; rw [tau1_eq, tau1_ne e1] at e; omega
    · rwa [tau1_ne e1, tau1_ne e2] at e
theorem handed2 {b0 b1 nw : Nat} {t0 t1 : TypeId} {w0 w1 : W} {hp : HpW} (h0 : hget hp b0 = some (t0, renW (numC [b0, b1] nw) w0)) (h1 : hget hp b1 = some (t1, renW (numC [b0, b1] nw) w1)) (r0 : refB 2 w0 = true) (r1 : refB 2 w1 = true) : Handed [b0, b1] nw [(0, t0, w0), (1, t1, w1)] hp := fun i ty w h => by
  rw [hget_cons, hget_cons] at h
  split at h
  · rename_i e; subst e; cases h; exact ⟨by simp, r0, b0, rfl, h0⟩
  · split at h
    · rename_i e; subst e; cases h; exact ⟨by simp, r1, b1, rfl, h1⟩
    · simp [hget] at h
theorem handed1 {b0 nw : Nat} {t0 : TypeId} {w0 : W} {hp : HpW} (h0 : hget hp b0 = some (t0, renW (numC [b0] nw) w0)) (r0 : refB 1 w0 = true) : Handed [b0] nw [(0, t0, w0)] hp := fun i ty w h => by
  rw [hget_cons] at h
  split at h
  · rename_i e; subst e; cases h; exact ⟨by simp, r0, b0, rfl, h0⟩
  · simp [hget] at h
/-- bytes -/
noncomputable def bN (l : List Nat) : List W := l.map fun c => .int .u8 (.ofNat c)
theorem bN_len (l : List Nat) : (bN l).length = l.length := by simp [bN]
theorem bN_pur : ∀ l : List Nat, purL (bN l) = true
  | [] => rfl
  | _ :: l => by simp only [bN, List.map_cons, purL, purW, Bool.true_and]; exact bN_pur l
theorem bN_at {l : List Nat} {i : Nat} (h : i < l.length) : (bN l)[i]? = some (.int .u8 (.ofNat (l.getD i 0))) := by
  simp [bN, List.getElem?_map, List.getElem?_eq_getElem h, List.getD]

/-! ### arrays -/
theorem leaf_size {w : W} (h : w.leaf = true) : w.size = 1 := by cases w <;> simp [W.leaf] at h <;> rfl
theorem get_leaf {w : W} (f : Nat) (h : w.leaf = true) : getAtW (f + 1) w 0 1 false = some w := by
  unfold getAtW
  simp [leaf_size h, W.leaf_agg h, h]
theorem put_leaf {v w : W} (f : Nat) (h : v.leaf = true) (h' : w.leaf = true) : putAtW (f + 1) v 0 w = some w := by
  unfold putAtW
  simp [leaf_size h, leaf_size h', W.leaf_agg h, W.leaf_agg h', h, h']
theorem get_arr1 {n i f : Nat} {l : List W} {x : W} (h : l[i]? = some x) (hx : x.leaf = true) : getAtW (f + 2) (.arr n 1 l) i 1 false = some x := by
  unfold getAtW
  have : (Nat.beq i 0 && Nat.beq 1 (W.arr n 1 l).size && false == (W.arr n 1 l).isAgg) = false := by simp [W.isAgg]
  rw [this]
  simp only [Nat.div_one, Nat.mod_one, h]
  exact get_leaf f hx
theorem put_arr1 {n i f : Nat} {l : List W} {x y : W} (h : l[i]? = some x) (hx : x.leaf = true) (hy : y.leaf = true) : putAtW (f + 2) (.arr n 1 l) i y = some (.arr n 1 (l.set i y)) := by
  unfold putAtW
  have : (Nat.beq i 0 && Nat.beq y.size (W.arr n 1 l).size && y.isAgg == (W.arr n 1 l).isAgg) = false := by rw [W.leaf_agg hy, Bool.and_eq_false_iff]; exact .inr rfl
  rw [this]
  simp only [Nat.div_one, Nat.mod_one, h, put_leaf f hx hy]
theorem get_arrA {n e i f : Nat} {l : List W} {x : W} (h : l[i]? = some x) (hx : x.isAgg = true) (he : x.size = e) (hn : n ≠ e) (h0 : 0 < e) : getAtW (f + 2) (.arr n e l) (i * e) e true = some x := by
  unfold getAtW
  have : (Nat.beq (i * e) 0 && Nat.beq e (W.arr n e l).size && true == (W.arr n e l).isAgg) = false := by
    have : Nat.beq e n = false := by
      cases hq : Nat.beq e n with
      | true => exact absurd (Nat.eq_of_beq_eq_true hq).symm hn
      | false => rfl
    simp [W.size, this]
  rw [this]
  simp only [Nat.mul_div_cancel _ h0, Nat.mul_mod_left, h]
  unfold getAtW
  simp [he, hx]
theorem sub_arr1 {n off k f : Nat} {l : List W} (hn : off + k ≤ n) : subArrW (f + 1) (.arr n 1 l) off k 1 = some ((l.drop off).take k) := by
  unfold subArrW
  have : (Nat.beq 1 1 && Nat.beq (off % 1) 0 && Nat.ble (off + k * 1) n && Nat.blt 0 1) = true := by
    rw [Nat.mod_one, Nat.mul_one, Nat.ble_eq_true_of_le hn]; rfl
  simp only [this, Nat.div_one]

/-! ### small functions, by their run -/
theorem RVL_nil {Γ : Ctx} {vs : List V} : RVL Γ [] vs ↔ vs = [] := by simp [RVL]
theorem RVL_cons {Γ : Ctx} {w : W} {ws : List W} {vs : List V} : RVL Γ (w :: ws) vs ↔ ∃ v vs', vs = v :: vs' ∧ RV Γ w v ∧ RVL Γ ws vs' := by simp only [RVL, RV]
/-- a function that leaves the memory as it is, its run known for every memory -/
theorem spec_run {C : Cfg} {G : Nat → Option W} {f : FuncId} {ws : List W} {w : W} {v : V} {vs : List V} {n : Nat} (h : ∀ h, runFn C n f vs h = some (v, h)) (hv : ∀ Γ us, RVL Γ ws us → us = vs) (hw : ∀ Γ, RV Γ w v) : PSpec C G f 0 ws [] fun w' hp' nw' => w' = w ∧ hp' = [] ∧ nw' = 0 := fun R Γ X us h1 s hu => by
  obtain rfl := hv Γ us hu
  exact ⟨n, v, Γ, X, w, [], R, h Γ.h, s, Frm.refl _ _ _ _, hw Γ, rfl, rfl, rfl, h1⟩
end Go.Proofs.YtmlemnbhjbaedaaGreatDoor

/-
  What the proof of PursePays stands on, part 7. No condition.
-/
import Derived.Test.YtgeelfdgnehdnaaGreatDoorZPursePaysF
set_option linter.unusedSimpArgs false
set_option linter.unusedVariables false
noncomputable section
namespace Go.Proofs.YtgeelfdgnehdnaaGreatDoor
section
open Go.RowKit
section
attribute [local irreducible] CoW OpW FlW Step Spec
def wordN (b0 b1 b2 b3 : Nat) : Nat := orN (orN (orN (shlN (b0 % 4294967296) 24) (shlN (b1 % 4294967296) 16)) (shlN (b2 % 4294967296) 8)) (b3 % 4294967296)
def xxq (bs : Nat -> Nat) (l : List Nat) : Nat := match Nat.blt l.length 16 with
 | true => wordN (bs (4 * l.length)) (bs (4 * l.length + 1)) (bs (4 * l.length + 2)) (bs (4 * l.length + 3))
 | false => addN (addN (addN (l.getD (l.length - 16) 0) (xorN (xorN (rotN (l.getD (l.length - 15) 0) 7) (rotN (l.getD (l.length - 15) 0) 18)) (shrN (l.getD (l.length - 15) 0) 3))) (l.getD (l.length - 7) 0)) (xorN (xorN (rotN (l.getD (l.length - 2) 0) 17) (rotN (l.getD (l.length - 2) 0) 19)) (shrN (l.getD (l.length - 2) 0) 10))
def yyq (bs : Nat -> Nat) : Nat -> List Nat
 | 0 => []
 | t + 1 => yyq bs t ++ [xxq bs (yyq bs t)]
theorem xsq (bs : Nat -> Nat) : ∀ t, (yyq bs t).length = t
 | 0 => rfl
 | t + 1 => by simp [yyq, xsq bs t]
theorem vBq {l : List Nat} {i : Nat} (h : i < l.length) : (l.map wd)[i]? = some (wd (l.getD i 0)) := by
 simp [List.getElem?_map, List.getElem?_eq_getElem h, List.getD]
def kW : List Nat := [1116352408, 1899447441, 3049323471, 3921009573, 961987163, 1508970993, 2453635748, 2870763221, 3624381080, 310598401, 607225278, 1426881987, 1925078388, 2162078206, 2614888103, 3248222580, 3835390401, 4022224774, 264347078, 604807628, 770255983, 1249150122, 1555081692, 1996064986, 2554220882, 2821834349, 2952996808, 3210313671, 3336571891, 3584528711, 113926993, 338241895, 666307205, 773529912, 1294757372, 1396182291, 1695183700, 1986661051, 2177026350, 2456956037, 2730485921, 2820302411, 3259730800, 3345764771, 3516065817, 3600352804, 4094571909, 275423344, 430227734, 506948616, 659060556, 883997877, 958139571, 1322822218, 1537002063, 1747873779, 1955562222, 2024104815, 2227730452, 2361852424, 2428436474, 2756734187, 3204031479, 3329325298]
def glK : Nat -> Option W := fun g => match g with
 | 0 => some (.arr 64 1 (kW.map wd))
 | _ => none
def pad0 (l : List Nat) (n : Nat) : List Nat := l ++ List.replicate (n - l.length) 0
theorem pad0_at {l : List Nat} {n i : Nat} (h : i < l.length) : ((pad0 l n).map wd)[i]? = some (wd (l.getD i 0)) := by
 have : i < (pad0 l n).length := by simp [pad0]; omega
 rw [vBq this]
 simp [pad0, List.getD, List.getElem?_append, h]
theorem pad0_ge {l : List Nat} {n : Nat} (h : l.length < n) : ((pad0 l n).map wd)[l.length]? = some (wd 0) := by
 have : l.length < (pad0 l n).length := by simp [pad0]; omega
 rw [vBq this]
 simp [pad0, List.getD, List.getElem?_append, List.getElem?_replicate, show 0 < n - l.length by omega]
theorem pad0_set {l : List Nat} {n x : Nat} (h : l.length < n) : ((pad0 l n).map wd).set l.length (wd x) = (pad0 (l ++ [x]) n).map wd := by
 rw [<- List.map_set]
 congr 1
 unfold pad0
 rw [List.set_append_right _ _ (Nat.le_refl _)]
 have : n - l.length = (n - (l ++ [x]).length) + 1 := by simp; omega
 rw [this, Nat.sub_self, List.replicate_succ, List.set_cons_zero, List.append_assoc]
 rfl
structure S8 where
 (a b c d e f g h : Nat)
def S8.l (s : S8) : List W := [wd s.a, wd s.b, wd s.c, wd s.d, wd s.e, wd s.f, wd s.g, wd s.h]
def roundN (k w : Nat) (v : S8) : S8 :=
 let one := addN (addN (addN (addN v.h (xorN (xorN (rotN v.e 6) (rotN v.e 11)) (rotN v.e 25))) (xorN (andN v.e v.f) (andN (notN v.e) v.g))) k) w
 let two := addN (xorN (xorN (rotN v.a 2) (rotN v.a 13)) (rotN v.a 22)) (xorN (xorN (andN v.a v.b) (andN v.a v.c)) (andN v.b v.c))
 ⟨addN one two, v.a, v.b, v.c, addN v.d one, v.e, v.f, v.g⟩
def xtq (ws : List Nat) (s : S8) : Nat -> S8
 | 0 => s
 | t + 1 => roundN (kW.getD t 0) (ws.getD t 0) (xtq ws s t)
def add8 (s v : S8) : S8 := ⟨addN s.a v.a, addN s.b v.b, addN s.c v.c, addN s.d v.d, addN s.e v.e, addN s.f v.f, addN s.g v.g, addN s.h v.h⟩
def jqq (bs : Nat -> Nat) (s : S8) : S8 := add8 s (xtq (yyq bs 64) s 64)
def mix8 (s v : S8) : Nat -> List W
 | 0 => s.l
 | 1 => [wd (addN s.a v.a), wd s.b, wd s.c, wd s.d, wd s.e, wd s.f, wd s.g, wd s.h]
 | 2 => [wd (addN s.a v.a), wd (addN s.b v.b), wd s.c, wd s.d, wd s.e, wd s.f, wd s.g, wd s.h]
 | 3 => [wd (addN s.a v.a), wd (addN s.b v.b), wd (addN s.c v.c), wd s.d, wd s.e, wd s.f, wd s.g, wd s.h]
 | 4 => [wd (addN s.a v.a), wd (addN s.b v.b), wd (addN s.c v.c), wd (addN s.d v.d), wd s.e, wd s.f, wd s.g, wd s.h]
 | 5 => [wd (addN s.a v.a), wd (addN s.b v.b), wd (addN s.c v.c), wd (addN s.d v.d), wd (addN s.e v.e), wd s.f, wd s.g, wd s.h]
 | 6 => [wd (addN s.a v.a), wd (addN s.b v.b), wd (addN s.c v.c), wd (addN s.d v.d), wd (addN s.e v.e), wd (addN s.f v.f), wd s.g, wd s.h]
 | 7 => [wd (addN s.a v.a), wd (addN s.b v.b), wd (addN s.c v.c), wd (addN s.d v.d), wd (addN s.e v.e), wd (addN s.f v.f), wd (addN s.g v.g), wd s.h]
 | _ => (add8 s v).l
theorem kW_len : kW.length = 64 := rfl
set_option maxHeartbeats 1600000 in
theorem block_s (s : S8) (bs : Nat -> Nat) (c : W) (base off : Nat) (lim : Option Nat) (ty : TypeId) (hc : refB 2 c = true) (hby : ∀ i, i < 64 -> ypq 50 c (off + i * 1) 1 false = some (.int .u8 (.ofNat (bs i)))) (R : Res) :
  Spec cfg glK 248 2 [.ptr 0 0, .sl 1 base off 64 1 lim] [(0, 352, .arr 8 1 s.l), (1, ty, c)] R fun w hp nw R' => R' = R /\ w = .tup [] /\ hp = [(0, 352, .arr 8 1 (jqq bs s).l), (1, ty, c)] /\ nw = 2 := by
 refine z0q (fn := Tryz.f248) Y Y Y (Yb rfl) (fun k0 => ?_)
 refine zMq (zrq (znq Y Y (zXq ?_)))
 refine yaq (zMq (zMq (zrq (zaq Y Y (zXq ?_)))))
 refine yaq (yrq ?_)
 refine qHq (fun t : Nat => t <= 64) (fun t => [(19, .int .i64 (t : Int)), (4, .ptr 2 0), (1, .sl 1 base off 64 1 lim), (0, .ptr 0 0)]) (fun t => [(2, 355, .arr 64 1 ((pad0 (yyq bs t) 64).map wd)), (0, 352, .arr 8 1 s.l), (1, ty, c)]) (fun _ => 3) (fun _ => R) (fun t => 64 - t) 0 (Nat.zero_le _) ?_ (fun t ht => ?_)
 ·exact yqq ⟨rfl, rfl, rfl, rfl, trivial⟩ Y Y
 have hl := xsq bs t
 refine zMq (zrq (zaq Y Y (zXq ?_)))
 refine yaq (zMq ?_)
 refine jAq rfl (fun hc1 => ?_) (fun hc1 => ?_)
 ·have ht1 : t < 64 := by have := ltI_iff.1 hc1; omega
  have h0 : ((pad0 (yyq bs t) 64).map wd)[0 + t * 1]? = some (wd 0) := by
   have := pad0_ge (l := yyq bs t) (n := 64) (by omega)
   rw [hl] at this; simpa using this
  have key : ∀ x, xxq bs (yyq bs t) = x -> ((pad0 (yyq bs t) 64).map wd).set (0 + t * 1) (wd x) = (pad0 (yyq bs (t + 1)) 64).map wd := fun x hx => by
   have := pad0_set (l := yyq bs t) (n := 64) (x := x) (by omega)
   rw [hl] at this
   rw [Nat.zero_add, Nat.mul_one, this, yyq, hx]
  refine qwq (yaq (zMq (yrq (zMq (zrq (zaq Y Y (zaq Y Y (zXq ?_))))))))
  refine yaq (zMq (zMq (zrq (zaq Y Y (zaq Y Y (zXq ?_))))))
  refine yaq ?_
  refine jAq rfl (fun hc2 => ?_) (fun hc2 => ?_)
  ·have ht2 : t < 16 := by have := ltI_iff.1 hc2; omega
   refine zMq (jhq (zcq Y Y (zcq Y Y (zcq Y Y ?_))))
   first | refine yQq Y Y ⟨by omega, by omega⟩ ?_ | refine zcq Y Y ?_
   refine zcq rfl (zFq (i := 4 * t) Y Y Y Y Y Y Y (by omega)) ?_
   refine yHq rfl (ykq Y Y Y (hby _ (by omega))) (by first | rfl | kernel_rfl) ?_
   first | refine yQq Y Y ⟨by omega, by omega⟩ ?_ | refine zcq Y Y ?_
   refine zcq Y Y (zcq Y Y (zcq Y Y ?_))
   first | refine yQq Y Y ⟨by omega, by omega⟩ ?_ | refine zcq Y Y ?_
   first | refine yQq Y Y ⟨by omega, by omega⟩ ?_ | refine zcq Y Y ?_
   refine zcq rfl (zFq (i := 4 * t + 1) Y Y Y Y Y Y Y (by omega)) ?_
   refine yHq rfl (ykq Y Y Y (hby _ (by omega))) (by first | rfl | kernel_rfl) ?_
   first | refine yQq Y Y ⟨by omega, by omega⟩ ?_ | refine zcq Y Y ?_
   refine zcq Y Y (zcq Y Y (zcq Y Y (zcq Y Y ?_)))
   first | refine yQq Y Y ⟨by omega, by omega⟩ ?_ | refine zcq Y Y ?_
   first | refine yQq Y Y ⟨by omega, by omega⟩ ?_ | refine zcq Y Y ?_
   refine zcq rfl (zFq (i := 4 * t + 2) Y Y Y Y Y Y Y (by omega)) ?_
   refine yHq rfl (ykq Y Y Y (hby _ (by omega))) (by first | rfl | kernel_rfl) ?_
   first | refine yQq Y Y ⟨by omega, by omega⟩ ?_ | refine zcq Y Y ?_
   refine zcq Y Y (zcq Y Y (zcq Y Y (zcq Y Y ?_)))
   first | refine yQq Y Y ⟨by omega, by omega⟩ ?_ | refine zcq Y Y ?_
   first | refine yQq Y Y ⟨by omega, by omega⟩ ?_ | refine zcq Y Y ?_
   refine zcq rfl (zFq (i := 4 * t + 3) Y Y Y Y Y Y Y (by omega)) ?_
   refine yHq rfl (ykq Y Y Y (hby _ (by omega))) (by first | rfl | kernel_rfl) ?_
   first | refine yQq Y Y ⟨by omega, by omega⟩ ?_ | refine zcq Y Y ?_
   refine zcq Y Y (zcq rfl (zpq (i := t) Y Y Y Y Y Y (by omega)) ?_)
   refine yHq rfl (jOq Y Y Y Y Y (qzq h0 Y Y) rfl) (by first | rfl | kernel_rfl) ?_
   refine khq ?_
   refine yaq (jMq ?_)
   refine xiq (by intro h; cases h) ?_
   refine Zbq (yaq (zrq ?_))
   first | refine ytq Y Y ⟨by omega, by omega⟩ ?_ | refine zaq Y Y ?_
   refine zaq Y Y (zXq ?_)
   refine yDq (t + 1) (by omega) (by omega) (yqq ⟨rfl, rfl, rfl, rfl, trivial⟩ (congrArg (fun L => [(2, 355, W.arr 64 1 L), (0, 352, .arr 8 1 s.l), (1, ty, c)]) (key (wordN (bs (4 * t)) (bs (4 * t + 1)) (bs (4 * t + 2)) (bs (4 * t + 3))) ?_)) rfl)
   have hb : Nat.blt (yyq bs t).length 16 = true := by rw [hl]; simpa [Nat.blt_eq] using ht2
   unfold xxq
   rw [hb]
   simp only [hl]
  ·have ht2 : ¬ t < 16 := by have := ltI_not.1 hc2; omega
   have hA : ∀ k, k < t -> ((pad0 (yyq bs t) 64).map wd)[0 + k * 1]? = some (wd ((yyq bs t).getD k 0)) := fun k hk => by
    rw [Nat.zero_add, Nat.mul_one]; exact pad0_at (by omega)
   refine qwq (yaq (zMq (jhq (zcq Y Y (qtq (t - 15) Y Y (by first | rfl | omega) ⟨by omega, by omega⟩ ?_)))))
   refine zcq rfl (zpq (i := t - 15) Y Y Y Y Y Y (by omega)) ?_
   refine yHq rfl (ykq Y Y Y (yUq (hA (t - 15) (by omega)) rfl)) (by first | rfl | kernel_rfl) ?_
   refine zcq Y Y (qtq (t - 2) Y Y (by first | rfl | omega) ⟨by omega, by omega⟩ ?_)
   refine zcq rfl (zpq (i := t - 2) Y Y Y Y Y Y (by omega)) ?_
   refine yHq rfl (ykq Y Y Y (yUq (hA (t - 2) (by omega)) rfl)) (by first | rfl | kernel_rfl) ?_
   refine zcq Y Y (zcq Y Y (khq ?_))
   refine yaq (jhq (zcq Y Y (zcq Y Y (qtq (t - 16) Y Y (by first | rfl | omega) ⟨by omega, by omega⟩ ?_))))
   refine zcq rfl (zpq (i := t - 16) Y Y Y Y Y Y (by omega)) ?_
   refine yHq rfl (ykq Y Y Y (yUq (hA (t - 16) (by omega)) rfl)) (by first | rfl | kernel_rfl) ?_
   refine zcq Y Y ?_
   (refine ymq rfl (y8q Y Y Y Y (jCq _ (by decide) _ _) Y ?_); rintro w hp1 nw1 ⟨rfl, rfl, rfl⟩; first | refine ⟨rfl, rfl, ?_⟩ | refine ⟨rfl, ?_⟩)
   refine zcq Y Y ?_
   (refine ymq rfl (y8q Y Y Y Y (jCq _ (by decide) _ _) Y ?_); rintro w hp1 nw1 ⟨rfl, rfl, rfl⟩; first | refine ⟨rfl, rfl, ?_⟩ | refine ⟨rfl, ?_⟩)
   refine zcq Y Y (zcq Y Y (zcq Y Y (zcq Y Y ?_)))
   first | refine yQq Y Y ⟨by omega, by omega⟩ ?_ | refine zcq Y Y ?_
   refine zcq Y Y (qtq (t - 7) Y Y (by first | rfl | omega) ⟨by omega, by omega⟩ ?_)
   refine zcq rfl (zpq (i := t - 7) Y Y Y Y Y Y (by omega)) ?_
   refine yHq rfl (ykq Y Y Y (yUq (hA (t - 7) (by omega)) rfl)) (by first | rfl | kernel_rfl) ?_
   first | refine yQq Y Y ⟨by omega, by omega⟩ ?_ | refine zcq Y Y ?_
   refine zcq Y Y ?_
   (refine ymq rfl (y8q Y Y Y Y (jCq _ (by decide) _ _) Y ?_); rintro w hp1 nw1 ⟨rfl, rfl, rfl⟩; first | refine ⟨rfl, rfl, ?_⟩ | refine ⟨rfl, ?_⟩)
   refine zcq Y Y ?_
   (refine ymq rfl (y8q Y Y Y Y (jCq _ (by decide) _ _) Y ?_); rintro w hp1 nw1 ⟨rfl, rfl, rfl⟩; first | refine ⟨rfl, rfl, ?_⟩ | refine ⟨rfl, ?_⟩)
   refine zcq Y Y (zcq Y Y (zcq Y Y (zcq Y Y ?_)))
   first | refine yQq Y Y ⟨by omega, by omega⟩ ?_ | refine zcq Y Y ?_
   refine zcq rfl (zpq (i := t) Y Y Y Y Y Y (by omega)) ?_
   refine yHq rfl (jOq Y Y Y Y Y (qzq h0 Y Y) rfl) (by first | rfl | kernel_rfl) ?_
   refine khq ?_
   refine jnq (by intro i h; cases h) ?_
   refine yaq (zrq ?_)
   first | refine ytq Y Y ⟨by omega, by omega⟩ ?_ | refine zaq Y Y ?_
   refine zaq Y Y (zXq ?_)
   refine yDq (t + 1) (by omega) (by omega) (yqq ⟨rfl, rfl, rfl, rfl, trivial⟩ (congrArg (fun L => [(2, 355, W.arr 64 1 L), (0, 352, .arr 8 1 s.l), (1, ty, c)]) (key (addN (addN (addN ((yyq bs t).getD (t - 16) 0) (xorN (xorN (rotN ((yyq bs t).getD (t - 15) 0) 7) (rotN ((yyq bs t).getD (t - 15) 0) 18)) (shrN ((yyq bs t).getD (t - 15) 0) 3))) ((yyq bs t).getD (t - 7) 0)) (xorN (xorN (rotN ((yyq bs t).getD (t - 2) 0) 17) (rotN ((yyq bs t).getD (t - 2) 0) 19)) (shrN ((yyq bs t).getD (t - 2) 0) 10))) ?_)) rfl)
   have hb : Nat.blt (yyq bs t).length 16 = false := by
    cases hq : Nat.blt (yyq bs t).length 16 with
    | true => exact absurd (blt_t hq) (by omega)
    | false => rfl
   unfold xxq
   rw [hb]
   simp only [hl]
 ·obtain rfl : t = 64 := by have := ltI_not.1 hc1; omega
  have hS : (pad0 (yyq bs 64) 64) = yyq bs 64 := by
   unfold pad0; rw [hl]; simp
  simp only [hS]
  refine jMq ?_
  refine xiq (by intro h; cases h) ?_
  refine qAq (by intro h; cases h) ?_
  refine Zbq (yaq (zMq (zrq (zaq Y Y (zaq Y Y (znq Y Y (znq Y Y (znq Y Y (zXq ?_)))))))))
  refine yaq (zMq (zMq (zrq (zaq Y Y (zXq ?_)))))
  refine yaq (yrq ?_)
  refine qHq (fun t : Nat => t <= 64) (fun t => [(100, .int .i64 (t : Int)), (8, .ptr 3 0), (4, .ptr 2 0), (0, .ptr 0 0)]) (fun t => [(3, 352, .arr 8 1 (xtq (yyq bs 64) s t).l), (2, 355, .arr 64 1 ((yyq bs 64).map wd)), (0, 352, .arr 8 1 s.l), (1, ty, c)]) (fun _ => 4) (fun _ => R) (fun t => 64 - t) 0 (Nat.zero_le _) ?_ (fun t ht => ?_)
  ·exact yqq ⟨rfl, rfl, rfl, rfl, trivial⟩ Y Y
  refine zMq (zrq (zaq Y Y (zXq ?_)))
  refine yaq (zMq ?_)
  refine jAq rfl (fun hc3 => ?_) (fun hc3 => ?_)
  ·have ht1 : t < 64 := by have := ltI_iff.1 hc3; omega
   have hK : ypq 50 (.arr 64 1 (kW.map wd)) (t * 1) 1 false = some (wd (kW.getD t 0)) := yUq (by rw [Nat.mul_one]; exact vBq (by rw [kW_len]; exact ht1)) rfl
   have hW : ypq 50 (.arr 64 1 ((yyq bs 64).map wd)) (0 + t * 1) 1 false = some (wd ((yyq bs 64).getD t 0)) := yUq (by rw [Nat.zero_add, Nat.mul_one]; exact vBq (by omega)) rfl
   refine qwq (yaq (zMq (yrq (zMq (zrq (zaq Y Y (zaq Y Y (zXq ?_))))))))
   refine yaq (zMq (jhq ?_))
   first | refine zcq Y Y ?_ | refine zcq rfl (zFq Y Y Y Y Y Y Y (by omega)) ?_ | refine zcq rfl (zpq Y Y Y Y Y Y (by omega)) ?_ | refine zcq rfl (zBq Y Y Y Y Y Y Y (by first | assumption | (simp; done))) ?_
   refine yRq Y Y ?_
   first | refine zcq Y Y ?_ | refine zcq rfl (zFq Y Y Y Y Y Y Y (by omega)) ?_ | refine zcq rfl (zpq Y Y Y Y Y Y (by omega)) ?_ | refine zcq rfl (zBq Y Y Y Y Y Y Y (by first | assumption | (simp; done))) ?_
   refine yRq Y Y ?_
   first | refine zcq Y Y ?_ | refine zcq rfl (zFq Y Y Y Y Y Y Y (by omega)) ?_ | refine zcq rfl (zpq Y Y Y Y Y Y (by omega)) ?_ | refine zcq rfl (zBq Y Y Y Y Y Y Y (by first | assumption | (simp; done))) ?_
   refine yRq Y Y ?_
   first | refine zcq Y Y ?_ | refine zcq rfl (zFq Y Y Y Y Y Y Y (by omega)) ?_ | refine zcq rfl (zpq Y Y Y Y Y Y (by omega)) ?_ | refine zcq rfl (zBq Y Y Y Y Y Y Y (by first | assumption | (simp; done))) ?_
   refine yRq Y Y ?_
   first | refine zcq Y Y ?_ | refine zcq rfl (zFq Y Y Y Y Y Y Y (by omega)) ?_ | refine zcq rfl (zpq Y Y Y Y Y Y (by omega)) ?_ | refine zcq rfl (zBq Y Y Y Y Y Y Y (by first | assumption | (simp; done))) ?_
   refine yRq Y Y ?_
   first | refine zcq Y Y ?_ | refine zcq rfl (zFq Y Y Y Y Y Y Y (by omega)) ?_ | refine zcq rfl (zpq Y Y Y Y Y Y (by omega)) ?_ | refine zcq rfl (zBq Y Y Y Y Y Y Y (by first | assumption | (simp; done))) ?_
   refine yRq Y Y ?_
   refine zcq Y Y (zcq Y Y (zcq Y Y (zcq Y Y (zcq Y Y (zcq Y Y (khq ?_))))))
   refine yaq (zMq (jhq ?_))
   first | refine zcq Y Y ?_ | refine zcq rfl (zFq Y Y Y Y Y Y Y (by omega)) ?_ | refine zcq rfl (zpq Y Y Y Y Y Y (by omega)) ?_ | refine zcq rfl (zBq Y Y Y Y Y Y Y (by first | assumption | (simp; done))) ?_
   refine yRq Y Y ?_
   refine zcq Y Y ?_
   (refine ymq rfl (y8q Y Y Y Y (jCq _ (by decide) _ _) Y ?_); rintro w hp1 nw1 ⟨rfl, rfl, rfl⟩; first | refine ⟨rfl, rfl, ?_⟩ | refine ⟨rfl, ?_⟩)
   refine zcq Y Y ?_
   (refine ymq rfl (y8q Y Y Y Y (jCq _ (by decide) _ _) Y ?_); rintro w hp1 nw1 ⟨rfl, rfl, rfl⟩; first | refine ⟨rfl, rfl, ?_⟩ | refine ⟨rfl, ?_⟩)
   refine zcq Y Y (zcq Y Y ?_)
   (refine ymq rfl (y8q Y Y Y Y (jCq _ (by decide) _ _) Y ?_); rintro w hp1 nw1 ⟨rfl, rfl, rfl⟩; first | refine ⟨rfl, rfl, ?_⟩ | refine ⟨rfl, ?_⟩)
   refine zcq Y Y ?_
   first | refine yQq Y Y ⟨by omega, by omega⟩ ?_ | refine zcq Y Y ?_
   refine zcq Y Y (zcq Y Y (zcq Y Y (zcq Y Y (zcq Y Y (zcq Y Y (zcq Y Y (zcq Y Y ?_)))))))
   first | refine yQq Y Y ⟨by omega, by omega⟩ ?_ | refine zcq Y Y ?_
   refine zcq Y Y (zcq rfl (ix_fel (i := t) Y Y Y Y Y Y (by omega) rfl hK) ?_)
   refine yRq Y Y ?_
   first | refine yQq Y Y ⟨by omega, by omega⟩ ?_ | refine zcq Y Y ?_
   refine zcq Y Y (zcq rfl (zpq (i := t) Y Y Y Y Y Y (by omega)) ?_)
   refine yHq rfl (ykq Y Y Y hW) (by first | rfl | kernel_rfl) ?_
   first | refine yQq Y Y ⟨by omega, by omega⟩ ?_ | refine zcq Y Y ?_
   refine zcq Y Y (khq ?_)
   refine yaq (zMq (zrq (zaq Y Y ?_)))
   (refine zzq rfl (y8q Y Y Y Y (jCq _ (by decide) _ _) Y ?_); rintro w hp1 nw1 ⟨rfl, rfl, rfl⟩; first | refine ⟨rfl, rfl, ?_⟩ | refine ⟨rfl, ?_⟩)
   refine zaq Y Y ?_
   (refine zzq rfl (y8q Y Y Y Y (jCq _ (by decide) _ _) Y ?_); rintro w hp1 nw1 ⟨rfl, rfl, rfl⟩; first | refine ⟨rfl, rfl, ?_⟩ | refine ⟨rfl, ?_⟩)
   refine zaq Y Y (zaq Y Y ?_)
   (refine zzq rfl (y8q Y Y Y Y (jCq _ (by decide) _ _) Y ?_); rintro w hp1 nw1 ⟨rfl, rfl, rfl⟩; first | refine ⟨rfl, rfl, ?_⟩ | refine ⟨rfl, ?_⟩)
   refine zaq Y Y (zaq Y Y (zaq Y Y (zaq Y Y (zaq Y Y (zaq Y Y (zaq Y Y (zaq Y Y (zaq Y Y (zaq Y Y (zaq Y Y (zaq Y Y ?_)))))))))))
   first | refine ytq Y Y ⟨by omega, by omega⟩ ?_ | refine zaq Y Y ?_
   refine zaq Y Y (zXq ?_)
   refine yaq (zrq (zaq Y Y (zaq Y Y ?_)))
   first | refine ytq Y Y ⟨by omega, by omega⟩ ?_ | refine zaq Y Y ?_
   refine zaq Y Y (zaq Y Y (zaq Y Y ?_))
   first | refine zaq Y Y ?_ | refine zaq rfl (zFq Y Y Y Y Y Y Y (by omega)) ?_ | refine zaq rfl (zpq Y Y Y Y Y Y (by omega)) ?_ | refine zaq rfl (zBq Y Y Y Y Y Y Y (by first | assumption | (simp; done))) ?_
   refine znq Y Y (zaq Y Y ?_)
   first | refine ytq Y Y ⟨by omega, by omega⟩ ?_ | refine zaq Y Y ?_
   refine zaq Y Y (zaq Y Y (zaq Y Y (zaq Y Y (znq Y Y (zXq ?_)))))
   refine jnq (by intro i h; cases h) ?_
   refine yaq (zrq ?_)
   first | refine ytq Y Y ⟨by omega, by omega⟩ ?_ | refine zaq Y Y ?_
   refine zaq Y Y (zXq ?_)
   refine yDq (t + 1) (by omega) (by omega) (yqq ⟨rfl, rfl, rfl, rfl, trivial⟩ Y Y)
  ·obtain rfl : t = 64 := by have := ltI_not.1 hc3; omega
   refine jMq ?_
   refine xiq (by intro h; cases h) ?_
   refine qAq (by intro h; cases h) ?_
   refine Zbq (yaq (zMq (zrq (zaq Y Y (zXq ?_)))))
   refine yaq (yrq ?_)
   refine qHq (fun i : Nat => i <= 8) (fun i => [(178, .int .i64 (i : Int)), (8, .ptr 3 0), (0, .ptr 0 0)]) (fun i => [(3, 352, .arr 8 1 (xtq (yyq bs 64) s 64).l), (0, 352, .arr 8 1 (mix8 s (xtq (yyq bs 64) s 64) i)), (1, ty, c)]) (fun _ => 4) (fun _ => R) (fun i => 8 - i) 0 (Nat.zero_le _) ?_ (fun i hi => ?_)
   ·exact (ent_del (b := 2)).trans (yqq ⟨rfl, rfl, rfl, trivial⟩ Y Y)
   refine zMq (zrq (zaq Y Y (zXq ?_)))
   refine yaq (zMq ?_)
   refine jAq rfl (fun hc4 => ?_) (fun hc4 => ?_)
   ·have hi1 : i < 8 := by have := ltI_iff.1 hc4; omega
    have hq : i = 0 \/ i = 1 \/ i = 2 \/ i = 3 \/ i = 4 \/ i = 5 \/ i = 6 \/ i = 7 := by omega
    skip
    rcases hq with rfl | rfl | rfl | rfl | rfl | rfl | rfl | rfl
    ·skip
     refine qwq (yaq (zMq (yrq (zMq (zrq (zaq Y Y (zaq Y Y (zXq ?_))))))))
     refine yaq (jhq (zcq Y Y (zcq Y Y (zcq Y Y ?_))))
     first | refine zcq Y Y ?_ | refine zcq rfl (zFq Y Y Y Y Y Y Y (by omega)) ?_ | refine zcq rfl (zpq Y Y Y Y Y Y (by omega)) ?_ | refine zcq rfl (zBq Y Y Y Y Y Y Y (by first | assumption | (simp; done))) ?_
     refine yRq Y Y ?_
     refine zcq Y Y ?_
     first | refine zcq Y Y ?_ | refine zcq rfl (zFq Y Y Y Y Y Y Y (by omega)) ?_ | refine zcq rfl (zpq Y Y Y Y Y Y (by omega)) ?_ | refine zcq rfl (zBq Y Y Y Y Y Y Y (by first | assumption | (simp; done))) ?_
     refine yRq Y Y ?_
     first | refine yQq Y Y ⟨by omega, by omega⟩ ?_ | refine zcq Y Y ?_
     refine zcq Y Y ?_
     first | refine zcq Y Y ?_ | refine zcq rfl (zFq Y Y Y Y Y Y Y (by omega)) ?_ | refine zcq rfl (zpq Y Y Y Y Y Y (by omega)) ?_ | refine zcq rfl (zBq Y Y Y Y Y Y Y (by first | assumption | (simp; done))) ?_
     refine yRq Y Y ?_
     refine khq ?_
     refine jnq (by intro i h; cases h) ?_
     refine yaq (zrq ?_)
     first | refine ytq Y Y ⟨by omega, by omega⟩ ?_ | refine zaq Y Y ?_
     refine zaq Y Y (zXq ?_)
     exact yDq 1 (by decide) (by decide) (yqq ⟨rfl, rfl, rfl, trivial⟩ Y Y)
    ·skip
     refine qwq (yaq (zMq (yrq (zMq (zrq (zaq Y Y (zaq Y Y (zXq ?_))))))))
     refine yaq (jhq (zcq Y Y (zcq Y Y (zcq Y Y ?_))))
     first | refine zcq Y Y ?_ | refine zcq rfl (zFq Y Y Y Y Y Y Y (by omega)) ?_ | refine zcq rfl (zpq Y Y Y Y Y Y (by omega)) ?_ | refine zcq rfl (zBq Y Y Y Y Y Y Y (by first | assumption | (simp; done))) ?_
     refine yRq Y Y ?_
     refine zcq Y Y ?_
     first | refine zcq Y Y ?_ | refine zcq rfl (zFq Y Y Y Y Y Y Y (by omega)) ?_ | refine zcq rfl (zpq Y Y Y Y Y Y (by omega)) ?_ | refine zcq rfl (zBq Y Y Y Y Y Y Y (by first | assumption | (simp; done))) ?_
     refine yRq Y Y ?_
     first | refine yQq Y Y ⟨by omega, by omega⟩ ?_ | refine zcq Y Y ?_
     refine zcq Y Y ?_
     first | refine zcq Y Y ?_ | refine zcq rfl (zFq Y Y Y Y Y Y Y (by omega)) ?_ | refine zcq rfl (zpq Y Y Y Y Y Y (by omega)) ?_ | refine zcq rfl (zBq Y Y Y Y Y Y Y (by first | assumption | (simp; done))) ?_
     refine yRq Y Y ?_
     refine khq ?_
     refine jnq (by intro i h; cases h) ?_
     refine yaq (zrq ?_)
     first | refine ytq Y Y ⟨by omega, by omega⟩ ?_ | refine zaq Y Y ?_
     refine zaq Y Y (zXq ?_)
     exact yDq 2 (by decide) (by decide) (yqq ⟨rfl, rfl, rfl, trivial⟩ Y Y)
    ·skip
     refine qwq (yaq (zMq (yrq (zMq (zrq (zaq Y Y (zaq Y Y (zXq ?_))))))))
     refine yaq (jhq (zcq Y Y (zcq Y Y (zcq Y Y ?_))))
     first | refine zcq Y Y ?_ | refine zcq rfl (zFq Y Y Y Y Y Y Y (by omega)) ?_ | refine zcq rfl (zpq Y Y Y Y Y Y (by omega)) ?_ | refine zcq rfl (zBq Y Y Y Y Y Y Y (by first | assumption | (simp; done))) ?_
     refine yRq Y Y ?_
     refine zcq Y Y ?_
     first | refine zcq Y Y ?_ | refine zcq rfl (zFq Y Y Y Y Y Y Y (by omega)) ?_ | refine zcq rfl (zpq Y Y Y Y Y Y (by omega)) ?_ | refine zcq rfl (zBq Y Y Y Y Y Y Y (by first | assumption | (simp; done))) ?_
     refine yRq Y Y ?_
     first | refine yQq Y Y ⟨by omega, by omega⟩ ?_ | refine zcq Y Y ?_
     refine zcq Y Y ?_
     first | refine zcq Y Y ?_ | refine zcq rfl (zFq Y Y Y Y Y Y Y (by omega)) ?_ | refine zcq rfl (zpq Y Y Y Y Y Y (by omega)) ?_ | refine zcq rfl (zBq Y Y Y Y Y Y Y (by first | assumption | (simp; done))) ?_
     refine yRq Y Y ?_
     refine khq ?_
     refine jnq (by intro i h; cases h) ?_
     refine yaq (zrq ?_)
     first | refine ytq Y Y ⟨by omega, by omega⟩ ?_ | refine zaq Y Y ?_
     refine zaq Y Y (zXq ?_)
     exact yDq 3 (by decide) (by decide) (yqq ⟨rfl, rfl, rfl, trivial⟩ Y Y)
    ·skip
     refine qwq (yaq (zMq (yrq (zMq (zrq (zaq Y Y (zaq Y Y (zXq ?_))))))))
     refine yaq (jhq (zcq Y Y (zcq Y Y (zcq Y Y ?_))))
     first | refine zcq Y Y ?_ | refine zcq rfl (zFq Y Y Y Y Y Y Y (by omega)) ?_ | refine zcq rfl (zpq Y Y Y Y Y Y (by omega)) ?_ | refine zcq rfl (zBq Y Y Y Y Y Y Y (by first | assumption | (simp; done))) ?_
     refine yRq Y Y ?_
     refine zcq Y Y ?_
     first | refine zcq Y Y ?_ | refine zcq rfl (zFq Y Y Y Y Y Y Y (by omega)) ?_ | refine zcq rfl (zpq Y Y Y Y Y Y (by omega)) ?_ | refine zcq rfl (zBq Y Y Y Y Y Y Y (by first | assumption | (simp; done))) ?_
     refine yRq Y Y ?_
     first | refine yQq Y Y ⟨by omega, by omega⟩ ?_ | refine zcq Y Y ?_
     refine zcq Y Y ?_
     first | refine zcq Y Y ?_ | refine zcq rfl (zFq Y Y Y Y Y Y Y (by omega)) ?_ | refine zcq rfl (zpq Y Y Y Y Y Y (by omega)) ?_ | refine zcq rfl (zBq Y Y Y Y Y Y Y (by first | assumption | (simp; done))) ?_
     refine yRq Y Y ?_
     refine khq ?_
     refine jnq (by intro i h; cases h) ?_
     refine yaq (zrq ?_)
     first | refine ytq Y Y ⟨by omega, by omega⟩ ?_ | refine zaq Y Y ?_
     refine zaq Y Y (zXq ?_)
     exact yDq 4 (by decide) (by decide) (yqq ⟨rfl, rfl, rfl, trivial⟩ Y Y)
    ·skip
     refine qwq (yaq (zMq (yrq (zMq (zrq (zaq Y Y (zaq Y Y (zXq ?_))))))))
     refine yaq (jhq (zcq Y Y (zcq Y Y (zcq Y Y ?_))))
     first | refine zcq Y Y ?_ | refine zcq rfl (zFq Y Y Y Y Y Y Y (by omega)) ?_ | refine zcq rfl (zpq Y Y Y Y Y Y (by omega)) ?_ | refine zcq rfl (zBq Y Y Y Y Y Y Y (by first | assumption | (simp; done))) ?_
     refine yRq Y Y ?_
     refine zcq Y Y ?_
     first | refine zcq Y Y ?_ | refine zcq rfl (zFq Y Y Y Y Y Y Y (by omega)) ?_ | refine zcq rfl (zpq Y Y Y Y Y Y (by omega)) ?_ | refine zcq rfl (zBq Y Y Y Y Y Y Y (by first | assumption | (simp; done))) ?_
     refine yRq Y Y ?_
     first | refine yQq Y Y ⟨by omega, by omega⟩ ?_ | refine zcq Y Y ?_
     refine zcq Y Y ?_
     first | refine zcq Y Y ?_ | refine zcq rfl (zFq Y Y Y Y Y Y Y (by omega)) ?_ | refine zcq rfl (zpq Y Y Y Y Y Y (by omega)) ?_ | refine zcq rfl (zBq Y Y Y Y Y Y Y (by first | assumption | (simp; done))) ?_
     refine yRq Y Y ?_
     refine khq ?_
     refine jnq (by intro i h; cases h) ?_
     refine yaq (zrq ?_)
     first | refine ytq Y Y ⟨by omega, by omega⟩ ?_ | refine zaq Y Y ?_
     refine zaq Y Y (zXq ?_)
     exact yDq 5 (by decide) (by decide) (yqq ⟨rfl, rfl, rfl, trivial⟩ Y Y)
    ·skip
     refine qwq (yaq (zMq (yrq (zMq (zrq (zaq Y Y (zaq Y Y (zXq ?_))))))))
     refine yaq (jhq (zcq Y Y (zcq Y Y (zcq Y Y ?_))))
     first | refine zcq Y Y ?_ | refine zcq rfl (zFq Y Y Y Y Y Y Y (by omega)) ?_ | refine zcq rfl (zpq Y Y Y Y Y Y (by omega)) ?_ | refine zcq rfl (zBq Y Y Y Y Y Y Y (by first | assumption | (simp; done))) ?_
     refine yRq Y Y ?_
     refine zcq Y Y ?_
     first | refine zcq Y Y ?_ | refine zcq rfl (zFq Y Y Y Y Y Y Y (by omega)) ?_ | refine zcq rfl (zpq Y Y Y Y Y Y (by omega)) ?_ | refine zcq rfl (zBq Y Y Y Y Y Y Y (by first | assumption | (simp; done))) ?_
     refine yRq Y Y ?_
     first | refine yQq Y Y ⟨by omega, by omega⟩ ?_ | refine zcq Y Y ?_
     refine zcq Y Y ?_
     first | refine zcq Y Y ?_ | refine zcq rfl (zFq Y Y Y Y Y Y Y (by omega)) ?_ | refine zcq rfl (zpq Y Y Y Y Y Y (by omega)) ?_ | refine zcq rfl (zBq Y Y Y Y Y Y Y (by first | assumption | (simp; done))) ?_
     refine yRq Y Y ?_
     refine khq ?_
     refine jnq (by intro i h; cases h) ?_
     refine yaq (zrq ?_)
     first | refine ytq Y Y ⟨by omega, by omega⟩ ?_ | refine zaq Y Y ?_
     refine zaq Y Y (zXq ?_)
     exact yDq 6 (by decide) (by decide) (yqq ⟨rfl, rfl, rfl, trivial⟩ Y Y)
    ·skip
     refine qwq (yaq (zMq (yrq (zMq (zrq (zaq Y Y (zaq Y Y (zXq ?_))))))))
     refine yaq (jhq (zcq Y Y (zcq Y Y (zcq Y Y ?_))))
     first | refine zcq Y Y ?_ | refine zcq rfl (zFq Y Y Y Y Y Y Y (by omega)) ?_ | refine zcq rfl (zpq Y Y Y Y Y Y (by omega)) ?_ | refine zcq rfl (zBq Y Y Y Y Y Y Y (by first | assumption | (simp; done))) ?_
     refine yRq Y Y ?_
     refine zcq Y Y ?_
     first | refine zcq Y Y ?_ | refine zcq rfl (zFq Y Y Y Y Y Y Y (by omega)) ?_ | refine zcq rfl (zpq Y Y Y Y Y Y (by omega)) ?_ | refine zcq rfl (zBq Y Y Y Y Y Y Y (by first | assumption | (simp; done))) ?_
     refine yRq Y Y ?_
     first | refine yQq Y Y ⟨by omega, by omega⟩ ?_ | refine zcq Y Y ?_
     refine zcq Y Y ?_
     first | refine zcq Y Y ?_ | refine zcq rfl (zFq Y Y Y Y Y Y Y (by omega)) ?_ | refine zcq rfl (zpq Y Y Y Y Y Y (by omega)) ?_ | refine zcq rfl (zBq Y Y Y Y Y Y Y (by first | assumption | (simp; done))) ?_
     refine yRq Y Y ?_
     refine khq ?_
     refine jnq (by intro i h; cases h) ?_
     refine yaq (zrq ?_)
     first | refine ytq Y Y ⟨by omega, by omega⟩ ?_ | refine zaq Y Y ?_
     refine zaq Y Y (zXq ?_)
     exact yDq 7 (by decide) (by decide) (yqq ⟨rfl, rfl, rfl, trivial⟩ Y Y)
    ·skip
     refine qwq (yaq (zMq (yrq (zMq (zrq (zaq Y Y (zaq Y Y (zXq ?_))))))))
     refine yaq (jhq (zcq Y Y (zcq Y Y (zcq Y Y ?_))))
     first | refine zcq Y Y ?_ | refine zcq rfl (zFq Y Y Y Y Y Y Y (by omega)) ?_ | refine zcq rfl (zpq Y Y Y Y Y Y (by omega)) ?_ | refine zcq rfl (zBq Y Y Y Y Y Y Y (by first | assumption | (simp; done))) ?_
     refine yRq Y Y ?_
     refine zcq Y Y ?_
     first | refine zcq Y Y ?_ | refine zcq rfl (zFq Y Y Y Y Y Y Y (by omega)) ?_ | refine zcq rfl (zpq Y Y Y Y Y Y (by omega)) ?_ | refine zcq rfl (zBq Y Y Y Y Y Y Y (by first | assumption | (simp; done))) ?_
     refine yRq Y Y ?_
     first | refine yQq Y Y ⟨by omega, by omega⟩ ?_ | refine zcq Y Y ?_
     refine zcq Y Y ?_
     first | refine zcq Y Y ?_ | refine zcq rfl (zFq Y Y Y Y Y Y Y (by omega)) ?_ | refine zcq rfl (zpq Y Y Y Y Y Y (by omega)) ?_ | refine zcq rfl (zBq Y Y Y Y Y Y Y (by first | assumption | (simp; done))) ?_
     refine yRq Y Y ?_
     refine khq ?_
     refine jnq (by intro i h; cases h) ?_
     refine yaq (zrq ?_)
     first | refine ytq Y Y ⟨by omega, by omega⟩ ?_ | refine zaq Y Y ?_
     refine zaq Y Y (zXq ?_)
     exact yDq 8 (by decide) (by decide) (yqq ⟨rfl, rfl, rfl, trivial⟩ Y Y)
   ·obtain rfl : i = 8 := by have := ltI_not.1 hc4; omega
    refine jMq ?_
    refine xiq (by intro h; cases h) ?_
    refine qAq (by intro h; cases h) ?_
    refine Zbq ?_
    refine fin (.inl rfl) (qpq (fr2 := []) (hp2 := [(0, 352, .arr 8 1 (jqq bs s).l), (1, ty, c)]) (nw2 := 2) (by omega) (by omega) trivial rfl (qgq ⟨⟨by omega, rfl, rfl⟩, ⟨by omega, rfl, hc⟩, trivial⟩) (by simp)) rfl ⟨rfl, rfl, rfl, rfl⟩
end
section
attribute [local irreducible] CoW OpW FlW Step Spec
def atL (r : List Nat) (i : Nat) : Nat := r.getD i 0
def eat : Nat -> S8 -> List Nat -> S8 × List Nat
 | 0, s, r => (s, r)
 | n + 1, s, r => match Nat.ble 64 r.length with
  | true => eat n (jqq (atL r) s) (r.drop 64)
  | false => (s, r)
theorem jSq : ∀ (n : Nat) (s : S8) (r : List Nat), r.length < 64 -> eat n s r = (s, r)
 | 0, _, _, _ => rfl
 | n + 1, s, r, h => by
  have : Nat.ble 64 r.length = false := by
   cases hq : Nat.ble 64 r.length with
   | true => have := Yb hq; omega
   | false => rfl
  simp only [eat, this]
theorem Q4q {n : Nat} {s : S8} {r : List Nat} (h : 64 <= r.length) : eat (n + 1) s r = eat n (jqq (atL r) s) (r.drop 64) := by
 simp only [eat, Nat.ble_eq_true_of_le h]
theorem eat_fuel : ∀ (n m : Nat) (s : S8) (r : List Nat), r.length <= n -> r.length <= m -> eat n s r = eat m s r
 | 0, m, s, r, h, _ => by rw [jSq m s r (by omega)]; rfl
 | n + 1, 0, s, r, _, h => by rw [jSq _ s r (by omega)]; rfl
 | n + 1, m + 1, s, r, h1, h2 => by
  by_cases h : 64 <= r.length
  ·rw [Q4q h, Q4q h]
   exact eat_fuel n m _ _ (by simp; omega) (by simp; omega)
  ·rw [jSq _ s r (by omega), jSq _ s r (by omega)]
def eats (s : S8) (r : List Nat) : S8 × List Nat := eat r.length s r
theorem Ycq {s : S8} {r : List Nat} (h : 64 <= r.length) : eats s r = eats (jqq (atL r) s) (r.drop 64) := by
 unfold eats
 obtain ⟨n, hn⟩ : ∃ n, r.length = n + 1 := ⟨r.length - 1, by omega⟩
 rw [hn, Q4q h]
 exact eat_fuel _ _ _ _ (by simp; omega) (Nat.le_refl _)
def xMq (a : S8 × List Nat) (p : List Nat) : S8 × List Nat := eats a.1 (a.2 ++ p)
def s0 : S8 := ⟨1779033703, 3144134277, 1013904242, 2773480762, 1359893119, 2600822924, 528734635, 1541459225⟩
def padZ : Nat -> List Nat -> List Nat
 | 0, r => r
 | n + 1, r => match Nat.beq (r.length % 64) 56 with
  | true => r
  | false => padZ n (r ++ [0])
def len8 (many : Nat) : List Nat := [56, 48, 40, 32, 24, 16, 8, 0].map fun i => Nat.shiftRight (8 * many % 18446744073709551616) i % 256
def qWq : Nat -> S8 -> List Nat -> S8
 | 0, s, _ => s
 | n + 1, s, r => match Nat.ble 1 r.length with
  | true => qWq n (jqq (atL r) s) (r.drop 64)
  | false => s
theorem jXq : ∀ (n : Nat) (s : S8), qWq n s [] = s
 | 0, _ => rfl
 | n + 1, s => rfl
theorem uyq {n : Nat} {s : S8} {r : List Nat} (h : 1 <= r.length) : qWq (n + 1) s r = qWq n (jqq (atL r) s) (r.drop 64) := by
 simp only [qWq, Nat.ble_eq_true_of_le h]
theorem Ydq : ∀ (n m : Nat) (s : S8) (r : List Nat), r.length <= n -> r.length <= m -> qWq n s r = qWq m s r
 | 0, m, s, r, h, _ => by
  obtain rfl : r = [] := List.length_eq_zero_iff.1 (by omega)
  rw [jXq, jXq]
 | n + 1, 0, s, r, _, h => by
  obtain rfl : r = [] := List.length_eq_zero_iff.1 (by omega)
  rw [jXq, jXq]
 | n + 1, m + 1, s, r, h1, h2 => by
  by_cases h : 1 <= r.length
  ·rw [uyq h, uyq h]
   exact Ydq n m _ _ (by simp; omega) (by simp; omega)
  ·obtain rfl : r = [] := List.length_eq_zero_iff.1 (by omega)
   rw [jXq, jXq]
theorem uxq {s : S8} {r : List Nat} (h : 1 <= r.length) : qWq r.length s r = qWq (r.drop 64).length (jqq (atL r) s) (r.drop 64) := by
 obtain ⟨n, hn⟩ : ∃ n, r.length = n + 1 := ⟨r.length - 1, by omega⟩
 rw [hn, uyq h]
 exact Ydq _ _ _ _ (by simp; omega) (Nat.le_refl _)
def S8.get (s : S8) : Nat -> Nat
 | 0 => s.a
 | 1 => s.b
 | 2 => s.c
 | 3 => s.d
 | 4 => s.e
 | 5 => s.f
 | 6 => s.g
 | _ => s.h
def digN (s : S8) : List Nat := (List.range 32).map fun i => Nat.shiftRight (s.get (i / 4)) (24 - 8 * (i % 4)) % 256
def qbq (ps : List (List Nat)) : Nat := (ps.map List.length).foldr (· + ·) 0
def shaN (ps : List (List Nat)) : List Nat :=
 let a := ps.foldl xMq (s0, [])
 let r := padZ 64 (a.2 ++ [128]) ++ len8 (qbq ps)
 digN (qWq r.length a.1 r)
inductive Rst where
 | nil
 | sl (all : List Nat) (base off : Nat)
def Rst.w : Rst -> W
 | .nil => .nils
 | .sl all base off => .sl 2 base off (all.length - off) 1 none
def Rst.hp : Rst -> HpW
 | .nil => []
 | .sl all _ _ => [(2, 5, .arr all.length 1 (bN all))]
def Rst.r : Rst -> List Nat
 | .nil => []
 | .sl all _ off => all.drop off
def Rst.ok : Rst -> Prop
 | .nil => True
 | .sl all _ off => off <= all.length /\ all.length < 4294967296
def Rst.nw : Rst -> Nat
 | .nil => 2
 | .sl _ _ _ => 3
def hpS (x : Rst) (d : W) (s : S8) : HpW := x.hp ++ [(1, 352, .arr 8 1 s.l), (0, 23, d)]
def x4q : W := .arr 32 1 (List.replicate 32 (.int .u8 0))
def YIq (p : List Nat × Bool) : W := .fz (bN p.1) 1 p.2
theorem app_r (r : Rst) (hr : r.ok) (d : W) (s : S8) (p : List Nat) (f : Bool) (hp : p.length < 2147483648) (h64 : r.r.length < 64) : ∃ w hp' nw ev, appW cfg (hpS r d s) r.nw 88 88 r.w (.fz (bN p) 1 f) = some (w, hp', nw, ev) /\
  ∃ r' : Rst, r'.ok /\ r'.r = r.r ++ p /\ ((w = r'.w /\ hp' = hpS r' d s /\ nw = r'.nw) \/ ∃ all, r' = .sl all 0 0 /\ w = .sl 3 0 0 all.length 1 none /\ hp' = [(3, 5, .arr all.length 1 (bN all)), (1, 352, .arr 8 1 s.l), (0, 23, d)] /\ nw = 4) := by
 cases r with
 | nil => cases p with
  | nil => exact ⟨_, _, _, _, rfl, .nil, trivial, rfl, .inl ⟨rfl, rfl, rfl⟩⟩
  | cons a l =>
   have hl : (bN (a :: l)).length = l.length + 1 := by rw [kbq]; rfl
   have hlt : l.length + 1 < 2147483648 := hp
   have hbl : (bN (a :: l)).length * 1 <= 140737488355328 := by omega
   refine ⟨_, _, _, _, xKq (k := ti5) Y Y Y Y Y (by simp [bN]) hbl (by omega), .sl (a :: l) 0 0, ⟨Nat.zero_le _, by show l.length + 1 < _; omega⟩, rfl, .inl ⟨?_, ?_, rfl⟩⟩
   ·rw [kbq]; rfl
   ·rw [kbq, show (ti5).size = 1 from rfl, Nat.mul_one]; rfl
 | sl all base off =>
  obtain ⟨h1, h2⟩ := hr
  cases p with
  | nil => exact ⟨_, _, _, _, rfl, .sl all base off, ⟨h1, h2⟩, by simp, .inl ⟨rfl, rfl, rfl⟩⟩
  | cons a l =>
   have hl : (bN (a :: l)).length = l.length + 1 := by rw [kbq]; rfl
   have hlt : l.length + 1 < 2147483648 := hp
   have hbl : (all.length - off + (bN (a :: l)).length) * 1 <= 140737488355328 := by omega
   have hdt : ((bN all).drop off).take (all.length - off) = bN (all.drop off) := by
    rw [List.take_of_length_le (by simp [kbq])]; simp [bN, List.map_drop]
   refine ⟨_, _, _, _, qOq (k := ti5) (v := .arr all.length 1 (bN all)) (off := off) Y Y Y Y Y (by simp [bN]) hbl (by omega) Y ?_ rfl (uLq (by omega)), .sl (all.drop off ++ a :: l) 0 0, ⟨Nat.zero_le _, ?_⟩, rfl, .inr ⟨_, rfl, ?_, ?_, rfl⟩⟩
   ·show all.length < off + (all.length - off + (bN (a :: l)).length) * 1
    omega
   ·simp only [Rst.r, List.length_drop] at h64; simp only [List.length_append, List.length_drop, List.length_cons]; omega
   ·simp only [hl, List.length_append, List.length_drop, List.length_cons]; rfl
   ·rw [hdt, hl]
    simp only [List.length_append, List.length_drop, List.length_cons, show (ti5).size = 1 from rfl, Nat.mul_one]
    rw [show bN (all.drop off) ++ bN (a :: l) = bN (all.drop off ++ a :: l) by simp [bN]]
    rfl
theorem padZ_spec : ∀ (n j : Nat) (r : List Nat), (∀ i, i < j -> (r.length + i) % 64 ≠ 56) -> (r.length + j) % 64 = 56 -> j <= n -> padZ n r = r ++ List.replicate j 0
 | 0, j, r, _, _, h => by
  obtain rfl : j = 0 := by omega
  simp [padZ]
 | n + 1, 0, r, _, h, _ => by
  have : Nat.beq (r.length % 64) 56 = true := by rw [Nat.beq_eq]; simpa using h
  simp only [padZ, this]; simp
 | n + 1, j + 1, r, h1, h2, h3 => by
  have : Nat.beq (r.length % 64) 56 = false := by
   cases hq : Nat.beq (r.length % 64) 56 with
   | true => rw [Nat.beq_eq] at hq; exact absurd (by simpa using hq) (h1 0 (by omega))
   | false => rfl
  simp only [padZ, this]
  rw [padZ_spec n j (r ++ [0]) (fun i hi => by simp only [List.length_append, List.length_singleton]; have := h1 (i + 1) (by omega); rwa [show r.length + 1 + i = r.length + (i + 1) by omega]) (by simp only [List.length_append, List.length_singleton]; rwa [show r.length + 1 + j = r.length + (j + 1) by omega]) (by omega)]
  rw [List.append_assoc]; rfl
theorem S8_at (s : S8) {k : Nat} (h : k < 8) : s.l[0 + k * 1]? = some (wd (s.get k)) := by
 have hq : k = 0 \/ k = 1 \/ k = 2 \/ k = 3 \/ k = 4 \/ k = 5 \/ k = 6 \/ k = 7 := by omega
 rcases hq with rfl | rfl | rfl | rfl | rfl | rfl | rfl | rfl <;> rfl
def dI (s : S8) (i : Nat) : List Nat := (digN s).take i ++ List.replicate (32 - i) 0
theorem vaq (s : S8) : (digN s).length = 32 := by simp [digN]
theorem dI_len (s : S8) {i : Nat} (h : i <= 32) : (dI s i).length = 32 := by simp [dI, vaq]; omega
theorem dI_at (s : S8) {i : Nat} (h : i < 32) : (bN (dI s i))[0 + i * 1]? = some (.int .u8 (.ofNat 0)) := by
 rw [Nat.zero_add, Nat.mul_one, bN_at (by rw [dI_len s (by omega)]; exact h)]
 have : (dI s i).getD i 0 = 0 := by
  simp [dI, List.getD, List.getElem?_append, vaq, show min i 32 = i by omega, List.getElem?_replicate, show 0 < 32 - i by omega]
 rw [this]
theorem dI_set (s : S8) {i : Nat} (h : i < 32) : (bN (dI s i)).set (0 + i * 1) (.int .u8 (.ofNat (Nat.shiftRight (s.get (i / 4)) (min (24 - 8 * (i % 4)) 32) % 256))) = bN (dI s (i + 1)) := by
 have e : (digN s).take (i + 1) = (digN s).take i ++ [Nat.shiftRight (s.get (i / 4)) (24 - 8 * (i % 4)) % 256] := by
  rw [List.take_add_one]
  congr 1
  simp [digN, List.getElem?_map, List.getElem?_range h]
 have hm : min (24 - 8 * (i % 4)) 32 = 24 - 8 * (i % 4) := by omega
 have hl : ((digN s).take i).length = i := by simp [vaq]; omega
 rw [Nat.zero_add, Nat.mul_one, hm]
 unfold bN
 rw [<- List.map_set (f := fun c => W.int .u8 (.ofNat c))]
 congr 1
 unfold dI
 rw [e, show 32 - i = (32 - (i + 1)) + 1 by omega, List.replicate_succ, List.set_append_right _ _ (by omega), hl, Nat.sub_self, List.set_cons_zero, List.append_assoc]
 rfl
theorem mid1 (L : List Nat) (c : Nat) : some (W.sl 4 0 0 (L.length + (bN [c]).length) 1 none) = some (renW (tau1 2 4) (W.sl 2 0 0 (L ++ [c]).length 1 none)) := by
 rw [List.length_append]; rfl
theorem mid2 (L : List Nat) (c : Nat) : some (5, W.arr ((L.length + (bN [c]).length) * 1) 1 (((bN L).drop 0).take L.length ++ bN [c])) = some (5, renW (tau1 2 4) (W.arr (L ++ [c]).length 1 (bN (L ++ [c])))) := by
 rw [zlq (show purW (.arr (L ++ [c]).length 1 (bN (L ++ [c]))) = true from v5q _), List.drop_zero, List.take_of_length_le (by rw [kbq]; exact Nat.le_refl _), Nat.mul_one, List.length_append]
 simp [bN]
theorem parts_pur : ∀ ps : List (List Nat × Bool), purL (ps.map YIq) = true
 | [] => rfl
 | p :: ps => by simp only [List.map_cons, purL, YIq, purW, v5q, Bool.true_and]; exact parts_pur ps
set_option maxHeartbeats 1600000 in
theorem of_s (ps : List (List Nat × Bool)) (fl : Bool) (hb : qbq (ps.map (·.1)) < 2147483648) (hpn : ps.length < 2147483648) (R : Res) :
  Spec cfg glK 218 0 [.fz (ps.map YIq) 1 fl] [] R fun w hp nw R' => R' = R /\ w = .arr 32 1 (bN (shaN (ps.map (·.1)))) := by
 refine z0q (fn := Tryz.f218) Y Y Y (Yb rfl) (fun k0 => ?_)
 refine zMq (zrq (znq Y Y (zXq ?_)))
 refine yaq (zMq (zrq (zaq Y Y (znq Y Y (znq Y Y (zXq ?_))))))
 refine yaq (zMq (zrq (zaq Y Y (zXq ?_))))
 refine yaq (zMq (zrq (zaq Y Y (zXq ?_))))
 refine yaq (zMq (zMq (zrq (zaq Y Y (zaq Y Y (zaq Y Y (zXq ?_)))))))
 refine yaq (yrq ?_)
 refine qHq (α := Nat × S8 × Rst) (fun a => a.1 <= ps.length /\ a.2.2.ok /\ (a.2.1, a.2.2.r) = ((ps.map (·.1)).take a.1).foldl xMq (s0, []) /\ a.2.2.r.length < 64) (fun a => [(13, .int .i64 (a.1 : Int)), (12, .int .i64 (ps.length : Int)), (11, .fz (ps.map YIq) 1 fl), (5, .int .u64 (qbq ((ps.map (·.1)).take a.1) : Int)), (4, a.2.2.w), (3, .ptr 1 0), (2, .ptr 0 0)]) (fun a => hpS a.2.2 x4q a.2.1) (fun a => a.2.2.nw) (fun _ => R) (fun a => ps.length - a.1) (0, s0, .nil) ⟨Nat.zero_le _, trivial, rfl, by decide⟩ ?_ (fun a ha => ?_)
 ·exact yqq ⟨rfl, by simp [getW, putW], rfl, rfl, rfl, rfl, rfl, trivial⟩ Y Y
 have hPp : purW (.fz (ps.map YIq) 1 fl) = true := parts_pur ps
 obtain ⟨i, s, r⟩ := a
 obtain ⟨hi, hok, hfold, hr64⟩ := ha
 refine zMq (zrq (zaq Y Y (zXq ?_)))
 refine yaq (zMq ?_)
 refine jAq rfl (fun hc1 => ?_) (fun hc1 => ?_)
 ·simp only at hi hok hfold hr64
  have hi1 : i < ps.length := by have := ltI_iff.1 hc1; simp only at this; omega
  obtain ⟨p, hp⟩ : ∃ p, ps[i]? = some p := ⟨_, List.getElem?_eq_getElem hi1⟩
  have hpw : (ps.map YIq)[i]? = some (.fz (bN p.1) 1 p.2) := by rw [List.getElem?_map, hp]; rfl
  have htk : (ps.map (·.1)).take (i + 1) = (ps.map (·.1)).take i ++ [p.1] := by
   rw [List.take_add_one, List.getElem?_map, hp]; rfl
  have htot : ∀ l r : List (List Nat), qbq (l ++ r) = qbq l + qbq r := fun l r => by
   unfold qbq
   induction l with
   | nil => simp
   | cons x l ih => simp only [List.cons_append, List.map_cons, List.foldr_cons, ih]; omega
  have ht1 : qbq ((ps.map (·.1)).take (i + 1)) = qbq ((ps.map (·.1)).take i) + p.1.length := by rw [htk, htot]; simp [qbq]
  have htle : qbq ((ps.map (·.1)).take (i + 1)) <= qbq (ps.map (·.1)) := by
   have := htot ((ps.map (·.1)).take (i + 1)) ((ps.map (·.1)).drop (i + 1))
   rw [List.take_append_drop] at this; omega
  have hpl : p.1.length < 2147483648 := by omega
  refine qwq (yaq (zMq (yrq (zMq (zrq (zaq rfl (zBq (i := i) Y Y Y Y Y Y Y hpw) (znq Y Y (zaq Y Y (zXq ?_)))))))))
  refine yaq (zMq (zrq (zaq Y Y (zaq Y Y (zqq Y Y (show _ = W.int .i64 (p.1.length : Int) by first | rfl | (simp [kbq]; done) | (simp [kbq]; rfl)) ?_)))))
  refine ziq (p.1.length) Y Y (by first | rfl | omega) ⟨by omega, by omega⟩ ?_
  refine ziq (qbq ((ps.map (·.1)).take i) + p.1.length) Y Y (by first | rfl | omega) ⟨by omega, by omega⟩ ?_
  refine zaq Y Y (zXq ?_)
  refine yaq ?_
  refine co_cut (α := Rst) (fun r' => r'.ok /\ r'.r = r.r ++ p.1) (fun r' => [(13, .int .i64 (i : Int)), (12, .int .i64 (ps.length : Int)), (11, .fz (ps.map YIq) 1 fl), (5, .int .u64 (qbq ((ps.map (·.1)).take (i + 1)) : Int)), (4, r'.w), (3, .ptr 1 0), (2, .ptr 0 0)]) (fun r' => hpS r' x4q s) (fun r' => r'.nw) ?_ (fun a ha => ?_)
  ·obtain ⟨w, hp', nw', ev, e1, r', e2, e3, e4⟩ := app_r r hok x4q s p.1 p.2 hpl hr64
   refine zrq (zaq Y Y (zaq Y Y (znq rfl (y5q Y Y e1) (zaq Y Y (zXq ?_)))))
   refine ⟨rfl, r', ⟨e2, e3⟩, ?_⟩
   rcases e4 with ⟨rfl, rfl, rfl⟩ | ⟨all, rfl, rfl, rfl, rfl⟩
   ·exact yqq ⟨rfl, rfl, rfl, by rw [ht1]; rfl, rfl, rfl, rfl, trivial⟩ Y Y
   ·refine qiq (b := 2) (k := 3) (by omega) (by omega) (by omega) ⟨⟨rfl, rfl⟩, ⟨rfl, rfl⟩, ⟨by rw [zlq hPp]; rfl, zfq hPp⟩, ⟨by rw [ht1]; rfl, rfl⟩, ⟨rfl, rfl⟩, ⟨rfl, rfl⟩, ⟨rfl, rfl⟩, trivial⟩ ⟨⟨by omega, by rw [zlq (show purW (.arr all.length 1 (bN all)) = true from v5q _)]; rfl, zfq (show purW (.arr all.length 1 (bN all)) = true from v5q _)⟩, ⟨by omega, rfl, rfl⟩, ⟨by omega, rfl, rfl⟩, trivial⟩ (by simp [hpS, Rst.hp])
  obtain ⟨hak, har⟩ := ha
  have hstep : (ps.map (·.1)).take (i + 1) = (ps.map (·.1)).take i ++ [p.1] := htk
  have hnext : ((ps.map (·.1)).take (i + 1)).foldl xMq (s0, []) = xMq (s, r.r) p.1 := by rw [hstep, List.foldl_append, <- hfold]; rfl
  refine yrq ?_
  refine qHq (α := S8 × Rst) (fun b => b.2.ok /\ eats b.1 b.2.r = xMq (s, r.r) p.1) (fun b => [(13, .int .i64 (i : Int)), (12, .int .i64 (ps.length : Int)), (11, .fz (ps.map YIq) 1 fl), (5, .int .u64 (qbq ((ps.map (·.1)).take (i + 1)) : Int)), (4, b.2.w), (3, .ptr 1 0), (2, .ptr 0 0)]) (fun b => hpS b.2 x4q b.1) (fun b => b.2.nw) (fun _ => R) (fun b => b.2.r.length) (s, a) ⟨hak, by simp only [xMq, har]⟩ (Ent.refl) (fun b hb => ?_)
  obtain ⟨s', r'⟩ := b
  obtain ⟨hok', heat⟩ := hb
  simp only at hok' heat
  have done : r'.r.length < 64 -> (s', r'.r) = ((ps.map (·.1)).take (i + 1)).foldl xMq (s0, []) := fun h => by
   rw [hnext, <- heat, eats, jSq _ _ _ h]
  skip
  cases r' with
  | nil =>
   refine zMq (zMq (zrq (zaq Y Y (zaq Y Y (zaq Y Y (zXq ?_))))))
   refine yaq (co_false rfl (jMq ?_))
   refine xiq (by intro h; cases h) ?_
   refine qAq (by intro h; cases h) ?_
   refine Zbq (jnq (by intro i h; cases h) ?_)
   refine yaq (zrq (ziq (i + 1) Y Y (by first | rfl | omega) ⟨by omega, by omega⟩ ?_))
   refine zaq Y Y (zXq ?_)
   refine yDq (i + 1, s', .nil) ⟨hi1, trivial, done (by show 0 < 64; omega), (by show 0 < 64; omega)⟩ (by simp only; omega) (yqq ⟨rfl, rfl, rfl, rfl, rfl, rfl, rfl, trivial⟩ Y Y)
  | sl all base off =>
   obtain ⟨ho1, ho2⟩ := hok'
   have hrl : (Rst.sl all base off).r.length = all.length - off := by simp [Rst.r]
   refine zMq (zMq (zrq (zaq Y Y (zqq Y Y (show _ = W.int .i64 ((all.length - off : Nat) : Int) by first | rfl | (simp [kbq]; done) | (simp [kbq]; rfl)) ?_))))
   refine zaq Y Y (zXq ?_)
   refine yaq ?_
   refine jAq rfl (fun hc2 => ?_) (fun hc2 => ?_)
   ·have h64 : 64 <= all.length - off := by
     have := hc2
     simp only [Bool.not_eq_true'] at this
     have := ltI_not.1 this
     omega
    have hpa : purW (.arr all.length 1 (bN all)) = true := v5q all
    have hby : ∀ k, k < 64 -> ypq 50 (.arr all.length 1 (bN all)) (off + 0 * 1 + k * 1) 1 false = some (.int .u8 (.ofNat (atL (all.drop off) k))) := fun k hk => by
     have := bN_at (l := all) (i := off + k) (by omega)
     refine yUq ?_ rfl
     rw [Nat.zero_mul, Nat.add_zero, Nat.mul_one, this]
     simp [atL, List.getD, List.getElem?_drop]
    have hr' : (Rst.sl all off (off + 64)).r = ((Rst.sl all base off).r).drop 64 := by simp [Rst.r]
    refine qwq (yaq (zMq (yrq (zrq (zaq Y Y (zaq rfl (cut_hi (h := 64) Y Y Y Y Y Y Y h64) ?_))))))
    (refine zzq rfl (yOq (ext := [1, 2]) (ws := [.ptr 0 0, .sl 1 base (off + 0 * 1) (64 - 0) 1 none]) Y Y Y Y Y (fun R => block_s s' (atL (all.drop off)) (.arr all.length 1 (bN all)) base _ none 5 (zfq hpa) hby R) (by decide) (by intro b hb; simp only [List.mem_cons, List.not_mem_nil, or_false] at hb; show b < 3; omega) (by simp) (ZXq rfl (by rw [zlq hpa]; rfl) rfl (zfq hpa)) Y ?_); rintro w hp1 nw1 ⟨rfl, rfl, rfl⟩)
    refine zXq ?_
    refine jnq (by intro i h; cases h) ?_
    refine yaq (zrq (zaq Y Y (zaq rfl (cut_lo (l := 64) Y Y Y Y Y Y Y h64 rfl) (zaq Y Y (zXq ?_)))))
    refine yDq (jqq (atL (all.drop off)) s', .sl all off (off + 64)) ⟨⟨by omega, ho2⟩, ?_⟩ (by simp only [hr']; simp only [hrl, List.length_drop]; omega) (qpq (by omega) (Nat.le_refl _) ⟨rfl, rfl, rfl, rfl, ?_, rfl, rfl, trivial⟩ (by simp only [List.all_cons, List.all_nil, zfq hPp, Bool.and_true]; rfl) (qgq ⟨⟨by show 2 < 3; omega, by show some (5, renW _ (W.arr all.length 1 (bN all))) = _; rw [zlq hpa], zfq hpa⟩, ⟨by show 1 < 3; omega, rfl, rfl⟩, ⟨by show 0 < 3; omega, rfl, rfl⟩, trivial⟩) (by simp [hpS, Rst.hp]))
    ·rw [hr', <- heat]
     exact (Ycq (r := (Rst.sl all base off).r) (by rw [hrl]; exact h64)).symm
    ·show some (W.sl 2 off (off + 64 * 1) (all.length - off - 64) 1 (qVq 64 none)) = some (W.sl 2 off (off + 64) (all.length - (off + 64)) 1 none)
     rw [Nat.sub_sub]; rfl
   ·have h64 : all.length - off < 64 := by
     have := hc2
     simp only [Bool.not_eq_false'] at this
     have := ltI_iff.1 this
     omega
    refine jMq ?_
    refine xiq (by intro h; cases h) ?_
    refine qAq (by intro h; cases h) ?_
    refine Zbq (jnq (by intro i h; cases h) ?_)
    refine yaq (zrq (ziq (i + 1) Y Y (by first | rfl | omega) ⟨by omega, by omega⟩ ?_))
    refine zaq Y Y (zXq ?_)
    refine yDq (i + 1, s', .sl all base off) ⟨hi1, ⟨ho1, ho2⟩, done (by rw [hrl]; exact h64), by simp only [hrl]; exact h64⟩ (by simp only; omega) (yqq ⟨rfl, rfl, rfl, rfl, rfl, rfl, rfl, trivial⟩ Y Y)
 ·simp only at hi hok hfold hr64
  obtain rfl : i = ps.length := by have := ltI_not.1 hc1; simp only at this; omega
  rw [show (ps.map (·.1)).take ps.length = ps.map (·.1) by rw [List.take_of_length_le (by simp)]] at hfold
  have hT : (ps.map (·.1)).take ps.length = ps.map (·.1) := by rw [List.take_of_length_le (by simp)]
  have hdt : ∀ (all : List Nat) (off : Nat), ((bN all).drop off).take (all.length - off) = bN (all.drop off) := fun all off => by
   rw [List.take_of_length_le (by simp [kbq])]; simp [bN, List.map_drop]
  have bapp : ∀ a b : List Nat, bN a ++ bN b = bN (a ++ b) := fun a b => by simp [bN]
  have apur : ∀ all : List Nat, purW (.arr all.length 1 (bN all)) = true := fun all => v5q all
  refine jMq ?_
  refine xiq (by intro h; cases h) ?_
  refine qAq (by intro h; cases h) ?_
  refine Zbq (yaq ?_)
  refine co_cut (α := Unit) (fun _ => True) (fun _ => [(5, .int .u64 (qbq (ps.map (·.1)) : Int)), (4, .sl 2 0 0 (r.r ++ [128]).length 1 none), (3, .ptr 1 0), (2, .ptr 0 0)]) (fun _ => hpS (.sl (r.r ++ [128]) 0 0) x4q s) (fun _ => 3) ?_ (fun a ha => ?_)
  ·skip
   cases r with
   | nil =>
    refine zrq (zaq Y Y (znq Y Y (znq rfl (y5q Y Y (xKq (news := bN [128]) (k := ti5) Y Y Y Y Y (by simp [bN]) (by decide) (by decide))) ?_)))
    refine zaq Y Y (zXq ?_)
    refine ⟨rfl, (), trivial, ?_⟩
    exact qiq (b := 2) (k := 3) (by omega) (by omega) (by show 3 < 4; omega) ⟨⟨by show some (W.int .u64 ((qbq ((ps.map (·.1)).take ps.length) : Nat) : Int)) = _; rw [hT]; rfl, rfl⟩, ⟨rfl, rfl⟩, ⟨rfl, rfl⟩, ⟨rfl, rfl⟩, trivial⟩ ⟨⟨by omega, rfl, rfl⟩, ⟨by omega, rfl, rfl⟩, ⟨by omega, rfl, rfl⟩, trivial⟩ (by simp [hpS, Rst.hp])
   | sl all base off =>
    obtain ⟨ho1, ho2⟩ := hok
    simp only [Rst.r, List.length_drop] at hr64
    have hle : ((Rst.sl all base off).r ++ [128]).length = all.length - off + 1 := by simp [Rst.r]
    refine zrq (zaq Y Y (znq Y Y (znq rfl (y5q Y Y (qOq (news := bN [128]) (k := ti5) (v := .arr all.length 1 (bN all)) (off := off) Y Y Y Y Y (by simp [bN]) (show (all.length - off + 1) * 1 <= 140737488355328 by omega) (show all.length - off + 1 <= 70368744177664 by omega) rfl (show all.length < off + (all.length - off + 1) * 1 by omega) rfl (uLq (by omega)))) ?_)))
    refine zaq Y Y (zXq ?_)
    refine ⟨rfl, (), trivial, ?_⟩
    refine qiq (b := 2) (k := 4) (by omega) (by omega) (by show 4 < 5; omega) ⟨⟨by show some (W.int .u64 ((qbq ((ps.map (·.1)).take ps.length) : Nat) : Int)) = _; rw [hT]; rfl, rfl⟩, ⟨?_, rfl⟩, ⟨rfl, rfl⟩, ⟨rfl, rfl⟩, trivial⟩ ⟨⟨by omega, ?_, zfq (apur _)⟩, ⟨by omega, rfl, rfl⟩, ⟨by omega, rfl, rfl⟩, trivial⟩ (by simp [hpS, Rst.hp])
    ·rw [hle]; rfl
    ·rw [zlq (apur _), hle, <- bapp]
     show some (5, W.arr ((all.length - off + 1) * 1) 1 (((bN all).drop off).take (all.length - off) ++ bN [128])) = _
     rw [hdt, Nat.mul_one]; rfl
  -- noughts
  have htm : ∀ n : Nat, ((n : Int)).tmod 64 = ((n % 64 : Nat) : Int) := fun n => by rw [Int.tmod_eq_emod_of_nonneg (by omega)]; omega
  have hA0 : (r.r ++ [128]).length <= 64 := by simp; omega
  generalize hA : r.r ++ [128] = A at *
  refine zMq (yrq ?_)
  refine qHq (α := Nat) (fun j => ∀ i, i < j -> (A.length + i) % 64 ≠ 56) (fun j => [(5, .int .u64 (qbq (ps.map (·.1)) : Int)), (4, .sl 2 0 0 (A ++ List.replicate j 0).length 1 none), (3, .ptr 1 0), (2, .ptr 0 0)]) (fun j => hpS (.sl (A ++ List.replicate j 0) 0 0) x4q s) (fun _ => 3) (fun _ => R) (fun j => 64 - j) 0 (fun i hi => absurd hi (by omega)) (by rw [List.replicate_zero, List.append_nil]; exact Ent.refl) (fun j hj => ?_)
  have hj64 : j < 64 := by
   refine Nat.lt_of_not_le fun h => ?_
   have := hj ((56 + 64 - A.length % 64) % 64) (by omega)
   omega
  have hlj : (A ++ List.replicate j 0).length = A.length + j := by simp
  refine zMq (zMq (zrq (zaq Y Y (zqq Y Y (show _ = W.int .i64 ((A ++ List.replicate j 0).length : Int) by first | rfl | (simp [kbq]; done) | (simp [kbq]; rfl)) ?_))))
  refine zqq Y Y (congrArg (W.int .i64) (htm _)) (zaq Y Y (zXq ?_))
  refine yaq ?_
  refine jAq rfl (fun hc3 => ?_) (fun hc3 => ?_)
  ·have hne : (A.length + j) % 64 ≠ 56 := by
    have := hc3
    simp only [Bool.not_eq_true'] at this
    have := eqI_not.1 this
    rw [hlj] at this; omega
   refine qwq (yaq (yrq (zrq (zaq Y Y (znq Y Y (znq rfl (y5q Y Y (qOq (news := bN [0]) (k := ti5) (v := .arr (A ++ List.replicate j 0).length 1 (bN (A ++ List.replicate j 0))) (off := 0) Y Y Y Y Y (by simp [bN]) (show ((A ++ List.replicate j 0).length + 1) * 1 <= 140737488355328 by omega) (show (A ++ List.replicate j 0).length + 1 <= 70368744177664 by omega) rfl (show (A ++ List.replicate j 0).length < 0 + ((A ++ List.replicate j 0).length + 1) * 1 by omega) rfl (uLq (by omega)))) ?_))))))
   refine zaq Y Y (zXq ?_)
   refine jnq (by intro i h; cases h) ?_
   have hrep : A ++ List.replicate (j + 1) 0 = (A ++ List.replicate j 0) ++ [0] := by rw [List.append_assoc, <- List.replicate_succ']
   refine yDq (j + 1) (fun i hi => ?_) (by omega) (qiq (b := 2) (k := 4) (by omega) (by omega) (by show 4 < 5; omega) ⟨⟨rfl, rfl⟩, ⟨?_, rfl⟩, ⟨rfl, rfl⟩, ⟨rfl, rfl⟩, trivial⟩ ⟨⟨by omega, ?_, zfq (apur _)⟩, ⟨by omega, rfl, rfl⟩, ⟨by omega, rfl, rfl⟩, trivial⟩ (by simp [hpS, Rst.hp]))
   ·rcases Nat.lt_succ_iff_lt_or_eq.1 hi with h | rfl
    ·exact hj i h
    ·exact hne
   ·rw [hrep]; exact mid1 _ 0
   ·rw [hrep]; exact mid2 _ 0
  ·have he : (A.length + j) % 64 = 56 := by
    have := hc3
    simp only [Bool.not_eq_false'] at this
    have := eqI_iff.1 this
    rw [hlj] at this; omega
   have hpz : padZ 64 A = A ++ List.replicate j 0 := padZ_spec 64 j A hj he (by omega)
   rw [<- hpz]
   have hBl : (padZ 64 A).length < 200 := by rw [hpz, hlj]; omega
   have hB64 : (padZ 64 A).length % 64 = 56 := by rw [hpz, hlj]; exact he
   generalize hB : padZ 64 A = B at hBl hB64
   refine jMq ?_
   refine xiq (by intro h; cases h) ?_
   refine qAq (by intro h; cases h) ?_
   refine Zbq (yaq (zMq (zMq (zrq (zaq Y Y (zXq ?_))))))
   refine yaq (yrq ?_)
   have h8 : ∀ k, k <= 8 -> ((len8 (qbq (ps.map (·.1)))).take k).length = k := fun k hk => by simp [len8]; omega
   refine qHq (α := Nat) (fun k => k <= 8) (fun k => [(8, .int .i64 (56 - 8 * (k : Int))), (5, .int .u64 (qbq (ps.map (·.1)) : Int)), (4, .sl 2 0 0 (B ++ (len8 (qbq (ps.map (·.1)))).take k).length 1 none), (3, .ptr 1 0), (2, .ptr 0 0)]) (fun k => hpS (.sl (B ++ (len8 (qbq (ps.map (·.1)))).take k) 0 0) x4q s) (fun _ => 3) (fun _ => R) (fun k => 8 - k) 0 (Nat.zero_le _) (by rw [List.take_zero, List.append_nil]; exact yqq ⟨rfl, rfl, rfl, rfl, rfl, trivial⟩ Y Y) (fun k hk => ?_)
   refine zMq (zMq (zrq (zaq Y Y (zaq Y Y (zXq ?_)))))
   refine yaq ?_
   refine jAq rfl (fun hc4 => ?_) (fun hc4 => ?_)
   ·have hk8 : k < 8 := by
     have := hc4
     simp only [Bool.not_eq_true'] at this
     have := ltI_not.1 this
     omega
    have hLk := h8 k hk
    have hll : (B ++ (len8 (qbq (ps.map (·.1)))).take k).length = B.length + k := by rw [List.length_append, hLk]
    have hnx : B ++ (len8 (qbq (ps.map (·.1)))).take (k + 1) = (B ++ (len8 (qbq (ps.map (·.1)))).take k) ++ [Nat.shiftRight (8 * qbq (ps.map (·.1)) % 18446744073709551616) (min (56 - 8 * k) 64) % 256] := by
     rw [List.take_add_one, <- List.append_assoc]
     congr 1
     have hq : k = 0 \/ k = 1 \/ k = 2 \/ k = 3 \/ k = 4 \/ k = 5 \/ k = 6 \/ k = 7 := by omega
     rcases hq with rfl | rfl | rfl | rfl | rfl | rfl | rfl | rfl <;> rfl
    have hw8 : kdq .i64 (56 - 8 * (k : Int) - 8) = 56 - 8 * (k : Int) - 8 := uFq (k := .i64) ⟨by omega, by omega⟩
    refine qwq (yaq (zMq (yrq (zrq (zaq Y Y (zaq Y Y (zaq Y Y (zqq Y Y (show W.int .i64 (56 - 8 * (k : Int)) = W.int .i64 ((56 - 8 * k : Nat) : Int) by congr 1; omega) ?_))))))))
    refine zaq Y Y (zaq Y Y (znq Y Y (znq rfl (y5q Y Y (qOq (news := bN [Nat.shiftRight (8 * qbq (ps.map (·.1)) % 18446744073709551616) (min (56 - 8 * k) 64) % 256]) (k := ti5) (v := .arr (B ++ (len8 (qbq (ps.map (·.1)))).take k).length 1 (bN (B ++ (len8 (qbq (ps.map (·.1)))).take k))) (off := 0) Y Y Y Y Y (by simp [bN]) (show ((B ++ (len8 (qbq (ps.map (·.1)))).take k).length + 1) * 1 <= 140737488355328 by omega) (show (B ++ (len8 (qbq (ps.map (·.1)))).take k).length + 1 <= 70368744177664 by omega) rfl (show (B ++ (len8 (qbq (ps.map (·.1)))).take k).length < 0 + ((B ++ (len8 (qbq (ps.map (·.1)))).take k).length + 1) * 1 by omega) rfl (uLq (by omega)))) ?_)))
    refine zaq Y Y (zXq ?_)
    refine jnq (by intro i h; cases h) ?_
    refine yaq (zrq (zaq Y Y (zqq (w := W.int .i64 (kdq .i64 (56 - 8 * (k : Int) - 8))) Y Y (show _ = W.int .i64 (56 - 8 * ((k + 1 : Nat) : Int)) by rw [hw8]; congr 1; omega) ?_)))
    refine zaq Y Y (zXq ?_)
    refine yDq (k + 1) (by omega) (by omega) (qiq (b := 2) (k := 4) (by omega) (by omega) (by show 4 < 5; omega) ⟨⟨rfl, rfl⟩, ⟨rfl, rfl⟩, ⟨?_, rfl⟩, ⟨rfl, rfl⟩, ⟨rfl, rfl⟩, trivial⟩ ⟨⟨by omega, ?_, zfq (apur _)⟩, ⟨by omega, rfl, rfl⟩, ⟨by omega, rfl, rfl⟩, trivial⟩ (by simp [hpS, Rst.hp]))
    ·rw [hnx]; exact mid1 _ _
    ·rw [hnx]; exact mid2 _ _
   ·obtain rfl : k = 8 := by
     have := hc4
     simp only [Bool.not_eq_false'] at this
     have := ltI_iff.1 this
     omega
    have ht8 : (len8 (qbq (ps.map (·.1)))).take 8 = len8 (qbq (ps.map (·.1))) := rfl
    rw [ht8]
    have hMl : (B ++ len8 (qbq (ps.map (·.1)))).length = B.length + 8 := by simp [len8]
    have hsha : shaN (ps.map (·.1)) = digN (qWq (B ++ len8 (qbq (ps.map (·.1)))).length s (B ++ len8 (qbq (ps.map (·.1))))) := by
     simp only [shaN, <- hfold, hA, hB]
    generalize hM : B ++ len8 (qbq (ps.map (·.1))) = M at hMl hsha
    refine jMq ?_
    refine xiq (by intro h; cases h) ?_
    refine qAq (by intro h; cases h) ?_
    refine Zbq (yaq (zMq (yrq ?_)))
    refine qHq (α := S8 × Nat × Nat) (fun b => b.2.2 <= M.length /\ (M.length - b.2.2) % 64 = 0 /\ qWq M.length s M = qWq (M.drop b.2.2).length b.1 (M.drop b.2.2)) (fun b => [(4, .sl 2 b.2.1 b.2.2 (M.length - b.2.2) 1 none), (3, .ptr 1 0), (2, .ptr 0 0)]) (fun b => hpS (.sl M b.2.1 b.2.2) x4q b.1) (fun _ => 3) (fun _ => R) (fun b => M.length - b.2.2) (s, 0, 0) ⟨Nat.zero_le _, by show (M.length - 0) % 64 = 0; omega, rfl⟩ (yqq ⟨rfl, rfl, rfl, trivial⟩ Y Y) (fun b hb5 => ?_)
    obtain ⟨s', base, off⟩ := b
    obtain ⟨ho, hmod, heat⟩ := hb5
    simp only at ho hmod heat
    refine zMq (zMq (zrq (zaq Y Y (zqq Y Y (show _ = W.int .i64 ((M.length - off : Nat) : Int) by first | rfl | (simp [kbq]; done) | (simp [kbq]; rfl)) ?_))))
    refine zaq Y Y (zXq ?_)
    refine yaq ?_
    refine jAq rfl (fun hc5 => ?_) (fun hc5 => ?_)
    ·have h1 : 1 <= M.length - off := by have := ltI_iff.1 hc5; omega
     have h64 : 64 <= M.length - off := by omega
     have hpa : purW (.arr M.length 1 (bN M)) = true := v5q M
     have hby : ∀ k, k < 64 -> ypq 50 (.arr M.length 1 (bN M)) (off + 0 * 1 + k * 1) 1 false = some (.int .u8 (.ofNat (atL (M.drop off) k))) := fun k hk => by
      have := bN_at (l := M) (i := off + k) (by omega)
      refine yUq ?_ rfl
      rw [Nat.zero_mul, Nat.add_zero, Nat.mul_one, this]
      simp [atL, List.getD, List.getElem?_drop]
     refine qwq (yaq (zMq (yrq (zrq (zaq Y Y (zaq rfl (cut_hi (h := 64) Y Y Y Y Y Y Y h64) ?_))))))
     (refine zzq rfl (yOq (ext := [1, 2]) (ws := [.ptr 0 0, .sl 1 base (off + 0 * 1) (64 - 0) 1 none]) Y Y Y Y Y (fun R => block_s s' (atL (M.drop off)) (.arr M.length 1 (bN M)) base _ none 5 (zfq hpa) hby R) (by decide) (by intro b hb; simp only [List.mem_cons, List.not_mem_nil, or_false] at hb; show b < 3; omega) (by simp) (ZXq rfl (by rw [zlq hpa]; rfl) rfl (zfq hpa)) Y ?_); rintro w hp1 nw1 ⟨rfl, rfl, rfl⟩)
     refine zXq ?_
     refine jnq (by intro i h; cases h) ?_
     refine yaq (zrq (zaq Y Y (zaq rfl (cut_lo (l := 64) Y Y Y Y Y Y Y h64 rfl) (zaq Y Y (zXq ?_)))))
     refine yDq (jqq (atL (M.drop off)) s', off, off + 64) ⟨by simp only; omega, by simp only; omega, ?_⟩ (by simp only; omega) (qpq (by omega) (Nat.le_refl _) ⟨?_, rfl, rfl, trivial⟩ rfl (qgq ⟨⟨by omega, by show some (5, renW _ (W.arr M.length 1 (bN M))) = _; rw [zlq hpa], zfq hpa⟩, ⟨by omega, rfl, rfl⟩, ⟨by omega, rfl, rfl⟩, trivial⟩) (by simp [hpS, Rst.hp]))
     ·rw [heat, uxq (by simp; omega), List.drop_drop]
     ·show some (W.sl 2 off (off + 64 * 1) (M.length - off - 64) 1 (qVq 64 none)) = some (W.sl 2 off (off + 64) (M.length - (off + 64)) 1 none)
      rw [Nat.sub_sub]; rfl
    ·have h0 : M.length - off = 0 := by have := ltI_not.1 hc5; omega
     have hend : qWq M.length s M = s' := by
      rw [heat, List.drop_of_length_le (by omega)]; rfl
     rw [hend] at hsha
     refine jMq ?_
     refine xiq (by intro h; cases h) ?_
     refine qAq (by intro h; cases h) ?_
     refine Zbq (yaq (zMq (zMq (zrq (zaq Y Y (zXq ?_))))))
     refine yaq (yrq ?_)
     have htd4 : ∀ n : Nat, ((n : Int)).tdiv 4 = ((n / 4 : Nat) : Int) := fun n => by rw [Int.tdiv_eq_ediv_of_nonneg (by omega)]; omega
     have htm4 : ∀ n : Nat, ((n : Int)).tmod 4 = ((n % 4 : Nat) : Int) := fun n => by rw [Int.tmod_eq_emod_of_nonneg (by omega)]; omega
     refine qHq (α := Nat) (fun i => i <= 32) (fun i => [(64, .int .i64 (i : Int)), (3, .ptr 1 0), (2, .ptr 0 0)]) (fun i => hpS (.sl M base off) (.arr 32 1 (bN (dI s' i))) s') (fun _ => 3) (fun _ => R) (fun i => 32 - i) 0 (Nat.zero_le _) (yqq ⟨rfl, rfl, rfl, trivial⟩ Y Y) (fun i hi => ?_)
     refine zMq (zrq (zaq Y Y (zXq ?_)))
     refine yaq (zMq ?_)
     refine jAq rfl (fun hc6 => ?_) (fun hc6 => ?_)
     ·have hi32 : i < 32 := by have := ltI_iff.1 hc6; omega
      refine qwq (yaq (zMq (yrq (zMq (zrq (zaq Y Y (zaq Y Y (zXq ?_))))))))
      refine yaq (zrq (zaq Y Y (zaq Y Y (ziq (i / 4) Y Y (htd4 i) ⟨by omega, by omega⟩ ?_))))
      refine zaq rfl (zpq (i := i / 4) Y Y Y Y Y Y (by omega)) ?_
      refine znq rfl (ykq Y Y Y (yUq (S8_at s' (by omega)) rfl)) ?_
      refine zaq Y Y (zqq Y Y (congrArg (W.int .i64) (htm4 i)) (ziq (8 * (i % 4)) Y Y (by first | rfl | omega) ⟨by omega, by omega⟩ ?_))
      refine ziq (24 - 8 * (i % 4)) Y Y (by first | rfl | omega) ⟨by omega, by omega⟩ ?_
      refine zaq Y Y (zaq Y Y (zaq rfl (zpq (i := i) Y Y Y Y Y Y (by omega)) ?_))
      refine znq rfl (jOq Y Y Y Y Y (qzq (dI_at s' hi32) Y Y) rfl) (zXq ?_)
      refine jnq (by intro i h; cases h) ?_
      refine yaq (zrq ?_)
      first | refine ytq Y Y ⟨by omega, by omega⟩ ?_ | refine zaq Y Y ?_
      refine zaq Y Y (zXq ?_)
      refine yDq (i + 1) (by omega) (by omega) (yqq ⟨rfl, rfl, rfl, trivial⟩ ?_ rfl)
      exact congrArg (fun L => hpS (.sl M base off) (.arr 32 1 L) s') (dI_set s' hi32)
     ·obtain rfl : i = 32 := by have := ltI_not.1 hc6; omega
      refine jMq ?_
      refine xiq (by intro h; cases h) ?_
      refine qAq (by intro h; cases h) ?_
      refine Zbq (yaq (zMq (zrq (znq Y Y (znq Y Y (zXq ?_))))))
      refine yaq (co_ret ?_)
      refine fin (.inr rfl) Ent.refl rfl ⟨rfl, ?_⟩
      rw [hsha]
      have : dI s' 32 = digN s' := by simp [dI, List.take_of_length_le, vaq]
      rw [<- this]
end
mutual
theorem ZGq {τ : Nat -> Nat} {b : Nat} (h : ∀ i, i < b -> τ i = i) : ∀ {w : W}, refB b w = true -> renW τ w = w
 | .ptr c o, hw => by simp only [renW]; rw [h c (of_decide_eq_true hw)]
 | .sl c _ _ _ _ _, hw => by simp only [renW]; rw [h c (of_decide_eq_true hw)]
 | .fz l _ _, hw => by simp only [renW]; rw [kSq h (l := l) hw]
 | .fel x, hw => by simp only [renW]; rw [ZGq h (w := x) hw]
 | .fn _ a c, hw => by
  simp only [refB, Bool.and_eq_true] at hw
  simp only [renW]; rw [kSq h (l := a) hw.1, kSq h (l := c) hw.2]
 | .iface _ v, hw => by simp only [renW]; rw [ZGq h (w := v) hw]
 | .agg _ l, hw => by simp only [renW]; rw [kSq h (l := l) hw]
 | .arr _ _ l, hw => by simp only [renW]; rw [kSq h (l := l) hw]
 | .tup l, hw => by simp only [renW]; rw [kSq h (l := l) hw]
 | .undef, _ => rfl
 | .bool _, _ => rfl
 | .int _ _, _ => rfl
 | .str _, _ => rfl
 | .nilp, _ => rfl
 | .nils, _ => rfl
 | .nilm, _ => rfl
 | .yield _, _ => rfl
 | .nilf, _ => rfl
 | .nili, _ => rfl
theorem kSq {τ : Nat -> Nat} {b : Nat} (h : ∀ i, i < b -> τ i = i) : ∀ {l : List W}, refL b l = true -> qlq τ l = l
 | [], _ => rfl
 | w :: l, hw => by
  simp only [refL, Bool.and_eq_true] at hw
  simp only [qlq]; rw [ZGq h (w := w) hw.1, kSq h (l := l) hw.2]
end
mutual
theorem kUq {b c : Nat} (h : b <= c) : ∀ {w : W}, refB b w = true -> refB c w = true
 | .ptr d o, hw => decide_eq_true (Nat.lt_of_lt_of_le (of_decide_eq_true hw) h)
 | .sl d _ _ _ _ _, hw => decide_eq_true (Nat.lt_of_lt_of_le (of_decide_eq_true hw) h)
 | .fz l _ _, hw => j4q h (l := l) hw
 | .fel x, hw => kUq h (w := x) hw
 | .fn _ a d, hw => by
  simp only [refB, Bool.and_eq_true] at hw ⊢
  exact ⟨j4q h hw.1, j4q h hw.2⟩
 | .iface _ v, hw => kUq h (w := v) hw
 | .agg _ l, hw => j4q h (l := l) hw
 | .arr _ _ l, hw => j4q h (l := l) hw
 | .tup l, hw => j4q h (l := l) hw
 | .undef, _ => rfl
 | .bool _, _ => rfl
 | .int _ _, _ => rfl
 | .str _, _ => rfl
 | .nilp, _ => rfl
 | .nils, _ => rfl
 | .nilm, _ => rfl
 | .yield _, _ => rfl
 | .nilf, _ => rfl
 | .nili, _ => rfl
theorem j4q {b c : Nat} (h : b <= c) : ∀ {l : List W}, refL b l = true -> refL c l = true
 | [], _ => rfl
 | w :: l, hw => by
  simp only [refL, Bool.and_eq_true] at hw ⊢
  exact ⟨kUq h hw.1, j4q h hw.2⟩
end
def gW (b e : Nat) : List W -> W
 | [] => .nils
 | x :: r => .sl b 0 0 (x :: r).length e none
def gH (b : Nat) (ty : TypeId) (e : Nat) : List W -> HpW
 | [] => []
 | x :: r => [(b, ty, .arr ((x :: r).length * e) e (x :: r))]
def evG : List W -> EvW
 | [] => .gen
 | _ :: _ => .dirty
theorem evs_G {ops : Array Oper} {i : Nat} {es : List (Nat × EvW)} {l : List W} (h1 : evsW ops i .gen es = true) (h2 : evsW ops i .dirty es = true) : evsW ops i (evG l) es = true := by cases l <;> assumption
theorem QSq {b e : Nat} {l : List W} (h : l ≠ []) : gW b e l = .sl b 0 0 l.length e none := by cases l with
 | nil => exact absurd rfl h
 | cons x r => rfl
theorem QTq {b e : Nat} {ty : TypeId} {l : List W} (h : l ≠ []) : gH b ty e l = [(b, ty, .arr (l.length * e) e l)] := by cases l with
 | nil => exact absurd rfl h
 | cons x r => rfl
section
variable {C : Cfg} {nw : Nat} {ts tx ty : TypeId} {j k : TyI} {x : W} {news l : List W} {b : Nat} {H0 : HpW}
theorem hdel_pre {b : Nat} {x : TypeId × W} : ∀ {P : HpW}, (∀ p ∈ P, p.1 ≠ b) -> hdel (P ++ [(b, x)]) b = P
 | [], _ => by
  show (match Nat.beq b b with | true => [] | false => _) = []
  rw [Nat.beq_refl]
 | (c, y) :: P, h => by
  have hc := h (c, y) (List.mem_cons_self ..)
  have e : Nat.beq c b = false := by
   cases q : Nat.beq c b with
   | true => exact absurd (Nat.eq_of_beq_eq_true q) hc
   | false => rfl
  show (match Nat.beq c b with | true => P ++ [(b, x)] | false => (c, y) :: hdel (P ++ [(b, x)]) b) = _
  rw [e]
  exact congrArg _ (hdel_pre fun p hp => h p (List.mem_cons_of_mem _ hp))
theorem u4q {b : Nat} {x : TypeId × W} : ∀ {P : HpW}, (∀ p ∈ P, p.1 ≠ b) -> hget (P ++ [(b, x)]) b = some x
 | [], _ => by rw [List.nil_append, zCq, if_pos rfl]
 | (c, y) :: P, h => by
  rw [List.cons_append, zCq, if_neg fun e => h (c, y) (List.mem_cons_self ..) e]
  exact u4q fun p hp => h p (List.mem_cons_of_mem _ hp)
theorem Y1q {c : Nat} {y : TypeId × W} {Q : HpW} : ∀ {P : HpW}, hget P c = some y -> hget (P ++ Q) c = some y
 | [], h => by simp [hget] at h
 | (q, z) :: P, h => by
  rw [List.cons_append, zCq]
  rw [zCq] at h
  split at h
  ·rename_i h5; rw [if_pos h5]; exact h
  ·rename_i h5; rw [if_neg h5]; exact Y1q h
theorem xLq (P : HpW) {e : Nat} {hp : HpW} (he : e = k.size) (hj : C.ty ts = some j) (hd : j.d = .slice ty) (hk : C.ty ty = some k) (hz : Nat.beq k.size 0 = false) (hs : srcW C hp tx k.size x = some news) (hn : news ≠ []) (h1 : (l.length + news.length) * k.bytes <= 140737488355328) (h2 : l.length + news.length <= 70368744177664)
  (hg : hp = P ++ gH b ty e l) (hP : ∀ p ∈ P, p.1 ≠ b) :
  appW C hp nw ts tx (gW b e l) x = some (.sl nw 0 0 (l ++ news).length e none, (nw, ty, .arr ((l ++ news).length * e) e (l ++ news)) :: P, nw + 1, evG l) := by
 subst he
 have hk0 : 0 < k.size := by
  rcases Nat.eq_zero_or_pos k.size with h0 | h0
  ·rw [h0] at hz; cases hz
  ·exact h0
 have hnl : 0 < news.length := by cases news with
  | nil => exact absurd rfl hn
  | cons _ _ => simp
 cases l with
 | nil =>
  simp only [List.length_nil, Nat.zero_add] at h1 h2
  rw [show gW b k.size [] = .nils from rfl, xKq hj hd hk hz hs hn h1 h2, hg, show gH b ty k.size [] = [] from rfl, List.append_nil]
  rfl
 | cons y r =>
  have hget : hget hp b = some (ty, .arr ((y :: r).length * k.size) k.size (y :: r)) := by rw [hg]; exact u4q hP
  rw [show gW b k.size (y :: r) = .sl b 0 0 (y :: r).length k.size none from rfl, qOq hj hd hk hz hs hn h1 h2 hget (by
   show (y :: r).length * k.size < 0 + ((y :: r).length + news.length) * k.size
   rw [Nat.zero_add]
   exact Nat.mul_lt_mul_of_pos_right (by omega) hk0) (by rw [Nat.beq_refl]) (zGq hk0 Y Y)]
  rw [hg, show gH b ty k.size (y :: r) = [(b, ty, .arr ((y :: r).length * k.size) k.size (y :: r))] from rfl, hdel_pre hP, List.length_append]
  rfl
theorem app_gr0 {hp : HpW} {e : Nat} (he : e = k.size) (hj : C.ty ts = some j) (hd : j.d = .slice ty) (hk : C.ty ty = some k) (hz : Nat.beq k.size 0 = false) (hs : srcW C hp tx k.size x = some []) : appW C hp nw ts tx (gW b e l) x = some (gW b e l, hp, nw, .gen) := by
 subst he
 cases l with
 | nil => exact Jcq hj hd hk hz hs
 | cons y r => exact vNq hj hd hk hz hs
end
theorem vRq {b e : Nat} {ty : TypeId} {l : List W} {H0 : HpW} (he : 0 < e) (hl : purL l = true) (hP : ∀ p ∈ H0, p.1 ≠ b) : View (blkA (H0 ++ gH b ty e l)) (gW b e l) (.fz l e false) := by
 cases l with
 | nil => exact .nilfz
 | cons y r => exact .sl (c := .arr ((y :: r).length * e) e (y :: r)) (by
   unfold blkA
   rw [show H0 ++ gH b ty e (y :: r) = H0 ++ [(b, ty, .arr ((y :: r).length * e) e (y :: r))] from rfl, u4q hP]) hl (zGq he Y Y) (by intro h; cases h)
theorem view_sl {b e n : Nat} {ty : TypeId} {l : List W} {H0 : HpW} (he : 0 < e) (hn : n = l.length) (hl : purL l = true) : View (blkA ((b, ty, .arr (n * e) e l) :: H0)) (.sl b 0 0 n e none) (.fz l e false) := by
 subst hn
 exact .sl (c := .arr (l.length * e) e l) (by
   unfold blkA
   rw [zCq, if_pos rfl]) hl (zGq he Y Y) (by intro h; cases h)
section
variable {C : Cfg} {G : Nat -> Option W} {m k0 : Nat} {rd : Bool} {fr fr2 : FrW} {hp hp' : HpW} {nw nw' : Nat} {R : Res} {Q : qyq} {c : Code}
theorem ent_up (hf : subF fr fr2) : Ent C G m k0 fr hp nw R fr2 hp (nw + 1) R := fun Γ X st hnw hmn s => by
 let Γ2 : Ctx := ⟨nw + 1, Γ.σ, Γ.D, Γ.h⟩
 have le : Γ.Le Γ2 := ⟨by rw [hnw]; exact Nat.le_succ _, fun _ _ => rfl, fun _ h => h, fun _ _ => rfl⟩
 refine ⟨Γ2, X, rfl, ⟨s.hh, fun t w hw => ?_, ⟨s.sat.wf, fun b ty w hb => ?_, s.sat.inj, s.sat.nd, s.sat.dX, s.sat.xlt, s.sat.dlt, s.sat.res, s.sat.gl⟩, s.ds, s.nd⟩, ⟨fun _ _ => rfl, fun h => Nat.le_trans h le.nw, Nat.le_refl _, fun _ _ _ _ => rfl, fun _ h => h, fun _ h => .inl h, fun b x _ h => ⟨x, h⟩, fun b x hb h => .inr ⟨b, x, hb, h, rfl⟩, fun _ h => .inl h, fun _ h _ _ => h⟩⟩
 ·obtain ⟨v, g3, g4⟩ := s.fr _ _ (Zdq hf t w hw)
  exact ⟨v, g3, g4.mono le⟩
 ·obtain ⟨q1, q2, q3, v, q4, q5⟩ := s.sat.own _ _ _ hb
  exact ⟨Nat.lt_of_lt_of_le q1 le.nw, q2, q3, v, q4, q5.mono le⟩
theorem subR_low {k : Nat} : ∀ {l : FrW}, subF fr l -> refF nw l -> subR (tau1 nw k) (nw + 1) fr l
 | [], _, _ => trivial
 | (t, w) :: l, h, r => ⟨⟨by rw [ZGq (fun i hi => kmq (by omega)) r.1]; exact h.1, kUq (Nat.le_succ _) r.1⟩, subR_low h.2 r.2⟩
theorem subRH_low {k : Nat} : ∀ {l : HpW}, subH hp nw l -> subRH (tau1 nw k) (nw + 1) hp l
 | [], _ => trivial
 | (b, x) :: l, h => ⟨⟨Nat.lt_succ_of_lt h.1.1, by rw [kmq (by have := h.1.1; omega), ZGq (fun i hi => kmq (by omega)) h.1.2.2]; exact h.1.2.1, kUq (Nat.le_succ _) h.1.2.2⟩, subRH_low h.2⟩
theorem Qrq : ∀ {l : HpW}, subH hp nw l -> ∀ p ∈ l, p.1 < nw
 | [], _, p, h => by simp at h
 | (b, x) :: l, h, p, hp => by
  rcases List.mem_cons.1 hp with rfl | hp
  ·exact h.1.1
  ·exact Qrq h.2 p hp
theorem subH_mono : ∀ {l : HpW}, subH hp nw l -> subH hp (nw + 1) l
 | [], _ => trivial
 | (b, x) :: l, h => ⟨⟨Nat.lt_succ_of_lt h.1.1, h.1.2.1, kUq (Nat.le_succ _) h.1.2.2⟩, subH_mono h.2⟩
theorem subRH_app {τ : Nat -> Nat} {n : Nat} {b : HpW} : ∀ {a : HpW}, subRH τ n hp a -> subRH τ n hp b -> subRH τ n hp (a ++ b)
 | [], _, h => h
 | _ :: _, h, h2 => ⟨h.1, subRH_app h.2 h2⟩
theorem subH_app {n : Nat} {b : HpW} : ∀ {a : HpW}, subH hp n a -> subH hp n b -> subH hp n (a ++ b)
 | [], _, h => h
 | _ :: _, h, h2 => ⟨h.1, subH_app h.2 h2⟩
theorem nodup_g {H0 : HpW} {b e : Nat} {ty : TypeId} {l2 : List W} (hh : ∀ p ∈ H0, p.1 < b) (nd : (H0.map (·.1)).Nodup) : ((H0 ++ gH b ty e l2).map (·.1)).Nodup := by
 cases l2 with
 | nil => rw [show gH b ty e [] = [] from rfl, List.append_nil]; exact nd
 | cons x r =>
  rw [show gH b ty e (x :: r) = [(b, ty, .arr ((x :: r).length * e) e (x :: r))] from rfl, List.map_append, List.nodup_append]
  refine ⟨nd, by simp, fun a ha c hc q => ?_⟩
  obtain ⟨p, h1, h2⟩ := List.mem_map.1 ha
  have := hh p h1
  simp only [List.map_cons, List.map_nil, List.mem_cons, List.not_mem_nil, or_false] at hc
  omega
theorem Q9q {α : Type} (I : α -> Prop) (s : Nat) (L : α -> List W) (ty : TypeId) (e : Nat) (V : α -> FrW) (kf : FrW) (H0 : HpW) (μ : α -> Nat) (a0 : α) (hk : subF fr kf) (h0 : I a0) (hv : subF fr (V a0)) (hL : L a0 = []) (hs : getW fr s = some .nils) (hh : hp = H0)
  (step : ∀ a, I a -> CoW C G m k0 rd c ((s, gW nw e (L a)) :: (V a ++ kf)) (H0 ++ gH nw ty e (L a)) (nw + 1) R (xlq C G m k0 I (fun a => (s, gW nw e (L a)) :: (V a ++ kf)) (fun a => H0 ++ gH nw ty e (L a)) (fun _ => nw + 1) (fun _ => R) μ (μ a) Q)) : CoW C G m k0 rd (.loop c) fr hp nw R Q := by
 subst hh
 refine qHq I (fun a => (s, gW nw e (L a)) :: (V a ++ kf)) (fun a => hp ++ gH nw ty e (L a)) (fun _ => nw + 1) (fun _ => R) μ a0 h0 ?_ step
 have := ent_up (C := C) (G := G) (m := m) (k0 := k0) (fr := fr) (fr2 := (s, gW nw e (L a0)) :: (V a0 ++ kf)) (hp := hp) (nw := nw) (R := R) ⟨by rw [hL]; exact hs, qXq hv hk⟩
 rw [hL] at this ⊢
 rw [show gH nw ty e [] = [] from rfl, List.append_nil]
 exact this
theorem jgq {b : Nat} {ty : TypeId} {e : Nat} {H0 : HpW} {l2 : List W} {n : Nat} (k s : Nat) (hm : m <= b) (hk : b <= k) (hk2 : k < nw) (hne : l2 ≠ []) (hs : getW fr s = some (.sl k 0 0 n e none)) (hn : n = l2.length) (hf : subF fr fr2) (hr : refF b fr2) (hg : hget hp k = some (ty, .arr (n * e) e l2)) (hp2 : purL l2 = true) (hh : subH hp b H0) (nd : (H0.map (·.1)).Nodup) :
  Ent C G m k0 fr hp nw R ((s, gW b e l2) :: fr2) (H0 ++ gH b ty e l2) (b + 1) R := by
 subst hn
 have hpa : purW (.arr (l2.length * e) e l2) = true := hp2
 refine qiq (b := b) (k := k) hm hk hk2 ?_ ?_ (nodup_g (Qrq hh) nd)
 ·rw [QSq hne]
  refine ⟨⟨?_, by simp [refB]⟩, subR_low hf hr⟩
  rw [hs]
  simp only [renW, vqq]
 ·rw [QTq hne]
  refine subRH_app (subRH_low hh) ⟨⟨Nat.lt_succ_self _, ?_, zfq hpa⟩, trivial⟩
  rw [vqq, hg, zlq hpa]
def hdAll (ext : List Nat) (nw : Nat) (hp : HpW) : HpW -> Prop
 | [] => True
 | (i, ty, w) :: l => (i < ext.length /\ refB ext.length w = true /\ ∃ b, ext[i]? = some b /\ hget hp b = some (ty, renW (numC ext nw) w)) /\ hdAll ext nw hp l
theorem jwq {ext : List Nat} {nw : Nat} {hp : HpW} : ∀ {l : HpW}, hdAll ext nw hp l -> Handed ext nw l hp
 | [], _ => fun i ty w h => by simp [hget] at h
 | (j, ty', w') :: l, hs => fun i ty w h => by
  rw [zCq] at h
  split at h
  ·rename_i e
   subst e
   cases h
   exact hs.1
  ·exact jwq hs.2 i ty w h
def subVH (blk : Nat -> Option W) (b : Nat) (hp : HpW) : HpW -> Prop
 | [] => True
 | (k, ty, w) :: l => (k ≠ b /\ ∃ w0, hget hp k = some (ty, w0) /\ View blk w0 w) /\ subVH blk b hp l
theorem subVH_get {blk : Nat -> Option W} {b : Nat} : ∀ {l : HpW}, subVH blk b hp l -> ∀ k ty w, hget l k = some (ty, w) -> k ≠ b /\ ∃ w0, hget hp k = some (ty, w0) /\ View blk w0 w
 | [], _, k, ty, w, h => by simp [hget] at h
 | (j, ty', w') :: l, hs, k, ty, w, h => by
  rw [zCq] at h
  split at h
  ·rename_i e
   subst e
   cases h
   exact hs.1
  ·exact subVH_get hs.2 k ty w h
theorem ent_fr1 (b : Nat) (fr2 : FrW) (hp2 : HpW) {ty : TypeId} {c : W} (hb : hget hp b = some (ty, c)) (hc : purW c = true) (hbm : m <= b) (hf : subV (blk1 b c) fr fr2) (hh : subVH (blk1 b c) b hp hp2) (nd : (hp2.map (·.1)).Nodup) : Ent C G m k0 fr hp nw R fr2 hp2 nw R :=
 ent_frz hb hc hbm (Qqq hf) (subVH_get hh) nd
theorem co_loopG1 {α : Type} (I : α -> Prop) (s : Nat) (L : α -> List W) (ty : TypeId) (e : Nat) (V : α -> FrW) (kf : FrW) (H0 : HpW) (b k : Nat) (μ : α -> Nat) (a0 : α) {n : Nat} (hk : subF fr kf) (h0 : I a0) (hv : subF fr (V a0)) (hm : m <= b) (hbk : b <= k) (hkn : k < nw) (hne : L a0 ≠ []) (hs : getW fr s = some (.sl k 0 0 n e none)) (hn : n = (L a0).length)
  (hr : refF b (V a0)) (hr2 : refF b kf) (hg : hget hp k = some (ty, .arr (n * e) e (L a0))) (hp2 : purL (L a0) = true) (hh : subH hp b H0) (nd : (H0.map (·.1)).Nodup)
  (step : ∀ a, I a -> CoW C G m k0 rd c ((s, gW b e (L a)) :: (V a ++ kf)) (H0 ++ gH b ty e (L a)) (b + 1) R (xlq C G m k0 I (fun a => (s, gW b e (L a)) :: (V a ++ kf)) (fun a => H0 ++ gH b ty e (L a)) (fun _ => b + 1) (fun _ => R) μ (μ a) Q)) : CoW C G m k0 rd (.loop c) fr hp nw R Q :=
 qHq I (fun a => (s, gW b e (L a)) :: (V a ++ kf)) (fun a => H0 ++ gH b ty e (L a)) (fun _ => b + 1) (fun _ => R) μ a0 h0 (jgq k s hm hbk hkn hne hs hn (qXq hv hk) (kVq hr hr2) hg hp2 hh nd) step
theorem kWq {α : Type} {I : α -> Prop} {s : Nat} {L : α -> List W} {ty : TypeId} {e : Nat} {V : α -> FrW} {kf : FrW} {H0 : HpW} {μ : α -> Nat} {kk : Nat} {fr' : FrW} {l2 : List W} {n : Nat} (k : Nat) (a : α) (ha : I a) (hμ : μ a < kk) (hm : m <= nw) (hL : L a = l2) (hne : l2 ≠ []) (hk : nw <= k) (hk2 : k < nw') (hs : getW fr' s = some (.sl k 0 0 n e none)) (hn : n = l2.length)
  (hv : subF fr' (V a)) (hkf : subF fr' kf) (hr : refF nw (V a)) (hr2 : refF nw kf) (hg : hget hp' k = some (ty, .arr (n * e) e l2)) (hp2 : purL l2 = true) (hh : subH hp' nw H0) (nd : (H0.map (·.1)).Nodup) :
  xlq C G m k0 I (fun a => (s, gW nw e (L a)) :: (V a ++ kf)) (fun a => H0 ++ gH nw ty e (L a)) (fun _ => nw + 1) (fun _ => R) μ kk Q .normal fr' hp' nw' R := by
 subst hL
 exact yDq a ha hμ (jgq k s hm hk hk2 hne hs hn (qXq hv hkf) (kVq hr hr2) hg hp2 hh nd)
theorem refF_up : ∀ {q : FrW}, refF nw q -> refF (nw + 1) q
 | [], _ => trivial
 | _ :: _, h => ⟨kUq (Nat.le_succ _) h.1, refF_up h.2⟩
theorem Zoq {b : Nat} {ty : TypeId} {e : Nat} {H0 : HpW} {l2 : List W} (s : Nat) (hm : m <= b) (hnw : b + 1 <= nw) (hs : getW fr s = some (gW b e l2)) (hf : subF fr fr2) (hr : refF b fr2) (hg : ∀ x r, l2 = x :: r -> hget hp b = some (ty, .arr ((x :: r).length * e) e (x :: r))) (hp2 : purL l2 = true) (hh : subH hp b H0) (nd : (H0.map (·.1)).Nodup) :
  Ent C G m k0 fr hp nw R ((s, gW b e l2) :: fr2) (H0 ++ gH b ty e l2) (b + 1) R := by
 refine qpq (by omega) hnw ⟨hs, hf⟩ ?_ (qgq (subH_app (subH_mono hh) ?_)) (nodup_g (Qrq hh) nd)
 ·refine uQq ⟨?_, refF_up hr⟩
  cases l2 with
  | nil => rfl
  | cons x r => simp [gW, refB]
 ·cases l2 with
  | nil => trivial
  | cons x r =>
   have hpa : purW (.arr ((x :: r).length * e) e (x :: r)) = true := hp2
   exact ⟨⟨Nat.lt_succ_self _, hg x r rfl, zfq hpa⟩, trivial⟩
theorem q_againG0 {α : Type} {I : α -> Prop} {s : Nat} {L : α -> List W} {ty : TypeId} {e : Nat} {V : α -> FrW} {kf : FrW} {H0 : HpW} {μ : α -> Nat} {kk : Nat} {fr' : FrW} {l2 : List W} (a : α) (ha : I a) (hμ : μ a < kk) (hm : m <= nw) (hL : L a = l2) (hs : getW fr' s = some (gW nw e l2))
  (hv : subF fr' (V a)) (hkf : subF fr' kf) (hr : refF nw (V a)) (hr2 : refF nw kf) (hg : hp' = H0 ++ gH nw ty e l2) (hp2 : purL l2 = true) (hh : subH hp' nw H0) (nd : (H0.map (·.1)).Nodup) (hnw : nw + 1 <= nw') :
  xlq C G m k0 I (fun a => (s, gW nw e (L a)) :: (V a ++ kf)) (fun a => H0 ++ gH nw ty e (L a)) (fun _ => nw + 1) (fun _ => R) μ kk Q .normal fr' hp' nw' R := by
 subst hL
 refine yDq a ha hμ (Zoq s hm hnw hs (qXq hv hkf) (kVq hr hr2) (fun x r hq => ?_) hp2 hh nd)
 rw [hg, hq]
 exact u4q fun p hp => by have := Qrq hh p hp; omega
theorem ent_blk {b : Nat} {ty : TypeId} {w w' : W} (hb : hget hp b = some (ty, w)) (he : ∀ Γ v, RV Γ w v -> RV Γ w' v) : Ent C G m k0 fr hp nw R fr (hset hp b (ty, w')) nw R := fun Γ X st h1 _ s => by
 have hold : ∀ {k t u}, hget (hset hp b (ty, w')) k = some (t, u) -> ∃ u0, hget hp k = some (t, u0) /\ ∀ v, RV Γ u0 v -> RV Γ u v := fun {k t u} h => by
  rw [xAq hb] at h
  split at h
  ·rename_i e
   subst e
   cases h
   exact ⟨w, hb, he Γ⟩
  ·exact ⟨u, h, fun _ q => q⟩
 have howns : ∀ {c}, Owns Γ (hset hp b (ty, w')) c -> Owns Γ hp c := fun {c} h => by
  obtain ⟨k, ⟨t, u⟩, h1, h2⟩ := h
  obtain ⟨u0, g, _⟩ := hold h1
  exact ⟨k, _, g, h2⟩
 refine ⟨Γ, X, h1, ⟨s.hh, s.fr, ⟨s.sat.wf, fun k t u h => ?_, fun k k' y z hy hz e => ?_, by rw [ZVq]; exact s.sat.nd, s.sat.dX, s.sat.xlt, s.sat.dlt, s.sat.res, s.sat.gl⟩, fun d hd => ?_, s.nd⟩, ⟨fun _ _ => rfl, fun h => h, Nat.le_refl _, fun _ _ _ _ => rfl, fun _ h => h, fun _ h => .inl h, fun k y _ h => ?_, fun k y hk h => ?_, fun _ h => .inl h, fun _ h _ _ => h⟩⟩
 ·obtain ⟨u0, g1, g2⟩ := hold h
  obtain ⟨q1, q2, q3, v, q4, q5⟩ := s.sat.own k t u0 g1
  exact ⟨q1, q2, q3, v, q4, g2 v q5⟩
 ·obtain ⟨y1, y2⟩ := y
  obtain ⟨z1, z2⟩ := z
  obtain ⟨u0, g1, _⟩ := hold hy
  obtain ⟨u1, g2, _⟩ := hold hz
  exact s.sat.inj k k' _ _ g1 g2 e
 ·obtain ⟨q1, q2, q3, q4, q5⟩ := s.ds d hd
  exact ⟨q1, q2, q3, fun h => q4 (howns h), q5⟩
 ·obtain ⟨y1, y2⟩ := y
  obtain ⟨u0, g1, _⟩ := hold h
  exact ⟨_, g1⟩
 ·obtain ⟨y1, y2⟩ := y
  obtain ⟨u0, g1, _⟩ := hold h
  exact .inr ⟨k, _, hk, g1, rfl⟩
theorem ent_one {b : Nat} {ty : TypeId} {e : Nat} {x : W} (k s : Nat) (hm : m <= b) (hk : b <= k) (hk2 : k < nw) (hs : getW fr s = some (.sl k 0 0 1 e none)) (hg : hget hp k = some (ty, x)) (hxa : x.isAgg = true) (hxs : x.size = e) (hp2 : purW x = true) : Ent C G m k0 fr hp nw R [(s, gW b e [x])] (gH b ty e [x]) (b + 1) R := by
 refine (ent_blk hg (w' := .arr (1 * e) e [x]) fun Γ v hv => ?_).trans (jgq (fr2 := []) (H0 := []) k s hm hk hk2 (by simp) hs rfl trivial trivial (by rw [xAq hg, if_pos rfl]) (by simp only [purL, hp2, Bool.and_self]) trivial List.nodup_nil)
 refine ⟨by rw [<- hv.1, hxa]; rfl, ?_⟩
 have hl := jiq hv.2
 simp only [RS]
 exact ⟨by omega, fun y hy => by simp at hy; rw [hy, hxs], RSL_one hv.2⟩
theorem kxq {o : Oper} {post : W -> HpW -> Nat -> Res -> Option EvW -> Prop} {x : Operand} {xs : Array Operand} {ats : Array TypeId} {f : FuncId} {a us c ws : List W} {Q : W -> HpW -> Nat -> Prop} (ho : o.op = .call ⟨.value x, xs, ats⟩) (hx : evW C G fr x = some (.fn f a c)) (he : C.ext f = none) (hxs : evLW C G fr xs.toList = some us) (hws : a ++ us ++ c = ws) (hpw : purL ws = true) (sp : qkq C G f 0 ws [] Q)
  (hpost : ∀ w hp1 nw1, Q w hp1 nw1 -> post (renW (numC [] nw) w) (renH (numC [] nw) hp1 ++ hp) (nw + nw1) R (some .gen)) : Step C G o fr hp nw R post := fun Γ X frv hnw s hf => by
 subst hnw
 obtain ⟨u, e1, e2⟩ := z6q hf s.gl hx
 obtain ⟨a', c', rfl, e3, e4⟩ := RV_fn.1 e2
 obtain ⟨us', e5, e6⟩ := k5q hf s.gl hxs
 have app : ∀ {l r : List W} {l' r' : List V}, RVL Γ l l' -> RVL Γ r r' -> RVL Γ (l ++ r) (l' ++ r') := fun {l} => by
  induction l with
  | nil => intro r l' r' h1 h2; simp only [RVL] at h1; subst h1; exact h2
  | cons w l ih =>
   intro r l' r' h1 h2
   simp only [RVL] at h1
   obtain ⟨v, vs, rfl, h3, h4⟩ := h1
   simp only [List.cons_append, RVL]
   exact ⟨v, vs ++ r', rfl, h3, ih h4 h2⟩
 have hv := app (app e3 e6) e4
 rw [hws, <- j3q (τ := numC [] Γ.nw) hpw] at hv
 obtain ⟨n, v, Γ', w, hp1, nw1, g1, g2, g3, g4, g5, g6, g7, g8⟩ := call_spec (ext := []) sp s List.nodup_nil (by simp) (by simp) (fun i ty w h => by simp [hget] at h) (zfq (w := .tup ws) hpw) hv
 obtain ⟨k1, k2⟩ := vLq (C := C) ho frv Γ.h
 refine ⟨n, _, _, R, some .gen, v, Γ'.h, Γ', X, by rw [g3]; exact hpost w hp1 nw1 g2, ?_, ⟨k1, fun H1 e1' e2' => ?_⟩, rfl, g4, g5, g6, g7⟩
 ·simp only [opV, k1, k2]
  simp only [ho, jmq, e1, e5, he]
  exact g1
 ·have := g8 rfl e2'
  simp only [EvR, ho, evOf]
  rw [e1', Nat.ble_eq_true_of_le this]
def PL (C : Cfg) (G : Nat -> Option W) (f : FuncId) (ws : List W) (ty : TypeId) (e : Nat) (l : List W) : Prop := qkq C G f 0 ws [] fun w hp nw => w = gW 0 e l /\ hp = gH 0 ty e l /\ nw = 1
theorem PL.ps {C : Cfg} {G : Nat -> Option W} {f : FuncId} {ws : List W} {ty : TypeId} {e : Nat} {l : List W} (h : PL C G f ws ty e l) (he : 0 < e) (hl : purL l = true) : PS C G f ws (.fz l e false) := fun R =>
 Zzq fun Γ X vs h1 s hv => by
  obtain ⟨n, v, Γ', X', w, hp', R', g1, g2, g3, g4, g5, rfl, rfl, g6⟩ := h R Γ X vs h1 s hv
  exact ⟨n, v, Γ', X', _, _, R', g1, g2, g3, g4, g5, vRq (H0 := []) he hl (by simp)⟩
theorem xqq {o : Oper} {post : W -> HpW -> Nat -> Res -> Option EvW -> Prop} {x : Operand} {xs : Array Operand} {ats : Array TypeId} {f : FuncId} {a us c ws : List W} {ty : TypeId} {e : Nat} {l : List W} (ho : o.op = .call ⟨.value x, xs, ats⟩) (hx : evW C G fr x = some (.fn f a c)) (he : C.ext f = none) (hxs : evLW C G fr xs.toList = some us) (hws : a ++ us ++ c = ws) (hpw : purL ws = true) (sp : PL C G f ws ty e l) (hl : purL l = true)
  (hpost : post (gW nw e l) (gH nw ty e l ++ hp) (nw + 1) R (some .gen)) : Step C G o fr hp nw R post := by
 refine kxq ho hx he hxs hws hpw sp ?_
 rintro w hp1 nw1 ⟨rfl, rfl, rfl⟩
 have e1 : renW (numC [] nw) (gW 0 e l) = gW nw e l := by
  cases l with
  | nil => rfl
  | cons x r => simp only [gW, renW]; rfl
 have e2 : renH (numC [] nw) (gH 0 ty e l) = gH nw ty e l := by
  cases l with
  | nil => rfl
  | cons x r =>
   have hpa : purW (.arr ((x :: r).length * e) e (x :: r)) = true := hl
   simp only [gH, renH, zlq hpa]; rfl
 rw [e1, e2]
 exact hpost
variable {ops : Array Oper} {l : List Oper} {K : FrW -> HpW -> Nat -> Res -> Prop} {hp2 : HpW} {nw2 : Nat} {R2 : Res}
theorem xvq (e : ∀ k0, Ent C G m k0 fr hp nw R fr2 hp2 nw2 R2) (h : OpW C G m ops l fr2 hp2 nw2 R2 K) : OpW C G m ops l fr hp nw R K := fun Γ X frv hnw hm s hf => by
 obtain ⟨Γ2, X2, e1, e2, e3⟩ := e 0 Γ X ⟨frv, Γ.h, [], false⟩ hnw hm ⟨rfl, hf, s, by simp, List.nodup_nil⟩
 obtain ⟨n, frv', Γ', X', fr', hp', R', g1, g2, g3, g4, g5⟩ := h Γ2 X2 frv e1 (e1 ▸ e3.mle (hnw ▸ hm)) e2.sat e2.fr
 have hh : Γ.h = Γ2.h := e2.hh
 exact ⟨n, frv', Γ', X', fr', hp', R', by rw [hh]; exact g1, g2, g3, e3.trans g4, g5⟩
theorem op_z {o : Oper} {k : IntKind} {z : Int} (z' : Int) (hw : qBq ops fr o = some true) (hx : y7q C G fr o.op = some (.int k (kdq k z))) (e : z = z') (hz : inK k z') (h : OpW C G m ops l (putW fr o.dst (.int k z')) hp nw R K) : OpW C G m ops (o :: l) fr hp nw R K := by
 subst e; exact ytq hw hx hz h
theorem vzq {o : Oper} {ts tx ty : TypeId} {j k : TyI} {x y : Operand} {u : W} {xs news : List W} {b e d : Nat} {H0 : HpW} (P : HpW) (fr2 : FrW) (he : e = k.size) (hw : qBq ops fr o = some true) (ho : o.op = .call ⟨.builtin .append, #[x, y], #[ts, tx]⟩) (hd0 : o.dst = some d) (hx : evW C G fr x = some (gW b e xs)) (hy : evW C G fr y = some u)
  (hj : C.ty ts = some j) (hd : j.d = .slice ty) (hk : C.ty ty = some k) (hz : Nat.beq k.size 0 = false) (hs : srcW C hp tx k.size u = some news) (h1 : (xs.length + news.length) * k.bytes <= 140737488355328) (h2 : xs.length + news.length <= 70368744177664) (hg : hp = P ++ gH b ty e xs) (hP : ∀ p ∈ P, p.1 ≠ b) (hm : m <= b) (hb : b < nw)
  (hf : subF fr fr2) (hdf : getW fr2 d = none) (hr : refF b fr2) (hpx : purL (xs ++ news) = true) (hh : subH P b H0) (nd : (H0.map (·.1)).Nodup)
  (h : OpW C G m ops l ((d, gW b e (xs ++ news)) :: fr2) (H0 ++ gH b ty e (xs ++ news)) (b + 1) R K) : OpW C G m ops (o :: l) fr hp nw R K := by
 have hput : ∀ w, subF (putW fr o.dst w) fr2 := fun w => by
  rw [hd0]
  have key : ∀ {q : FrW}, subF fr q -> getW q d = none -> subF (putW fr (some d) w) q := fun {q} => by
   induction q with
   | nil => exact fun _ _ => trivial
   | cons p q ih =>
    obtain ⟨t, v⟩ := p
    intro h1 h2
    simp only [getW] at h2
    split at h2
    ·cases h2
    ·rename_i hne
     refine ⟨?_, ih h1.2 h2⟩
     show getW ((d, w) :: fr) t = some v
     have : Nat.beq d t = false := by
      cases hq : Nat.beq d t with
      | false => rfl
      | true =>
       have := Nat.eq_of_beq_eq_true hq
       subst this
       rw [Nat.beq_refl] at hne; cases hne
     simp only [getW, this]
     exact h1.1
  exact key hf hdf
 have front : ∀ {Q : HpW} {q : HpW}, subH P b q -> subH (P ++ Q) b q := fun {Q q} => by
  induction q with
  | nil => exact fun _ => trivial
  | cons p q ih => exact fun h => ⟨⟨h.1.1, Y1q h.1.2.1, h.1.2.2⟩, ih h.2⟩
 cases news with
 | nil =>
  have ha : opHW C G fr hp nw o.op = some (gW b e xs, hp, nw, .gen) := by rw [ho]; exact y5q hx hy (app_gr0 he hj hd hk hz hs)
  refine znq hw ha ?_
  rw [List.append_nil] at h hpx
  refine xvq (fun k0 => Zoq (b := b) (l2 := xs) d hm (by omega) (by rw [hd0]; show getW ((d, gW b e xs) :: fr) d = _; simp [getW]) (hput _) hr (fun x r hq => ?_) hpx (by rw [hg]; exact front hh) nd) h
  rw [hg, hq]
  exact u4q hP
 | cons z zs =>
  have ha : opHW C G fr hp nw o.op = some (.sl nw 0 0 (xs ++ z :: zs).length e none, (nw, ty, .arr ((xs ++ z :: zs).length * e) e (xs ++ z :: zs)) :: P, nw + 1, evG xs) := by
   rw [ho]; exact y5q hx hy (xLq P he hj hd hk hz hs (by simp) h1 h2 hg hP)
  refine znq hw ha ?_
  refine xvq (fun k0 => jgq nw d hm (by omega) (Nat.lt_succ_self _) (by simp) (by rw [hd0]; show getW ((d, _) :: fr) d = _; simp [getW]) rfl (hput _) hr (by rw [zCq, if_pos rfl]) hpx ?_ nd) h
  have key : ∀ {q : HpW}, subH P b q -> subH ((nw, ty, W.arr ((xs ++ z :: zs).length * e) e (xs ++ z :: zs)) :: P) b q := fun {q} => by
   induction q with
   | nil => exact fun _ => trivial
   | cons p q ih =>
    obtain ⟨c, y⟩ := p
    exact fun h => ⟨⟨h.1.1, by rw [zCq, if_neg (by have := h.1.1; omega)]; exact h.1.2.1, h.1.2.2⟩, ih h.2⟩
  exact key hh
end
section
attribute [local irreducible] CoW OpW FlW Step Spec
theorem bytes_bN (l : List UInt8) : zdq l = bN (l.map UInt8.toNat) := by simp [zdq, bN]
theorem shaN_l (ps : List (List Nat)) : (shaN ps).length = 32 := by simp [shaN, digN]
theorem shaN_lt (ps : List (List Nat)) : ∀ n ∈ shaN ps, n < 256 := fun n h => by
 simp only [shaN, digN, List.mem_map] at h
 obtain ⟨i, _, rfl⟩ := h
 exact Nat.mod_lt _ (by decide)
def shaD (ps : List (List UInt8)) : Dig := ⟨(shaN (ps.map fun p => p.map UInt8.toNat)).map UInt8.ofNat, by simp [shaN_l]⟩
theorem bytes_of {l : List Nat} (h : ∀ n ∈ l, n < 256) : zdq (l.map UInt8.ofNat) = bN l := by
 rw [bytes_bN, List.map_map]
 congr 1
 conv => rhs; rw [<- List.map_id l]
 refine List.map_congr_left fun n hn => ?_
 have := h n hn
 simp; omega
theorem sha_s (ps : List (List UInt8 × Bool)) (f : Bool) (hb : ((ps.map (·.1)).map List.length).foldr (· + ·) 0 < 2147483648) (hn : ps.length < 2147483648) : PS cfg glK 218 [.fz (ps.map fun p => .fz (zdq p.1) 1 p.2) 1 f] (dW (shaD (ps.map (·.1)))) := fun R => by
 have e1 : (ps.map fun p => (p.1.map UInt8.toNat, p.2)).map YIq = ps.map fun p => .fz (zdq p.1) 1 p.2 := by simp [YIq, bytes_bN]
 have e2 : (ps.map fun p => (p.1.map UInt8.toNat, p.2)).map (·.1) = (ps.map (·.1)).map fun p => p.map UInt8.toNat := by simp
 have h := of_s (ps.map fun p => (p.1.map UInt8.toNat, p.2)) f (by rw [e2]; show (List.map List.length _).foldr _ 0 < _; rw [List.map_map]; simpa [Function.comp_def] using hb) (by simpa using hn) R
 rw [e1, e2] at h
 have e3 : dW (shaD (ps.map (·.1))) = .arr 32 1 (bN (shaN ((ps.map (·.1)).map fun p => p.map UInt8.toNat))) := by
  show W.arr 32 1 (zdq _) = _
  rw [<- bytes_of (shaN_lt _)]; rfl
 show Spec cfg glK _ 0 _ [] R fun w hp nw R' => R' = R /\ w = dW (shaD (ps.map (·.1)))
 rw [e3]
 exact h
def kZq (p : List UInt8) : List UInt8 := beB 4 (p.length % 4294967296) ++ p
def tagB (kind : UInt8) (ps : List (List UInt8)) : List UInt8 := kind :: ps.flatMap kZq
variable {G : Nat -> Option W}
@[simp] theorem bWs_pur (ps : List (List UInt8)) : purL (ps.map bW) = true := xzq (fun x => by simp) ps
theorem QVq {m : Nat} : ∀ {ps : List (List UInt8)} (i : Nat), (∀ p ∈ ps, p.length < m) -> ((ps.take i).flatMap kZq).length <= i * (m + 4)
 | [], i, _ => by simp
 | p :: ps, 0, _ => by simp
 | p :: ps, i + 1, h => by
  have h1 := QVq (ps := ps) i fun q hq => h q (List.mem_cons_of_mem _ hq)
  have h2 := h p (List.mem_cons_self ..)
  simp only [List.take_succ_cons, List.flatMap_cons, List.length_append, kZq, qxq, Nat.succ_mul]
  omega
theorem tbytes_s (kind : UInt8) (ps : List (List UInt8)) (f : Bool) (hn : ps.length < 1000000) (hb : ∀ p ∈ ps, p.length < 1000000) : PS cfg G 219 [.int .u8 (.ofNat kind.toNat), .fz (ps.map bW) 1 f] (bW (tagB kind ps)) := by
 have e : (ps.map bW).length = ps.length := List.length_map _
 refine j6q (fn := Tryz.f219) Y Y Y (Yb rfl) (fun R k0 => ?_)
 refine zhq 16 Y ?_
 refine zqq (w' := .int .i64 (ps.length : Int)) Y Y (by rw [<- e]; rfl) ?_
 refine zbq 4 Y ?_
 refine co_loopG1 (α := Nat) (fun i => i <= ps.length) 5 (fun i => zdq (kind :: (ps.take i).flatMap kZq)) 5 1 (fun i => [(14, .int .i64 (i : Int))]) [(4, _), (12, _), (13, _)] ([]) 0 0 (fun i => ps.length - i) (0) ⟨rfl, rfl, rfl, trivial⟩ (Nat.zero_le _) ⟨rfl, trivial⟩ (by omega) (by omega) (by first | omega | decide) (by simp [zdq]) rfl (by simp [zdq]) (by repeat (first | exact trivial | refine ⟨by first | rfl | exact zfq (by first | rfl | (simp; done)), ?_⟩)) (by repeat (first | exact trivial | refine ⟨by first | rfl | exact zfq (by first | rfl | (simp; done)), ?_⟩)) rfl (by first | rfl | assumption | (simp; done)) (by repeat (first | exact trivial | refine ⟨⟨by decide, rfl, by first | rfl | exact zfq (by first | rfl | (simp; done))⟩, ?_⟩)) (by first | decide | simp) (fun i hI => ?_)
 refine zhq 6 Y ?_
 refine zAq rfl (fun h1 => ?_) (fun h1 => ?_)
 ·have hi : i < ps.length := by omega
  obtain ⟨x, hx⟩ : ∃ x, ps[i]? = some x := ⟨_, List.getElem?_eq_getElem hi⟩
  have hxl := hb x (List.mem_of_getElem? hx)
  have hfl : ((ps.take i).flatMap kZq).length <= i * 1000004 := QVq i hb
  have hL : (zdq (kind :: (ps.take i).flatMap kZq)).length <= 1 + i * 1000004 := by rw [zkq, List.length_cons]; omega
  have hN : (zdq (beB 4 x.length)).length = 4 := by rw [zkq, qxq]
  have hnx : zdq (kind :: (ps.take (i + 1)).flatMap kZq) = (zdq (kind :: (ps.take i).flatMap kZq) ++ zdq (beB 4 x.length)) ++ zdq x := by
   rw [List.take_add_one, hx, <- yVq, <- yVq]
   congr 1
   simp [kZq, Nat.mod_eq_of_lt (show x.length < 4294967296 by omega)]
  skip
  cases x with
  | nil =>
   refine zeq 6 Y ?_
   refine zaq rfl (zBq (i := i) Y Y Y Y Y Y Y (ynq bW hx)) ?_
   refine zbq 7 Y ?_
   refine zqq (w' := .int .i64 (([] : List UInt8).length : Int)) Y Y (by show W.int .i64 ((zdq (([] : List UInt8))).length : Int) = _; rw [zkq]) ?_
   first | refine ytq Y Y ⟨by omega, by omega⟩ ?_ | refine zaq Y Y ?_
   first | refine ytq Y Y ⟨by omega, by omega⟩ ?_ | refine zaq Y Y ?_
   (refine zzq rfl (jDq Y Y Y Y Y Y (put_s ([] : List UInt8).length 4 (by omega) (by omega) (by show ([] : List UInt8).length < 4294967296; omega)) ?_); rintro w hp1 nw1 ⟨rfl, rfl, rfl⟩)
   refine zbq 10 Y ?_
   refine znq rfl (y5q Y Y (xLq [_] (k := ti5) (news := zdq (beB 4 ([] : List UInt8).length)) Y Y Y Y Y (qsq Y Y Y (zGq (by decide) hN.symm rfl)) (by intro h; rw [h] at hN; cases hN) (by rw [hN]; show (_ + 4) * 1 <= _; omega) (by rw [hN]; omega) rfl (by simp [numC]))) ?_
   refine zaq Y Y (znq rfl (y5q Y Y (vNq (k := ti5) Y Y Y Y Y)) ?_)
   refine zbq 5 Y ?_
   first | refine ytq Y Y ⟨by omega, by omega⟩ ?_ | refine zaq Y Y ?_
   refine yLq 2 Y ?_
   exact kWq 2 (i + 1) (hi) (by omega) (Nat.zero_le _) (by rw [hnx]; exact List.append_nil _) (by first | assumption | (simp; done) | (simp [zdq]; done)) (by omega) (by first | omega | decide) rfl (by first | rfl | exact List.length_append.symm) ⟨rfl, trivial⟩ ⟨rfl, rfl, rfl, trivial⟩ (by repeat (first | exact trivial | refine ⟨by first | rfl | exact zfq (by first | rfl | (simp; done)), ?_⟩)) (by repeat (first | exact trivial | refine ⟨by first | rfl | exact zfq (by first | rfl | (simp; done)), ?_⟩)) rfl (by first | rfl | assumption | (simp; done)) (by repeat (first | exact trivial | refine ⟨⟨by decide, rfl, by first | rfl | exact zfq (by first | rfl | (simp; done))⟩, ?_⟩)) (by first | decide | simp)
  | cons c x =>
   refine zeq 6 Y ?_
   refine zaq rfl (zBq (i := i) Y Y Y Y Y Y Y (ynq bW hx)) ?_
   refine zbq 7 Y ?_
   refine zqq (w' := .int .i64 ((c :: x).length : Int)) Y Y (by show W.int .i64 ((zdq ((c :: x))).length : Int) = _; rw [zkq]) ?_
   first | refine ytq Y Y ⟨by omega, by omega⟩ ?_ | refine zaq Y Y ?_
   first | refine ytq Y Y ⟨by omega, by omega⟩ ?_ | refine zaq Y Y ?_
   (refine zzq rfl (jDq Y Y Y Y Y Y (put_s (c :: x).length 4 (by omega) (by omega) (by show (c :: x).length < 4294967296; omega)) ?_); rintro w hp1 nw1 ⟨rfl, rfl, rfl⟩)
   refine zbq 10 Y ?_
   refine znq rfl (y5q Y Y (xLq [_] (k := ti5) (news := zdq (beB 4 (c :: x).length)) Y Y Y Y Y (qsq Y Y Y (zGq (by decide) hN.symm rfl)) (by intro h; rw [h] at hN; cases hN) (by rw [hN]; show (_ + 4) * 1 <= _; omega) (by rw [hN]; omega) rfl (by simp [numC]))) ?_
   refine zaq Y Y (znq rfl (y5q Y Y (qOq (k := ti5) (len := (zdq (kind :: (ps.take i).flatMap kZq) ++ zdq (beB 4 (c :: x).length)).length) (news := zdq (c :: x)) (olds := zdq (kind :: (ps.take i).flatMap kZq) ++ zdq (beB 4 (c :: x).length)) Y Y Y Y Y (by simp [zdq]) (by rw [List.length_append, hN, zkq (c :: x)]; show (_ + _) * 1 <= _; omega) (by rw [List.length_append, hN, zkq (c :: x)]; omega) rfl (by show (_ ++ _ : List W).length * 1 < 0 + ((_ ++ _ : List W).length + (zdq (c :: x)).length) * 1; rw [zkq (c :: x), List.length_cons]; omega) rfl (zGq (by decide) Y Y))) ?_)
   refine zbq 5 Y ?_
   first | refine ytq Y Y ⟨by omega, by omega⟩ ?_ | refine zaq Y Y ?_
   refine yLq 2 Y ?_
   exact kWq 3 (i + 1) (hi) (by omega) (Nat.zero_le _) (hnx) (by first | assumption | (simp; done) | (simp [zdq]; done)) (by omega) (by first | omega | decide) rfl (by first | rfl | exact List.length_append.symm) ⟨rfl, trivial⟩ ⟨rfl, rfl, rfl, trivial⟩ (by repeat (first | exact trivial | refine ⟨by first | rfl | exact zfq (by first | rfl | (simp; done)), ?_⟩)) (by repeat (first | exact trivial | refine ⟨by first | rfl | exact zfq (by first | rfl | (simp; done)), ?_⟩)) rfl (by first | rfl | assumption | (simp; done)) (by repeat (first | exact trivial | refine ⟨⟨by decide, rfl, by first | rfl | exact zfq (by first | rfl | (simp; done))⟩, ?_⟩)) (by first | decide | simp)
 ·have hi : i = ps.length := by omega
  subst hi
  refine zeq 2 Y ?_
  refine qAq (by intro h; cases h) ?_
  refine zDq 9 Y ?_
  refine keq (by first | exact .inr rfl | exact .inl rfl) Y ?_
  rw [List.take_length]
  exact vRq (H0 := []) (by decide) (by simp) (by simp)
theorem tag_le {m : Nat} (kind : UInt8) (ps : List (List UInt8)) (h : ∀ p ∈ ps, p.length < m) : (tagB kind ps).length <= 1 + ps.length * (m + 4) := by
 have := QVq (m := m) ps.length h
 rw [List.take_length] at this
 simp only [tagB, List.length_cons]; omega
def tagD (kind : UInt8) (ps : List (List UInt8)) : Dig := shaD [tagB kind ps]
theorem tagof_s (kind : UInt8) (ps : List (List UInt8)) (f : Bool) (hn : ps.length < 1000) (hb : ∀ p ∈ ps, p.length < 1000000) : PS cfg glK 161 [.int .u8 (.ofNat kind.toNat), .fz (ps.map bW) 1 f] (dW (tagD kind ps)) := by
 have hl := tag_le kind ps hb
 refine zYq (fn := Tryz.f161) Y Y Y (Yb rfl) (fun R k0 => ?_)
 refine zhq 9 Y ?_
 refine zjq Y Y Y Y Y Y (tbytes_s kind ps f (by omega) hb) ?_
 refine znq Y Y ?_
 refine op_lk Y Y Y Y Y (by (repeat (first | exact .nil | refine .cons ?_ ?_ | (refine .sl Y ?_ rfl (by intro h; cases h); first | rfl | (focus (simp; done))) | (refine qeq Y ?_ rfl; first | rfl | (focus (simp; done))) | (refine .pur ?_; first | rfl | (focus (simp; done)))))) (sha_s [(tagB kind ps, false)] false (by simp; omega) (by simp)) (by first | rfl | assumption | (simp; done)) (by first | rfl | assumption | (simp; done)) ?_
 refine zbq 4 Y ?_
 exact zgq (.inr rfl) Y Y
def keyD (k : Dig) : Dig := tagD 3 [k.1]
theorem key_s (k : Dig) : PS cfg glK 110 [dW k] (dW (keyD k)) := by
 refine zYq (fn := Tryz.f110) Y Y Y (Yb rfl) (fun R k0 => ?_)
 refine zhq 10 Y ?_
 refine op_lk Y Y Y Y Y (.cons (.pur rfl) (.cons (.sl2 (full := false) rfl (.arr (.cons (.sl (full := false) (xs := zdq k.1) rfl (by simp) (zGq (by decide) (by simp [zkq, k.2]) rfl) (by intro h; cases h)) .nil)) rfl (by intro h; cases h)) .nil)) (tagof_s 3 [k.1] false (by simp) (by simp [k.2])) (by first | rfl | assumption | (simp; done)) (by first | rfl | assumption | (simp; done)) ?_
 refine zbq 4 Y ?_
 exact zgq (.inr rfl) Y Y
end
theorem p32 : (4294967296 : Nat) = 2 ^ 32 := by decide
def fz {α : Type} (n : Nat) (c : Nat -> α) : α := Nat.rec (c 0) (fun m _ => c (Nat.succ m)) n
structure S8.Ok (s : S8) : Prop where
 a : s.a < 4294967296
 b : s.b < 4294967296
 c : s.c < 4294967296
 d : s.d < 4294967296
 e : s.e < 4294967296
 f : s.f < 4294967296
 g : s.g < 4294967296
 h : s.h < 4294967296
theorem x9q (a b : Nat) : addN a b < 4294967296 := Nat.mod_lt _ (by decide)
theorem rnd_ok {s : S8} (h : s.Ok) (k w : Nat) : (roundN k w s).Ok := ⟨x9q _ _, h.a, h.b, h.c, x9q _ _, h.e, h.f, h.g⟩
def wS (bs : Nat -> Nat) (i : Nat) : Nat := (yyq bs (i + 1)).getD i 0
attribute [local irreducible] wS in
theorem rounds_ok {s : S8} (h : s.Ok) (ws : List Nat) : ∀ t, (xtq ws s t).Ok
 | 0 => h
 | t + 1 => rnd_ok (rounds_ok h ws t) _ _
theorem word_eq {b0 b1 b2 b3 : Nat} (h0 : b0 < 256) (h1 : b1 < 256) (h2 : b2 < 256) (h3 : b3 < 256) : wordN b0 b1 b2 b3 = Nat.lor (Nat.lor (Nat.lor (Nat.shiftLeft b0 24) (Nat.shiftLeft b1 16)) (Nat.shiftLeft b2 8)) b3 := by
 have s : ∀ b n, b < 256 -> n <= 24 -> Nat.shiftLeft b n < 4294967296 := fun b n hb hn => by
  show b <<< n < 4294967296
  rw [Nat.shiftLeft_eq]
  have : 2 ^ n <= 2 ^ 24 := Nat.pow_le_pow_right (by decide) hn
  have := Nat.mul_le_mul (show b <= 255 by omega) this
  omega
 have e : ∀ b n, b < 256 -> n <= 24 -> shlN (b % 4294967296) n = Nat.shiftLeft b n := fun b n hb hn => by
  unfold shlN
  rw [Nat.min_eq_left (by omega), Nat.mod_eq_of_lt (show b < 4294967296 by omega), Nat.mod_eq_of_lt (s b n hb hn)]
 have o : ∀ a b, a < 4294967296 -> b < 4294967296 -> orN a b = Nat.lor a b := fun a b ha hb => by
  unfold orN
  rw [Nat.mod_eq_of_lt ha, Nat.mod_eq_of_lt hb]
 have ol : ∀ a b, a < 4294967296 -> b < 4294967296 -> Nat.lor a b < 4294967296 := fun a b ha hb => by
  rw [p32] at *
  exact Nat.or_lt_two_pow ha hb
 unfold wordN
 rw [e b0 24 h0 (by decide), e b1 16 h1 (by decide), e b2 8 h2 (by decide), Nat.mod_eq_of_lt (show b3 < 4294967296 by omega)]
 rw [o _ _ (s b0 24 h0 (by decide)) (s b1 16 h1 (by decide)), o _ _ (ol _ _ (s b0 24 h0 (by decide)) (s b1 16 h1 (by decide))) (s b2 8 h2 (by decide)), o _ _ (ol _ _ (ol _ _ (s b0 24 h0 (by decide)) (s b1 16 h1 (by decide))) (s b2 8 h2 (by decide))) (by omega)]
def small (l : List Nat) : Prop := ∀ b ∈ l, b < 256
theorem small_at {l : List Nat} (h : small l) (i : Nat) : atL l i < 256 := by
 unfold atL
 rw [List.getD_eq_getElem?_getD]
 cases hq : l[i]? with
 | none => show (0 : Nat) < 256; decide
 | some b => exact h b (List.mem_of_getElem? hq)
theorem block_ok (s : S8) (bs : Nat -> Nat) : (jqq bs s).Ok := ⟨x9q _ _, x9q _ _, x9q _ _, x9q _ _, x9q _ _, x9q _ _, x9q _ _, x9q _ _⟩
theorem pad_eq : ∀ (n : Nat) (r : List Nat), (120 - r.length % 64) % 64 <= n -> padZ n r = r ++ List.replicate ((120 - r.length % 64) % 64) 0
 | 0, r, h => by
  rw [Nat.le_zero.1 h]; simp [padZ]
 | n + 1, r, h => by
  unfold padZ
  cases hb : Nat.beq (r.length % 64) 56 with
  | true =>
   have := Nat.eq_of_beq_eq_true hb
   rw [this]; simp
  | false =>
   have hne : r.length % 64 ≠ 56 := fun e => by rw [e] at hb; cases hb
   show padZ n (r ++ [0]) = _
   have hl : (r ++ [0]).length = r.length + 1 := by simp
   rw [pad_eq n (r ++ [0]) (by rw [hl]; omega), hl, List.append_assoc]
   have : (120 - r.length % 64) % 64 = (120 - (r.length + 1) % 64) % 64 + 1 := by omega
   rw [this]
   rfl
section
attribute [local irreducible] CoW OpW FlW Step Spec
variable {G : Nat -> Option W}
def rotT (x n : Nat) : Nat := orN (shrN x n) (shlN x (32 - n))
theorem rotT_eq {x n : Nat} (hn : n <= 32) : rotT x n = rotN x n := by
 unfold rotT rotN orN shrN shlN
 rw [Nat.min_eq_left hn, Nat.min_eq_left (Nat.sub_le _ _)]
 exact Nat.or_comm _ _
theorem qSq (n : Nat) (hn : n = 2 \/ n = 6 \/ n = 7 \/ n = 11 \/ n = 13 \/ n = 17 \/ n = 18 \/ n = 19 \/ n = 22 \/ n = 25) (x : Nat) : PS cfg G 259 [wd x, wd n] (wd (rotN x n)) := by
 have key : ∀ h, qDq cfg 20 259 [.int .u32 (.ofNat x), .int .u32 (.ofNat n)] h = some (.int .u32 (.ofNat (rotT x n)), h) := by
  intro h
  rcases hn with rfl | rfl | rfl | rfl | rfl | rfl | rfl | rfl | rfl | rfl <;> kernel_rfl
 have e : rotT x n = rotN x n := rotT_eq (by omega)
 rw [e] at key
 refine xSq (spec_run key (fun Γ us h => ?_) (fun Γ => RV_int.2 rfl)) fun w hp nw h => h.1
 obtain ⟨v, vs, rfl, h1, h2⟩ := RVL_cons.1 h
 obtain ⟨v', vs', rfl, h3, h4⟩ := RVL_cons.1 h2
 rw [RVL_nil.1 h4, RV_int.1 h1, RV_int.1 h3]
theorem sub_not {e : Nat} (he : e < 4294967296) : 4294967295 - e = notN e := by
 unfold notN
 rw [Nat.mod_eq_of_lt he]
 have h := BitVec.toNat_not (x := BitVec.ofNat 32 e)
 rw [<- BitVec.allOnes_xor] at h
 simp only [BitVec.toNat_xor, BitVec.toNat_allOnes, BitVec.toNat_ofNat] at h
 rw [Nat.mod_eq_of_lt (show e < 2 ^ 32 from he)] at h
 exact h.symm
theorem wrap_not {e : Nat} (he : e < 4294967296) : W.int .u32 (kdq .u32 ((4294967295 : Int) - Int.ofNat e)) = wd (notN e) := by
 rw [<- sub_not he]
 have : (4294967295 : Int) - Int.ofNat e = ((4294967295 - e : Nat) : Int) := by
  show (4294967295 : Int) - (e : Int) = _
  omega
 rw [this]
 show W.int .u32 (((4294967295 - e) % 4294967296 : Nat) : Int) = W.int .u32 ((4294967295 - e : Nat) : Int)
 rw [Nat.mod_eq_of_lt (by omega)]
theorem rround_s (v : S8) (hv : v.Ok) (k w : Nat) : PS cfg G 253 [.arr 8 1 v.l, wd k, wd w] (.arr 8 1 (roundN k w v).l) := by
 refine zYq (fn := Tryz.f253) Y Y Y (Yb rfl) (fun R k0 => ?_)
 refine zhq 8 Y ?_
 first | refine zcq rfl (zBq Y Y Y Y Y Y Y (by first | assumption | (simp; done))) ?_ | refine zcq rfl (zFq Y Y Y Y Y Y Y (by omega)) ?_ | refine zcq rfl (zpq Y Y Y Y Y Y (by omega)) ?_ | refine zcq Y Y ?_
 refine yRq Y Y ?_
 first | refine zcq rfl (zBq Y Y Y Y Y Y Y (by first | assumption | (simp; done))) ?_ | refine zcq rfl (zFq Y Y Y Y Y Y Y (by omega)) ?_ | refine zcq rfl (zpq Y Y Y Y Y Y (by omega)) ?_ | refine zcq Y Y ?_
 refine yRq Y Y ?_
 first | refine zcq rfl (zBq Y Y Y Y Y Y Y (by first | assumption | (simp; done))) ?_ | refine zcq rfl (zFq Y Y Y Y Y Y Y (by omega)) ?_ | refine zcq rfl (zpq Y Y Y Y Y Y (by omega)) ?_ | refine zcq Y Y ?_
 refine yRq Y Y ?_
 first | refine zcq rfl (zBq Y Y Y Y Y Y Y (by first | assumption | (simp; done))) ?_ | refine zcq rfl (zFq Y Y Y Y Y Y Y (by omega)) ?_ | refine zcq rfl (zpq Y Y Y Y Y Y (by omega)) ?_ | refine zcq Y Y ?_
 refine yRq Y Y ?_
 first | refine zcq rfl (zBq Y Y Y Y Y Y Y (by first | assumption | (simp; done))) ?_ | refine zcq rfl (zFq Y Y Y Y Y Y Y (by omega)) ?_ | refine zcq rfl (zpq Y Y Y Y Y Y (by omega)) ?_ | refine zcq Y Y ?_
 refine yRq Y Y ?_
 first | refine zcq rfl (zBq Y Y Y Y Y Y Y (by first | assumption | (simp; done))) ?_ | refine zcq rfl (zFq Y Y Y Y Y Y Y (by omega)) ?_ | refine zcq rfl (zpq Y Y Y Y Y Y (by omega)) ?_ | refine zcq Y Y ?_
 refine yRq Y Y ?_
 first | refine zcq rfl (zBq Y Y Y Y Y Y Y (by first | assumption | (simp; done))) ?_ | refine zcq rfl (zFq Y Y Y Y Y Y Y (by omega)) ?_ | refine zcq rfl (zpq Y Y Y Y Y Y (by omega)) ?_ | refine zcq Y Y ?_
 refine yRq Y Y ?_
 first | refine zcq rfl (zBq Y Y Y Y Y Y Y (by first | assumption | (simp; done))) ?_ | refine zcq rfl (zFq Y Y Y Y Y Y Y (by omega)) ?_ | refine zcq rfl (zpq Y Y Y Y Y Y (by omega)) ?_ | refine zcq Y Y ?_
 refine zuq 15 Y ?_
 refine zjq Y Y Y Y Y Y (qSq _ (by simp) _) ?_
 refine zaq Y Y (zjq Y Y Y Y Y Y (qSq _ (by simp) _) ?_)
 refine zbq 2 Y ?_
 refine zjq Y Y Y Y Y Y (qSq _ (by simp) _) ?_
 refine zbq 6 Y ?_
 refine zqq (w' := wd (notN v.e)) Y Y (wrap_not hv.e) ?_
 refine zbq 14 Y ?_
 refine zjq Y Y Y Y Y Y (qSq _ (by simp) _) ?_
 refine zaq Y Y (zjq Y Y Y Y Y Y (qSq _ (by simp) _) ?_)
 refine zbq 2 Y ?_
 refine zjq Y Y Y Y Y Y (qSq _ (by simp) _) ?_
 refine zbq 35 Y ?_
 exact zgq (.inr rfl) Y Y
end
section
attribute [local irreducible] CoW OpW FlW Step Spec
variable {G : Nat -> Option W}
theorem words_s : PS cfg G 251 [] (.arr 64 1 (kW.map wd)) := by
 refine zYq (fn := Tryz.f251) Y Y Y (Yb rfl) (fun R k0 => ?_)
 refine zhq 12 Y ?_
 exact zgq (.inr rfl) Y Y
def horn (bs : Nat -> Nat) (t : Nat) : Nat -> Nat
 | 0 => 0
 | i + 1 => addN (256 * horn bs t i % 4294967296) (bs (4 * t + i))
theorem horn_word {bs : Nat -> Nat} (hb : ∀ i, bs i < 256) (t : Nat) : horn bs t 4 = wordN (bs (4 * t)) (bs (4 * t + 1)) (bs (4 * t + 2)) (bs (4 * t + 3)) := by
 have h0 := hb (4 * t)
 have h1 := hb (4 * t + 1)
 have h2 := hb (4 * t + 2)
 have h3 := hb (4 * t + 3)
 rw [word_eq h0 h1 h2 h3]
 have e1 := Nat.shiftLeft_add_eq_or_of_lt (i := 8) (b := bs (4 * t + 1)) (by omega) (bs (4 * t))
 have s : ∀ a i : Nat, Nat.shiftLeft a i = a * 2 ^ i := fun a i => Nat.shiftLeft_eq a i
 have o1 : Nat.lor (Nat.shiftLeft (bs (4 * t)) 24) (Nat.shiftLeft (bs (4 * t + 1)) 16) = bs (4 * t) * 16777216 + bs (4 * t + 1) * 65536 := by
  have := Nat.shiftLeft_add_eq_or_of_lt (i := 24) (b := bs (4 * t + 1) * 65536) (by omega) (bs (4 * t))
  rw [Nat.shiftLeft_eq] at this
  rw [s (bs (4 * t + 1)) 16]
  show bs (4 * t) <<< 24 ||| (bs (4 * t + 1) * 2 ^ 16) = _
  rw [Nat.shiftLeft_eq]
  exact this.symm
 have o2 : Nat.lor (bs (4 * t) * 16777216 + bs (4 * t + 1) * 65536) (Nat.shiftLeft (bs (4 * t + 2)) 8) = bs (4 * t) * 16777216 + bs (4 * t + 1) * 65536 + bs (4 * t + 2) * 256 := by
  have q : bs (4 * t) * 16777216 + bs (4 * t + 1) * 65536 = (bs (4 * t) * 256 + bs (4 * t + 1)) * 65536 := by rw [Nat.add_mul, Nat.mul_assoc]
  have := Nat.shiftLeft_add_eq_or_of_lt (i := 16) (b := bs (4 * t + 2) * 256) (by omega) (bs (4 * t) * 256 + bs (4 * t + 1))
  rw [Nat.shiftLeft_eq, show (2 : Nat) ^ 16 = 65536 from rfl] at this
  rw [s]
  show (bs (4 * t) * 16777216 + bs (4 * t + 1) * 65536) ||| (bs (4 * t + 2) * 256) = _
  rw [q]
  exact this.symm
 have o3 : Nat.lor (bs (4 * t) * 16777216 + bs (4 * t + 1) * 65536 + bs (4 * t + 2) * 256) (bs (4 * t + 3)) = bs (4 * t) * 16777216 + bs (4 * t + 1) * 65536 + bs (4 * t + 2) * 256 + bs (4 * t + 3) := by
  have q : bs (4 * t) * 16777216 + bs (4 * t + 1) * 65536 + bs (4 * t + 2) * 256 = (bs (4 * t) * 65536 + bs (4 * t + 1) * 256 + bs (4 * t + 2)) * 256 := by rw [Nat.add_mul, Nat.add_mul, Nat.mul_assoc, Nat.mul_assoc]
  have := Nat.shiftLeft_add_eq_or_of_lt (i := 8) (b := bs (4 * t + 3)) (by omega) (bs (4 * t) * 65536 + bs (4 * t + 1) * 256 + bs (4 * t + 2))
  rw [Nat.shiftLeft_eq, show (2 : Nat) ^ 8 = 256 from rfl] at this
  show (bs (4 * t) * 16777216 + bs (4 * t + 1) * 65536 + bs (4 * t + 2) * 256) ||| bs (4 * t + 3) = _
  rw [q]
  exact this.symm
 rw [o1, o2, o3]
 simp only [horn, addN]
 rw [show 4 * t + 0 = 4 * t from rfl]
 omega
end
section
attribute [local irreducible] CoW OpW FlW Step Spec
variable {G : Nat -> Option W}
def bsL (l : List UInt8) : Nat -> Nat := atL (l.map UInt8.toNat)
theorem bsL_lt (l : List UInt8) (i : Nat) : bsL l i < 256 := small_at (fun b hb => by obtain ⟨c, _, rfl⟩ := List.mem_map.1 hb; exact c.toNat_lt) i
theorem bsL_at {l : List UInt8} {i : Nat} (h : i < l.length) : (zdq l)[i]? = some (.int .u8 ((bsL l i : Nat) : Int)) := by
 unfold zdq bsL atL
 rw [List.getElem?_map, List.getElem?_eq_getElem h]
 simp [List.getD, List.getElem?_eq_getElem h]
theorem pad0_snoc {L : List Nat} {n : Nat} (h : L.length < n) : pad0 (L ++ [0]) n = pad0 L n := by
 unfold pad0
 rw [show n - L.length = (n - (L ++ [0]).length) + 1 by simp; omega, List.replicate_succ, List.append_assoc]
 rfl
theorem pad0_last {L : List Nat} {n x : Nat} (h : L.length < n) : ((pad0 (L ++ [x]) n).map wd)[L.length]? = some (wd x) := by
 rw [pad0_at (by simp)]
 simp [List.getD]
theorem pad0_turn {L : List Nat} {n x y : Nat} (h : L.length < n) : ((pad0 (L ++ [x]) n).map wd).set L.length (wd y) = (pad0 (L ++ [y]) n).map wd := by
 rw [<- List.map_set]
 congr 1
 unfold pad0
 rw [show (L ++ [x]).length = (L ++ [y]).length by simp, List.append_assoc, List.append_assoc, List.set_append_right _ _ (Nat.le_refl _), Nat.sub_self]
 rfl
def schH (L : List Nat) : HpW := [(1, 355, .arr 64 1 ((pad0 L 64).map wd)), (0, 355, .arr 64 1 (List.replicate 64 (wd 0)))]
theorem sched_s (l : List UInt8) (f : Bool) (hl : l.length = 64) : PS cfg G 252 [.fz (zdq l) 1 f] (.arr 64 1 ((yyq (bsL l) 64).map wd)) := by
 obtain ⟨bs, eb⟩ : ∃ bs, bsL l = bs := ⟨_, rfl⟩
 have hb : ∀ i, bs i < 256 := fun i => by rw [<- eb]; exact bsL_lt l i
 have hat : ∀ i, i < 64 -> (zdq l)[i]? = some (.int .u8 ((bs i : Nat) : Int)) := fun i hi => by rw [<- eb]; exact bsL_at (by omega)
 rw [eb]
 refine zYq (fn := Tryz.f252) Y Y Y (Yb rfl) (fun R k0 => ?_)
 refine zhq 17 Y ?_
 refine qNq (α := Nat) (fun t => t <= 16) (fun t => [(4, .int .i64 (t : Int))]) [(0, _), (2, _), (3, _)] (fun t => schH (yyq bs t)) (fun t => 16 - t) (0) ⟨rfl, rfl, rfl, trivial⟩ (Nat.zero_le _) ⟨rfl, trivial⟩ (rfl) (fun t hI => ?_)
 have hsl := xsq bs t
 refine zhq 7 Y ?_
 refine zAq rfl (fun h1 => ?_) (fun h1 => ?_)
 ·have ht : t < 16 := by omega
  refine zeq 10 Y ?_
  refine qNq (α := Nat) (fun i => i <= 4) (fun i => [(5, .int .i64 (i : Int))]) [(0, _), (2, _), (3, _), (4, _), (9, _), (10, _)] (fun i => schH (yyq bs t ++ [horn bs t i])) (fun i => 4 - i) (0) ⟨rfl, rfl, rfl, rfl, rfl, rfl, trivial⟩ (Nat.zero_le _) ⟨rfl, trivial⟩ (by show schH (yyq bs t) = schH (yyq bs t ++ [0]); unfold schH; rw [pad0_snoc (by omega)]) (fun i hI => ?_)
  have hc := hb (4 * t + i)
  have hL : ((pad0 (yyq bs t ++ [horn bs t i]) 64).map wd)[0 + t * 1]? = some (wd (horn bs t i)) := by have := pad0_last (L := yyq bs t) (n := 64) (x := horn bs t i) (by omega); rw [hsl] at this; rw [Nat.zero_add, Nat.mul_one]; exact this
  refine zhq 7 Y ?_
  refine zAq rfl (fun h2 => ?_) (fun h2 => ?_)
  ·have hi : i < 4 := by omega
   have hset : ((pad0 (yyq bs t ++ [horn bs t i]) 64).map wd).set (0 + t * 1) (wd (horn bs t (i + 1))) = (pad0 (yyq bs t ++ [horn bs t (i + 1)]) 64).map wd := by have := pad0_turn (L := yyq bs t) (n := 64) (x := horn bs t i) (y := horn bs t (i + 1)) (by omega); rw [hsl] at this; rw [Nat.zero_add, Nat.mul_one]; exact this
   refine zeq 7 Y ?_
   refine zcq rfl (zpq (i := t) Y Y Y Y Y Y (by omega)) ?_
   refine yHq rfl (ykq Y Y Y (yUq hL rfl)) (by first | rfl | kernel_rfl) ?_
   refine jpq (w' := wd (256 * horn bs t i % 4294967296)) Y Y Y ?_
   refine zuq 2 Y ?_
   refine qtq (4 * t) Y Y (by first | rfl | omega) ⟨by omega, by omega⟩ ?_
   refine zcq Y Y (qtq (4 * t + i) Y Y (by first | rfl | omega) ⟨by omega, by omega⟩ ?_)
   refine zcq rfl (zBq (i := 4 * t + i) Y Y Y Y Y Y Y (hat _ (by omega))) ?_
   refine yRq Y Y ?_
   refine qtq (bs (4 * t + i)) Y Y (by first | rfl | omega) ⟨by omega, by omega⟩ ?_
   refine jpq (w' := wd (horn bs t (i + 1))) Y Y Y (zcq rfl (zpq (i := t) Y Y Y Y Y Y (by omega)) ?_)
   refine yHq rfl (jOq Y Y Y Y Y (qzq hL Y Y) rfl) (by first | rfl | kernel_rfl) ?_
   refine zuq 5 Y ?_
   refine ziq (i + 1) Y Y (by first | rfl | omega) ⟨by omega, by omega⟩ ?_
   refine yLq 2 Y ?_
   skip
   exact jcq (i + 1) hi (by omega) ⟨rfl, trivial⟩ ⟨rfl, rfl, rfl, rfl, rfl, rfl, trivial⟩ (by unfold schH; exact congrArg (fun q => [(1, 355, W.arr 64 1 q), (0, 355, W.arr 64 1 (List.replicate 64 (wd 0)))]) hset)
  ·have hi : i = 4 := by omega
   subst hi
   have hnx : yyq bs (t + 1) = yyq bs t ++ [horn bs t 4] := by
    rw [horn_word hb]
    show yyq bs t ++ [xxq bs (yyq bs t)] = _
    unfold xxq
    rw [hsl, show Nat.blt t 16 = true from Nat.ble_eq_true_of_le ht]
   refine zeq 2 Y ?_
   refine qAq (by intro h; cases h) ?_
   refine zDq 5 Y ?_
   refine ziq (t + 1) Y Y (by first | rfl | omega) ⟨by omega, by omega⟩ ?_
   refine yLq 2 Y ?_
   skip
   exact jcq (t + 1) ht (by omega) ⟨rfl, trivial⟩ ⟨rfl, rfl, rfl, trivial⟩ (by rw [hnx])
 ·have ht : t = 16 := by omega
  subst ht
  refine zeq 2 Y ?_
  refine qAq (by intro h; cases h) ?_
  refine zDq 9 Y ?_
  refine qNq (α := Nat) (fun u => 16 <= u /\ u <= 64) (fun u => [(6, .int .i64 (u : Int))]) [(2, _), (3, _)] (fun u => schH (yyq bs u)) (fun u => 64 - u) (16) ⟨rfl, rfl, trivial⟩ (⟨by omega, by omega⟩) ⟨rfl, trivial⟩ (rfl) (fun u hI => ?_)
  obtain ⟨g1, g2⟩ := hI
  have hsu := xsq bs u
  refine zhq 7 Y ?_
  refine zAq rfl (fun h2 => ?_) (fun h2 => ?_)
  ·have hu : u < 64 := by omega
   obtain ⟨L, eL⟩ : ∃ L, yyq bs u = L := ⟨_, rfl⟩
   rw [eL] at hsu ⊢
   have hat2 : ∀ i, i < u -> ((pad0 L 64).map wd)[0 + i * 1]? = some (wd (L.getD i 0)) := fun i hi => by rw [Nat.zero_add, Nat.mul_one]; exact pad0_at (by omega)
   have hge : ((pad0 L 64).map wd)[0 + u * 1]? = some (wd 0) := by have := pad0_ge (l := L) (n := 64) (by omega); rw [hsu] at this; rw [Nat.zero_add, Nat.mul_one]; exact this
   have hnx : xxq bs L = addN (addN (addN (L.getD (u - 16) 0) (xorN (xorN (rotN (L.getD (u - 15) 0) 7) (rotN (L.getD (u - 15) 0) 18)) (shrN (L.getD (u - 15) 0) 3))) (L.getD (u - 7) 0)) (xorN (xorN (rotN (L.getD (u - 2) 0) 17) (rotN (L.getD (u - 2) 0) 19)) (shrN (L.getD (u - 2) 0) 10)) := by
    have hbl : Nat.blt u 16 = false := by
     cases hq : Nat.blt u 16 with
     | false => rfl
     | true => have := Yb hq; omega
    unfold xxq
    rw [hsu, hbl]
   have hset : ((pad0 L 64).map wd).set (0 + u * 1) (wd (xxq bs L)) = (pad0 (yyq bs (u + 1)) 64).map wd := by
    have := pad0_set (l := L) (n := 64) (x := xxq bs L) (by omega)
    rw [hsu] at this
    rw [Nat.zero_add, Nat.mul_one, this]
    show _ = (pad0 (yyq bs u ++ [xxq bs (yyq bs u)]) 64).map wd
    rw [eL]
   refine zeq 7 Y ?_
   refine qtq (u - 15) Y Y (by first | rfl | omega) ⟨by omega, by omega⟩ ?_
   refine zcq rfl (zpq (i := u - 15) Y Y Y Y Y Y (by omega)) ?_
   refine yHq rfl (ykq Y Y Y (yUq (hat2 (u - 15) (by omega)) rfl)) (by first | rfl | kernel_rfl) ?_
   refine zcq Y Y (qtq (u - 2) Y Y (by first | rfl | omega) ⟨by omega, by omega⟩ ?_)
   refine zcq rfl (zpq (i := u - 2) Y Y Y Y Y Y (by omega)) ?_
   refine yHq rfl (ykq Y Y Y (yUq (hat2 (u - 2) (by omega)) rfl)) (by first | rfl | kernel_rfl) ?_
   refine zuq 7 Y ?_
   refine qtq (u - 16) Y Y (by first | rfl | omega) ⟨by omega, by omega⟩ ?_
   refine zcq rfl (zpq (i := u - 16) Y Y Y Y Y Y (by omega)) ?_
   refine yHq rfl (ykq Y Y Y (yUq (hat2 (u - 16) (by omega)) rfl)) (by first | rfl | kernel_rfl) ?_
   refine zcq Y Y ?_
   refine y2q Y Y Y Y Y Y (qSq _ (by simp) _) ?_
   refine zcq Y Y ?_
   refine y2q Y Y Y Y Y Y (qSq _ (by simp) _) ?_
   refine zuq 6 Y ?_
   refine qtq (u - 7) Y Y (by first | rfl | omega) ⟨by omega, by omega⟩ ?_
   refine zcq rfl (zpq (i := u - 7) Y Y Y Y Y Y (by omega)) ?_
   refine yHq rfl (ykq Y Y Y (yUq (hat2 (u - 7) (by omega)) rfl)) (by first | rfl | kernel_rfl) ?_
   refine zuq 2 Y ?_
   refine y2q Y Y Y Y Y Y (qSq _ (by simp) _) ?_
   refine zcq Y Y ?_
   refine y2q Y Y Y Y Y Y (qSq _ (by simp) _) ?_
   refine zuq 4 Y ?_
   refine jpq (w' := wd (xxq bs L)) Y Y (by rw [hnx]; rfl) ?_
   refine zcq rfl (zpq (i := u) Y Y Y Y Y Y (by omega)) ?_
   refine yHq rfl (jOq Y Y Y Y Y (qzq hge Y Y) rfl) (by first | rfl | kernel_rfl) ?_
   refine zuq 5 Y ?_
   refine ziq (u + 1) Y Y (by first | rfl | omega) ⟨by omega, by omega⟩ ?_
   refine yLq 2 Y ?_
   skip
   exact jcq (u + 1) ⟨by omega, hu⟩ (by omega) ⟨rfl, trivial⟩ ⟨rfl, rfl, trivial⟩ (by unfold schH; exact congrArg (fun q => [(1, 355, W.arr 64 1 q), (0, 355, W.arr 64 1 (List.replicate 64 (wd 0)))]) hset)
  ·have hu : u = 64 := by omega
   subst hu
   refine zeq 2 Y ?_
   refine qAq (by intro h; cases h) ?_
   refine zDq 9 Y ?_
   have ep : pad0 (yyq bs 64) 64 = yyq bs 64 := by unfold pad0; rw [hsu]; simp
   exact zgq (.inr rfl) rfl (by rw [ep])
end
section
attribute [local irreducible] CoW OpW FlW Step Spec
variable {G : Nat -> Option W}
theorem half_pow (x : Nat) {j : Nat} (h1 : 1 <= j) (h2 : j <= 7) : x / 2 ^ (7 - j) / 2 = x / 2 ^ (7 - (j - 1)) := by
 rw [Nat.div_div_eq_div_mul, <- Nat.pow_succ, show (7 - j).succ = 7 - (j - 1) by omega]
theorem rat_s (k : Dig) (i : Nat) (h : i < 256) : PS cfg G 220 [dW k, .int .i64 (i : Int)] (.int .u8 (bitN k i : Nat)) := by
 have hk := uoq k (i / 8)
 refine zYq (fn := Tryz.f220) Y Y Y (Yb rfl) (fun R k0 => ?_)
 refine zhq 9 Y ?_
 refine ziq (i / 8) Y Y (kfq i 8) ⟨by omega, by omega⟩ ?_
 refine zaq rfl (zpq (i := i / 8) Y Y Y Y Y Y (by omega)) ?_
 refine znq rfl (ykq Y Y Y (dW_ld k (by omega))) ?_
 refine zbq 10 Y ?_
 refine y0q (α := Nat × Nat) (fun p => p.1 <= 7 /\ i % 8 <= p.1 /\ p.2 = kn k (i / 8) / 2 ^ (7 - p.1) /\ p.2 <= 255) (fun p => [(6, .int .i64 (p.1 : Int)), (5, .int .u8 (p.2 : Nat))]) [(1, _), (4, _)] (fun p => p.1) ((7, kn k (i / 8))) ⟨rfl, rfl, trivial⟩ (⟨Nat.le_refl _, by show i % 8 <= 7; omega, by simp, hk⟩) ⟨rfl, rfl, trivial⟩ (fun p hI => ?_)
 obtain ⟨j, c⟩ := p
 obtain ⟨g1, g2, g3, g4⟩ := hI
 simp only at g1 g2 g3 g4 ⊢
 refine zhq 5 Y ?_
 refine zqq Y Y (congrArg (W.int .i64) (kLq i 8)) ?_
 refine zbq 3 Y ?_
 refine zAq rfl (fun h1 => ?_) (fun h1 => ?_)
 ·have hj : i % 8 < j := by omega
  refine zeq 6 Y ?_
  refine ziq (c / 2) Y Y (kfq c 2) ⟨by omega, by omega⟩ ?_
  refine zbq 6 Y ?_
  refine ziq (j - 1) Y Y (by first | rfl | omega) ⟨by omega, by omega⟩ ?_
  refine yLq 2 Y ?_
  exact yhq ((j - 1, c / 2)) (⟨by simp only; omega, by simp only; omega, by simp only [g3]; exact half_pow _ (by omega) g1, by simp only; omega⟩) (by simp only; omega) ⟨rfl, rfl, trivial⟩ ⟨rfl, rfl, trivial⟩ (by repeat (first | exact trivial | refine ⟨by first | rfl | exact zfq (by first | rfl | (simp; done)), ?_⟩)) (by omega) (by repeat (first | exact zNq | refine zQq (by omega) ?_ | refine zOq (by omega) ?_ | refine zPq (by omega) ?_)) rfl
 ·have hj : i % 8 = j := by omega
  refine zeq 2 Y ?_
  refine yfq (by intro h; cases h) ?_
  refine zDq 5 Y ?_
  refine zqq (w' := .int .u8 ((c % 2 : Nat) : Int)) Y Y (congrArg (W.int .u8) (kLq c 2)) ?_
  refine zbq 4 Y ?_
  refine zgq (.inr rfl) Y ?_
  rw [g3, <- hj]
  unfold bitN
  rfl
theorem rshared_s (a b : Dig) : PS cfg G 191 [dW a, dW b] (.int .i64 (ybq a b : Nat)) := by
 refine zYq (fn := Tryz.f191) Y Y Y (Yb rfl) (fun R k0 => ?_)
 refine zhq 14 Y ?_
 refine y0q (α := Nat) (fun n => n <= 256 /\ ∀ j, j < n -> bitN a j = bitN b j) (fun n => [(5, .int .i64 (n : Int))]) [(2, _), (3, _), (4, _)] (fun n => 256 - n) (0) ⟨rfl, rfl, rfl, trivial⟩ (⟨Nat.zero_le _, fun j h => by omega⟩) ⟨rfl, trivial⟩ (fun n hI => ?_)
 obtain ⟨g1, g2⟩ := hI
 refine zhq 4 Y ?_
 refine fl_dz Y Y (fun h1 => ?_) (fun h1 => ?_)
 ·have hn : n < 256 := by omega
  refine zuq 3 Y ?_
  refine y2q Y Y Y Y Y Y (rat_s _ _ (by omega)) ?_
  refine zuq 2 Y ?_
  refine y2q Y Y Y Y Y Y (rat_s _ _ (by omega)) ?_
  refine fl_cz Y Y ?_
  refine zuq 3 Y ?_
  refine zAq rfl (fun h2 => ?_) (fun h2 => ?_)
  ·refine zeq 5 Y ?_
   refine ziq (n + 1) Y Y (by first | rfl | omega) ⟨by omega, by omega⟩ ?_
   refine zbq 3 Y ?_
   exact yhq (n + 1) (⟨hn, fun j hj => by rcases Nat.lt_succ_iff_lt_or_eq.1 hj with q | rfl; exact g2 j q; omega⟩) (by omega) ⟨rfl, trivial⟩ ⟨rfl, rfl, rfl, trivial⟩ (by repeat (first | exact trivial | refine ⟨by first | rfl | exact zfq (by first | rfl | (simp; done)), ?_⟩)) (by omega) (by repeat (first | exact zNq | refine zQq (by omega) ?_ | refine zOq (by omega) ?_ | refine zPq (by omega) ?_)) rfl
  ·refine zeq 2 Y ?_
   refine yfq (by intro h; cases h) ?_
   refine zDq 9 Y ?_
   refine zgq (.inr rfl) Y ?_
   rw [ucq (j0q a b) (t := n) ⟨g2, .inr ⟨hn, by omega⟩⟩]
 ·have hn : n = 256 := by omega
  refine zuq 14 Y ?_
  refine yfq (by intro h; cases h) ?_
  refine zDq 9 Y ?_
  refine zgq (.inr rfl) Y ?_
  rw [ucq (j0q a b) (t := n) ⟨g2, .inl hn⟩]
theorem rahead_s (a b : Dig) : PS cfg G 170 [dW a, dW b] (.bool (z1q a b)) := by
 refine zYq (fn := Tryz.f170) Y Y Y (Yb rfl) (fun R k0 => ?_)
 refine zhq 11 Y ?_
 refine zjq Y Y Y Y Y Y (rshared_s _ _) ?_
 refine zbq 6 Y ?_
 refine fl_dz Y Y (fun h1 => ?_) (fun h1 => ?_)
 ·have hn : ybq a b < 256 := by omega
  refine zuq 3 Y ?_
  refine y2q Y Y Y Y Y Y (rat_s _ _ (by omega)) ?_
  refine zuq 2 Y ?_
  refine y2q Y Y Y Y Y Y (rat_s _ _ (by omega)) ?_
  refine fl_cz Y Y ?_
  refine zuq 5 Y ?_
  refine zgq (.inr rfl) Y ?_
  rw [Jeq]
  exact congrArg W.bool (decide_eq_decide.2 (by omega))
 ·refine zuq 13 Y ?_
  refine zgq (.inr rfl) Y ?_
  rw [Jeq, decide_eq_false (show ¬ (ybq a b < 256 /\ bitN a (ybq a b) < bitN b (ybq a b)) by omega)]
theorem xor_sub : ∀ x, x < 256 -> ∀ e, e < 8 -> x / 2 ^ e % 2 = 1 -> 2 ^ e <= x /\ x ^^^ 2 ^ e = x - 2 ^ e := by decide +kernel
theorem xor_add : ∀ x, x < 256 -> ∀ e, e < 8 -> ¬ x / 2 ^ e % 2 = 1 -> x + 2 ^ e < 256 /\ x ^^^ 2 ^ e = x + 2 ^ e := by decide +kernel
theorem rturn_in (k : Dig) (i : Nat) (h : i < 256) : PS cfg G 192 [dW k, .int .i64 (i : Int)] (.tup [dW (qvq k i), .int .i64 0]) := by
 have hk := uoq k (i / 8)
 refine zYq (fn := Tryz.f192) Y Y Y (Yb rfl) (fun R k0 => ?_)
 refine zhq 11 Y ?_
 refine qdq Y Y (fun h1 => ?_) (fun h1 => ?_)
 ·exfalso; omega
 refine zbq 2 Y ?_
 refine yYq Y Y ?_
 refine zbq 3 Y ?_
 refine zAq rfl (fun h2 => ?_) (fun h2 => ?_)
 ·exfalso; omega
 refine zeq 14 Y ?_
 refine y0q (α := Nat × Nat) (fun p => p.1 <= 7 /\ i % 8 <= p.1 /\ p.2 = 2 ^ (7 - p.1)) (fun p => [(7, .int .i64 (p.1 : Int)), (6, .int .u8 (p.2 : Nat))]) [(1, _), (2, _), (4, _), (5, _)] (fun p => p.1) ((7, 1)) ⟨rfl, rfl, rfl, rfl, trivial⟩ (⟨Nat.le_refl _, by show i % 8 <= 7; omega, rfl⟩) ⟨rfl, rfl, trivial⟩ (fun p hI => ?_)
 obtain ⟨j, c⟩ := p
 obtain ⟨g1, g2, g3⟩ := hI
 simp only at g1 g2 g3 ⊢
 refine zhq 5 Y ?_
 refine zqq Y Y (congrArg (W.int .i64) (kLq i 8)) ?_
 refine zbq 3 Y ?_
 refine zAq rfl (fun h3 => ?_) (fun h3 => ?_)
 ·have hj : i % 8 < j := by omega
  have hc : 2 * c <= 255 := by
   have := pow_le (j - 1)
   rw [show 7 - (j - 1) = 7 - j + 1 by omega, Nat.pow_succ] at this
   omega
  refine zeq 6 Y ?_
  refine ziq (2 * c) Y Y (by first | rfl | omega) ⟨by omega, by omega⟩ ?_
  refine zbq 6 Y ?_
  refine ziq (j - 1) Y Y (by first | rfl | omega) ⟨by omega, by omega⟩ ?_
  refine yLq 2 Y ?_
  exact yhq ((j - 1, 2 * c)) (⟨by simp only; omega, by simp only; omega, by simp only [g3]; rw [show 7 - (j - 1) = 7 - j + 1 by omega, Nat.pow_succ, Nat.mul_comm]⟩) (by simp only; omega) ⟨rfl, rfl, trivial⟩ ⟨rfl, rfl, rfl, rfl, trivial⟩ (by repeat (first | exact trivial | refine ⟨by first | rfl | exact zfq (by first | rfl | (simp; done)), ?_⟩)) (by omega) (by repeat (first | exact zNq | refine zQq (by omega) ?_ | refine zOq (by omega) ?_ | refine zPq (by omega) ?_)) rfl
 ·have hj : i % 8 = j := by omega
  subst hj
  refine zeq 2 Y ?_
  refine yfq (by intro h; cases h) ?_
  refine zDq 7 Y ?_
  refine zjq Y Y Y Y Y Y (rat_s _ _ (by omega)) ?_
  refine zbq 3 Y ?_
  refine zAq rfl (fun h4 => ?_) (fun h4 => ?_)
  ·have hb : kn k (i / 8) / 2 ^ (7 - i % 8) % 2 = 1 := by
    have h4 : ((bitN k i : Nat) : Int) = 1 := h4
    unfold bitN at h4
    omega
   obtain ⟨q1, q2⟩ := xor_sub _ (by omega) _ (by omega) hb
   refine zeq 2 Y ?_
   refine ziq (i / 8) Y Y (kfq i 8) ⟨by omega, by omega⟩ ?_
   refine zaq rfl (zpq (i := i / 8) Y Y Y Y Y Y (by omega)) ?_
   refine znq rfl (ykq Y Y Y (dW_ld k (by omega))) ?_
   refine zaq Y Y (ziq (kn k (i / 8) - c) Y Y (by first | rfl | omega) ⟨by omega, by omega⟩ ?_)
   refine zaq rfl (zpq (i := i / 8) Y Y Y Y Y Y (by omega)) ?_
   refine znq rfl (jOq Y Y Y Y Y (qzq (i := 0 + i / 8 * 1) (by rw [Nat.zero_add, Nat.mul_one]; exact dW_at k (by omega)) Y Y) rfl) ?_
   refine zbq 10 Y ?_
   refine zgq (.inr rfl) Y ?_
   rw [Nat.zero_add, Nat.mul_one, dW_set k (i / 8) (by omega), g3, <- q2]
   unfold qvq
   rfl
  ·have hb : ¬ kn k (i / 8) / 2 ^ (7 - i % 8) % 2 = 1 := by
    have h4 : ¬ ((bitN k i : Nat) : Int) = 1 := h4
    unfold bitN at h4
    omega
   obtain ⟨q1, q2⟩ := xor_add _ (by omega) _ (by omega) hb
   refine zeq 2 Y ?_
   refine ziq (i / 8) Y Y (kfq i 8) ⟨by omega, by omega⟩ ?_
   refine zaq rfl (zpq (i := i / 8) Y Y Y Y Y Y (by omega)) ?_
   refine znq rfl (ykq Y Y Y (dW_ld k (by omega))) ?_
   refine zaq Y Y (ziq (kn k (i / 8) + c) Y Y (by first | rfl | omega) ⟨by omega, by omega⟩ ?_)
   refine zaq rfl (zpq (i := i / 8) Y Y Y Y Y Y (by omega)) ?_
   refine znq rfl (jOq Y Y Y Y Y (qzq (i := 0 + i / 8 * 1) (by rw [Nat.zero_add, Nat.mul_one]; exact dW_at k (by omega)) Y Y) rfl) ?_
   refine zbq 10 Y ?_
   refine zgq (.inr rfl) Y ?_
   rw [Nat.zero_add, Nat.mul_one, dW_set k (i / 8) (by omega), g3, <- q2]
   unfold qvq
   rfl
theorem rvalue_s (l : List UInt8) (f : Bool) : PS cfg G 190 [.fz (zdq l) 1 f] (.bool (valB l)) := by
 have e := zkq l
 refine zYq (fn := Tryz.f190) Y Y Y (Yb rfl) (fun R k0 => ?_)
 refine zhq 8 Y ?_
 refine zqq (w' := .int .i64 (l.length : Int)) Y Y (by rw [<- e]; rfl) ?_
 refine qdq Y Y (fun h1 => ?_) (fun h1 => ?_)
 ·have h0 : 0 < l.length := by omega
  refine zbq 2 Y ?_
  refine zqq (w' := .int .i64 (l.length : Int)) Y Y (by rw [<- e]; rfl) ?_
  refine yYq Y Y ?_
  refine zbq 5 Y ?_
  refine zgq (.inr rfl) Y ?_
  unfold valB
  rw [decide_eq_true h0, Bool.true_and]
  exact congrArg W.bool (decide_eq_decide.2 (by omega))
 ·have h0 : ¬ 0 < l.length := by omega
  refine zbq 9 Y ?_
  refine zgq (.inr rfl) Y ?_
  unfold valB
  rw [decide_eq_false h0, Bool.false_and]
end
section
attribute [local irreducible] CoW OpW FlW Step Spec
variable {G : Nat -> Option W}
theorem ZCq (l : List UInt8) (f : Bool) (hl : l.length <= 70368744177664) : PS cfg G 38 [.fz (zdq l) 1 f] (bW l) := by
 refine j6q (fn := Tryz.f38) Y Y Y (Yb rfl) (fun R k0 => ?_)
 cases l with
 | nil =>
  skip
  refine zhq 14 Y ?_
  refine znq rfl (y5q Y Y (Jcq Y Y Y Y Y)) ?_
  refine zbq 4 Y ?_
  refine keq (by first | exact .inr rfl | exact .inl rfl) Y ?_
  (repeat (first | exact .nil | refine .cons ?_ ?_ | exact jaq | exact .nilfz | refine .fn ?_ ?_ | (refine qeq Y ?_ rfl; (first | rfl | (focus (simp; done)))) | (refine .sl Y ?_ rfl (by intro h; cases h); (first | rfl | (focus (simp; done)))) | (refine .pur ?_; (first | rfl | (focus (simp; done)))) | (refine .fzw ?_; (first | rfl | (focus (simp; done)))) | refine .agg ?_ | refine .arr ?_ | refine .tup ?_))
 | cons c l =>
  simp only [List.length_cons] at hl
  refine zhq 14 Y ?_
  refine znq rfl (y5q Y Y (xKq (news := zdq (c :: l)) (k := ti5) Y Y Y Y Y (by simp [zdq]) (by show (zdq (c :: l)).length * 1 <= _; rw [zkq]; simp only [List.length_cons]; omega) (by rw [zkq]; simp only [List.length_cons]; omega))) ?_
  refine zbq 4 Y ?_
  refine keq (by first | exact .inr rfl | exact .inl rfl) Y ?_
  exact view_sl (by decide) rfl (by simp)
@[simp] theorem psW_drop (ps : List Pr) (i : Nat) : purL ((ps.map pW).drop i) = true := by rw [<- List.map_drop]; exact kqq _
@[simp] theorem psW_take (ps : List Pr) (i : Nat) : purL ((ps.map pW).take i) = true := by rw [<- List.map_take]; exact kqq _
theorem rptwin_s (ps : List Pr) (f : Bool) (hb : ps.length <= 1000000000) (hv : ∀ x ∈ ps, x.2.length <= 70368744177664) : PS cfg G 235 [.fz (ps.map pW) 33 f] (psW ps) := by
 have e : (ps.map pW).length = ps.length := List.length_map _
 refine j6q (fn := Tryz.f235) Y Y Y (Yb rfl) (fun R k0 => ?_)
 refine zhq 17 Y ?_
 refine Q9q (α := Nat) (fun i => i <= ps.length) 3 (fun i => (ps.take i).map pW) 90 33 (fun i => [(4, .int .i64 (i : Int))]) [(0, _), (2, _)] _ (fun i => ps.length - i) (0) ⟨rfl, rfl, trivial⟩ (Nat.zero_le _) ⟨rfl, trivial⟩ Y Y Y (fun i hI => ?_)
 refine zhq 5 Y ?_
 refine zqq (w' := .int .i64 (ps.length : Int)) Y Y (by rw [<- e]; rfl) ?_
 refine zbq 3 Y ?_
 refine zAq rfl (fun h1 => ?_) (fun h1 => ?_)
 ·have hi : i < ps.length := by omega
  obtain ⟨x, hx⟩ : ∃ x, ps[i]? = some x := ⟨_, List.getElem?_eq_getElem hi⟩
  have hxv := hv x (List.mem_of_getElem? hx)
  refine zeq 8 Y ?_
  refine zcq rfl (zBq (i := i) Y Y Y Y Y Y Y (ynq pW hx)) ?_
  refine zuq 4 Y ?_
  refine zcq rfl (zBq (i := i) Y Y Y Y Y Y Y (ynq pW hx)) ?_
  refine zuq 2 Y ?_
  refine y2q Y Y Y Y Y Y (ZCq _ _ (by first | assumption | omega)) ?_
  refine zuq 2 Y ?_
  refine yHq rfl (y5q Y Y (xLq [_] (k := ti90) (news := [pW x]) Y Y Y Y Y (qsq Y Y Y Y) (by simp) (by show (((ps.take i).map pW).length + 1) * 56 <= _; simp; omega) (by show ((ps.take i).map pW).length + 1 <= _; simp; omega) rfl (by simp))) (evs_G (by first | rfl | kernel_rfl) (by first | rfl | kernel_rfl)) ?_
  refine zuq 6 Y ?_
  refine ziq (i + 1) Y Y (by first | rfl | omega) ⟨by omega, by omega⟩ ?_
  refine yLq 2 Y ?_
  exact kWq 2 (i + 1) (hi) (by omega) (Nat.zero_le _) (by rw [List.take_add_one, hx, List.map_append]; rfl) (by first | assumption | (simp; done) | (simp [zdq]; done)) (by omega) (by first | omega | decide) rfl (by first | rfl | exact List.length_append.symm) ⟨rfl, trivial⟩ ⟨rfl, rfl, trivial⟩ (by repeat (first | exact trivial | refine ⟨by first | rfl | exact zfq (by first | rfl | (simp; done)), ?_⟩)) (by repeat (first | exact trivial | refine ⟨by first | rfl | exact zfq (by first | rfl | (simp; done)), ?_⟩)) rfl (by first | rfl | assumption | (simp; done)) (by repeat (first | exact trivial | refine ⟨⟨by decide, rfl, by first | rfl | exact zfq (by first | rfl | (simp; done))⟩, ?_⟩)) (by first | decide | simp)
 ·have hi : i = ps.length := by omega
  subst hi
  refine zeq 2 Y ?_
  refine qAq (by intro h; cases h) ?_
  refine zDq 9 Y ?_
  refine keq (by first | exact .inr rfl | exact .inl rfl) Y ?_
  rw [List.take_length]
  exact vRq (H0 := []) (by decide) (kqq _) (by simp)
def idxP (ps : List Pr) (k : Dig) : Int := match ps.findIdx? (fun p => decide (p.1 = k)) with
 | some i => i
 | none => -1
theorem rfind_s (ps : List Pr) (f : Bool) (k : Dig) (hb : ps.length <= 1000000000) : PS cfg G 185 [.fz (ps.map pW) 33 f, dW k] (.int .i64 (idxP ps k)) := by
 have e : (ps.map pW).length = ps.length := List.length_map _
 refine zYq (fn := Tryz.f185) Y Y Y (Yb rfl) (fun R k0 => ?_)
 refine zhq 13 Y ?_
 refine y0q (α := Nat) (fun i => i <= ps.length /\ ∀ j x, j < i -> ps[j]? = some x -> x.1 ≠ k) (fun i => [(5, .int .i64 (i : Int))]) [(0, _), (3, _), (4, _)] (fun i => ps.length - i) (0) ⟨rfl, rfl, rfl, trivial⟩ (⟨Nat.zero_le _, fun j x h => by omega⟩) ⟨rfl, trivial⟩ (fun i hI => ?_)
 obtain ⟨g1, g2⟩ := hI
 refine zhq 5 Y ?_
 refine zqq (w' := .int .i64 (ps.length : Int)) Y Y (by rw [<- e]; rfl) ?_
 refine zbq 3 Y ?_
 refine zAq rfl (fun h1 => ?_) (fun h1 => ?_)
 ·have hi : i < ps.length := by omega
  obtain ⟨x, hx⟩ : ∃ x, ps[i]? = some x := ⟨_, List.getElem?_eq_getElem hi⟩
  refine zeq 8 Y ?_
  refine zcq rfl (zBq (i := i) Y Y Y Y Y Y Y (ynq pW hx)) ?_
  refine zuq 3 Y ?_
  refine fl_cmp rfl (qKq Y Y Y Y (qFq Y Y Y Y Y Y _ _ 250)) ySq ?_
  refine zuq 2 Y ?_
  refine zAq rfl (fun h2 => ?_) (fun h2 => ?_)
  ·refine zeq 9 Y ?_
   refine yfq (by intro h; cases h) ?_
   refine zDq 2 Y ?_
   refine zgq (.inr rfl) Y ?_
   have : ps.findIdx? (fun p => decide (p.1 = k)) = some i := by
    rw [List.findIdx?_eq_some_iff_getElem]
    refine ⟨hi, ?_, fun j hj => ?_⟩
    ·have := (List.getElem?_eq_some_iff.1 hx).2
     rw [this]; exact decide_eq_true h2
    ·simp only [decide_eq_true_eq]
     exact g2 j _ hj (List.getElem?_eq_getElem (by omega))
   unfold idxP
   rw [this]
  ·refine zeq 5 Y ?_
   refine ziq (i + 1) Y Y (by first | rfl | omega) ⟨by omega, by omega⟩ ?_
   refine yLq 2 Y ?_
   exact yhq (i + 1) (⟨hi, fun j y hj hy => by rcases Nat.lt_succ_iff_lt_or_eq.1 hj with q | rfl; exact g2 j y q hy; have := Option.some.inj (hx.symm.trans hy); subst this; exact h2⟩) (by omega) ⟨rfl, trivial⟩ ⟨rfl, rfl, rfl, trivial⟩ (by repeat (first | exact trivial | refine ⟨by first | rfl | exact zfq (by first | rfl | (simp; done)), ?_⟩)) (by omega) (by repeat (first | exact zNq | refine zQq (by omega) ?_ | refine zOq (by omega) ?_ | refine zPq (by omega) ?_)) rfl
 ·refine zeq 2 Y ?_
  refine yfq (by intro h; cases h) ?_
  refine zDq 8 Y ?_
  refine zgq (.inr rfl) Y ?_
  have : ps.findIdx? (fun p => decide (p.1 = k)) = none := by
   rw [List.findIdx?_eq_none_iff]
   intro x hx
   obtain ⟨j, hj⟩ := List.getElem?_of_mem hx
   have := (List.getElem?_eq_some_iff.1 hj).1
   exact decide_eq_false (g2 j x (by omega) hj)
  unfold idxP
  rw [this]
theorem vQq (ps : List Pr) (k : Dig) {i : Nat} {x : Pr} (hx : ps[i]? = some x) : zKq (ps.take (i + 1)) k = if x.1 = k then zKq (ps.take i) k else zKq (ps.take i) k ++ [x] := by
 unfold zKq
 rw [List.take_add_one, hx]
 simp only [Option.toList_some, List.filter_append]
 split
 ·rename_i h; simp [h]
 ·rename_i h; simp [h]
theorem without_len (ps : List Pr) (k : Dig) (i : Nat) : (zKq (ps.take i) k).length <= ps.length := Nat.le_trans (List.length_filter_le _ _) (by simp; omega)
theorem YUq (ps : List Pr) (f : Bool) (k : Dig) (hb : ps.length <= 1000000000) (hv : ∀ x ∈ ps, x.2.length <= 70368744177664) : PS cfg G 187 [.fz (ps.map pW) 33 f, dW k] (psW (zKq ps k)) := by
 have e : (ps.map pW).length = ps.length := List.length_map _
 have hb' : (zKq ps k).length <= 1000000000 := Nat.le_trans (List.length_filter_le _ _) hb
 have hv' : ∀ x ∈ zKq ps k, x.2.length <= 70368744177664 := fun x hx => hv x (mem_withoutL.1 hx).1
 refine j6q (fn := Tryz.f187) Y Y Y (Yb rfl) (fun R k0 => ?_)
 refine zhq 18 Y ?_
 refine Q9q (α := Nat) (fun i => i <= ps.length) 5 (fun i => (zKq (ps.take i) k).map pW) 90 33 (fun i => [(6, .int .i64 (i : Int))]) [(0, _), (3, _), (4, _)] _ (fun i => ps.length - i) (0) ⟨rfl, rfl, rfl, trivial⟩ (Nat.zero_le _) ⟨rfl, trivial⟩ Y Y Y (fun i hI => ?_)
 have hl := without_len ps k i
 refine zhq 5 Y ?_
 refine zqq (w' := .int .i64 (ps.length : Int)) Y Y (by rw [<- e]; rfl) ?_
 refine zbq 3 Y ?_
 refine zAq rfl (fun h1 => ?_) (fun h1 => ?_)
 ·have hi : i < ps.length := by omega
  obtain ⟨x, hx⟩ : ∃ x, ps[i]? = some x := ⟨_, List.getElem?_eq_getElem hi⟩
  refine zeq 8 Y ?_
  refine zcq rfl (zBq (i := i) Y Y Y Y Y Y Y (ynq pW hx)) ?_
  refine zuq 3 Y ?_
  refine fl_cmp rfl (kuq Y Y Y Y (qFq Y Y Y Y Y Y _ _ 250)) (vAq ySq) ?_
  refine zuq 2 Y ?_
  refine zAq rfl (fun h2 => ?_) (fun h2 => ?_)
  ·refine zeq 4 Y ?_
   refine zaq rfl (zBq (i := i) Y Y Y Y Y Y Y (ynq pW hx)) ?_
   refine zbq 2 Y ?_
   refine znq rfl (y5q Y Y (xLq [_, _] (k := ti90) (news := [pW x]) Y Y Y Y Y (qsq Y Y Y Y) (by simp) (by show (((zKq (ps.take i) k).map pW).length + 1) * 56 <= _; rw [List.length_map]; omega) (by show ((zKq (ps.take i) k).map pW).length + 1 <= _; rw [List.length_map]; omega) rfl (by simp))) ?_
   refine zbq 6 Y ?_
   refine ziq (i + 1) Y Y (by first | rfl | omega) ⟨by omega, by omega⟩ ?_
   refine yLq 2 Y ?_
   exact kWq 3 (i + 1) (hi) (by omega) (Nat.zero_le _) (by rw [vQq ps k hx, if_neg h2, List.map_append]; rfl) (by first | assumption | (simp; done) | (simp [zdq]; done)) (by omega) (by first | omega | decide) rfl (by first | rfl | exact List.length_append.symm) ⟨rfl, trivial⟩ ⟨rfl, rfl, rfl, trivial⟩ (by repeat (first | exact trivial | refine ⟨by first | rfl | exact zfq (by first | rfl | (simp; done)), ?_⟩)) (by repeat (first | exact trivial | refine ⟨by first | rfl | exact zfq (by first | rfl | (simp; done)), ?_⟩)) rfl (by first | rfl | assumption | (simp; done)) (by repeat (first | exact trivial | refine ⟨⟨by decide, rfl, by first | rfl | exact zfq (by first | rfl | (simp; done))⟩, ?_⟩)) (by first | decide | simp)
  ·have hxk : x.1 = k := by simpa using h2
   refine zeq 5 Y ?_
   refine ziq (i + 1) Y Y (by first | rfl | omega) ⟨by omega, by omega⟩ ?_
   refine yLq 2 Y ?_
   exact q_againG0 (i + 1) (hi) (by omega) (Nat.zero_le _) (by rw [vQq ps k hx, if_pos hxk]) rfl ⟨rfl, trivial⟩ ⟨rfl, rfl, rfl, trivial⟩ (by repeat (first | exact trivial | refine ⟨by first | rfl | exact zfq (by first | rfl | (simp; done)), ?_⟩)) (by repeat (first | exact trivial | refine ⟨by first | rfl | exact zfq (by first | rfl | (simp; done)), ?_⟩)) rfl (by first | rfl | assumption | (simp; done)) (by repeat (first | exact trivial | refine ⟨⟨by decide, rfl, by first | rfl | exact zfq (by first | rfl | (simp; done))⟩, ?_⟩)) (by first | decide | simp) (by omega)
 ·have hi : i = ps.length := by omega
  subst hi
  rw [List.take_length]
  refine zeq 2 Y ?_
  refine qAq (by intro h; cases h) ?_
  refine zDq 4 Y ?_
  refine xvq (fun _ => ent_frzA (fr2 := [(5, psW (zKq ps k))]) ⟨⟨_, rfl, vRq (H0 := [(0, 23, dW k)]) (by decide) (kqq _) (by simp)⟩, trivial⟩) ?_; refine zaq Y Y ?_
  refine zjq Y Y Y Y Y Y (rptwin_s _ _ (by assumption) (by assumption)) ?_
  refine zbq 4 Y ?_
  refine keq (by first | exact .inr rfl | exact .inl rfl) Y ?_
  (repeat (first | exact .nil | refine .cons ?_ ?_ | exact jaq | exact .nilfz | refine .fn ?_ ?_ | (refine qeq Y ?_ rfl; (first | rfl | (focus (simp; done)))) | (refine .sl Y ?_ rfl (by intro h; cases h); (first | rfl | (focus (simp; done)))) | (refine .pur ?_; (first | rfl | (focus (simp; done)))) | (refine .fzw ?_; (first | rfl | (focus (simp; done)))) | refine .agg ?_ | refine .arr ?_ | refine .tup ?_))
def withR (l : List Pr) (k : Dig) (v : List UInt8) : List Pr := (zKq l k).takeWhile (fun p => z1q p.1 k) ++ (k, v) :: (zKq l k).dropWhile (fun p => z1q p.1 k)
theorem YQq {α : Type} {p : α -> Bool} : ∀ {l : List α} {n : Nat}, n <= l.length -> (∀ j x, j < n -> l[j]? = some x -> p x = true) -> (∀ x, l[n]? = some x -> p x = false) -> l.takeWhile p = l.take n /\ l.dropWhile p = l.drop n
 | [], n, h, _, _ => by simp at h; subst h; simp
 | x :: l, 0, _, _, h => by have := h x rfl; simp [this]
 | x :: l, n + 1, h, h1, h2 => by
  have hx := h1 0 x (by omega) rfl
  obtain ⟨q1, q2⟩ := YQq (l := l) (n := n) (by simpa using h) (fun j y hj hy => h1 (j + 1) y (by omega) (by simpa using hy)) (fun y hy => h2 y (by simpa using hy))
  simp [hx, q1, q2]
theorem rwith_s (ps : List Pr) (f g : Bool) (k : Dig) (v : List UInt8) (hb : ps.length <= 1000000) (hv : ∀ x ∈ ps, x.2.length <= 70368744177664) (hw : v.length <= 70368744177664) : PS cfg G 188 [.fz (ps.map pW) 33 f, dW k, .fz (zdq v) 1 g] (psW (withR ps k v)) := by
 have hb2 : ps.length <= 1000000000 := by omega
 obtain ⟨rs, hrs⟩ : ∃ rs, rs = zKq ps k := ⟨_, rfl⟩
 have hl : rs.length <= 1000000 := by rw [hrs]; exact Nat.le_trans (List.length_filter_le _ _) hb
 have e : (rs.map pW).length = rs.length := List.length_map _
 refine j6q (fn := Tryz.f188) Y Y Y (Yb rfl) (fun R k0 => ?_)
 refine zhq 10 Y ?_
 refine zjq Y Y Y Y Y Y (yMq (w' := psW rs) (YUq ps f k hb2 hv) (by rw [hrs])) ?_
 refine zbq 10 Y ?_
 refine y0q (α := Nat) (fun n => n <= rs.length /\ ∀ j x, j < n -> rs[j]? = some x -> z1q x.1 k = true) (fun n => [(8, .int .i64 (n : Int))]) [(2, _), (4, _), (6, _), (7, _)] (fun n => rs.length - n) (0) ⟨rfl, rfl, rfl, rfl, trivial⟩ (⟨Nat.zero_le _, fun j x h => by omega⟩) ⟨rfl, trivial⟩ (fun n hI => ?_)
 obtain ⟨g1, g2⟩ := hI
 have el : ((rs.take n).map pW).length = n := by simp; omega
 have rest : (∀ x, rs[n]? = some x -> z1q x.1 k = false) -> withR ps k v = rs.take n ++ (k, v) :: rs.drop n := fun h => by
  obtain ⟨q1, q2⟩ := YQq g1 g2 h
  unfold withR
  rw [<- hrs, q1, q2]
 refine zhq 5 Y ?_
 refine jpq (w' := .int .i64 (rs.length : Int)) Y Y (by rw [<- e]; rfl) ?_
 refine fl_dz Y Y (fun h1 => ?_) (fun h1 => ?_)
 ·have hn : n < rs.length := by omega
  obtain ⟨x, hx⟩ : ∃ x, rs[n]? = some x := ⟨_, List.getElem?_eq_getElem hn⟩
  refine zuq 3 Y ?_
  refine zcq rfl (zBq (i := n) Y Y Y Y Y Y Y (ynq pW hx)) ?_
  refine zuq 3 Y ?_
  refine y2q Y Y Y Y Y Y (rahead_s _ _) ?_
  refine zuq 3 Y ?_
  refine zAq rfl (fun h2 => ?_) (fun h2 => ?_)
  ·refine zeq 5 Y ?_
   refine ziq (n + 1) Y Y (by first | rfl | omega) ⟨by omega, by omega⟩ ?_
   refine zbq 3 Y ?_
   exact yhq (n + 1) (⟨hn, fun j y hj hy => by rcases Nat.lt_succ_iff_lt_or_eq.1 hj with q | rfl; exact g2 j y q hy; have := Option.some.inj (hx.symm.trans hy); subst this; exact h2⟩) (by omega) ⟨rfl, trivial⟩ ⟨rfl, rfl, rfl, rfl, trivial⟩ (by repeat (first | exact trivial | refine ⟨by first | rfl | exact zfq (by first | rfl | (simp; done)), ?_⟩)) (by omega) (by repeat (first | exact zNq | refine zQq (by omega) ?_ | refine zOq (by omega) ?_ | refine zPq (by omega) ?_)) rfl
  ·have hno : ∀ y, rs[n]? = some y -> z1q y.1 k = false := fun y hy => by
    have := Option.some.inj (hx.symm.trans hy); subst this; simpa using h2
   refine zeq 2 Y ?_
   refine yfq (by intro h; cases h) ?_
   refine zDq 9 Y ?_
   refine xvq (fun _ => ent_up (fr2 := [(2, .fz (zdq v) 1 g), (4, .ptr 0 0), (7, psW rs), (8, .int .i64 (n : Int)), (9, gW 1 33 [])]) ⟨rfl, rfl, rfl, rfl, rfl, trivial⟩) ?_; refine zaq Y Y ?_
   refine zbq 2 Y ?_
   refine zaq rfl (vdq (ys := (rs.take n).map pW) (l := 0) (h := n) Y Y Y Y Y Y Y (Nat.zero_le _) (by rw [e]; exact g1) (by rw [List.drop_zero, List.map_take]; rfl) rfl) ?_
   refine vzq (b := 1) (xs := []) (news := (rs.take n).map pW) (k := ti90) (H0 := [(0, 23, dW k)]) [_] [(2, .fz (zdq v) 1 g), (4, .ptr 0 0), (7, psW rs), (8, .int .i64 (n : Int))] Y Y Y Y Y Y Y Y Y Y Y (by show (0 + ((rs.take n).map pW).length) * 56 <= _; omega) (by show 0 + ((rs.take n).map pW).length <= _; omega) rfl (by simp) (by omega) (by omega) ⟨rfl, rfl, rfl, rfl, trivial⟩ rfl ⟨zfq (by simp), rfl, zfq (by simp), rfl, trivial⟩ (by simp) ⟨⟨by omega, rfl, zfq (by simp)⟩, trivial⟩ (by simp) ?_
   refine zbq 8 Y ?_
   refine y2q Y Y Y Y Y Y (ZCq _ _ (by first | assumption | omega)) ?_
   refine zuq 2 Y ?_
   refine yHq rfl (y5q Y Y (xLq [_, _] (k := ti90) (news := [pW (k, v)]) Y Y Y Y Y (qsq Y Y Y Y) (by simp) (by show (((rs.take n).map pW).length + 1) * 56 <= _; omega) (by show ((rs.take n).map pW).length + 1 <= _; omega) rfl (by simp))) (evs_G (by first | rfl | kernel_rfl) (by first | rfl | kernel_rfl)) ?_
   refine zuq 5 Y ?_
   refine xvq (fun _ => jgq (b := 1) (H0 := [(0, 23, dW k)]) (fr2 := [(4, .ptr 0 0), (7, psW rs), (8, .int .i64 (n : Int))]) 3 9 (by omega) (by omega) (by omega) (by simp) Y Y ⟨rfl, rfl, rfl, trivial⟩ ⟨rfl, zfq (by simp), rfl, trivial⟩ rfl (by simp) ⟨⟨by omega, rfl, zfq (by simp)⟩, trivial⟩ (by simp)) ?_; refine zaq Y Y ?_
   refine zbq 2 Y ?_
   refine zaq rfl (vdq (ys := (rs.drop n).map pW) (l := n) (h := (rs.map pW).length) Y Y Y Y Y Y Y (by rw [e]; exact g1) (Nat.le_refl _) (by rw [List.take_of_length_le (by simp), List.map_drop]) rfl) ?_
   refine vzq (b := 1) (news := (rs.drop n).map pW) (k := ti90) (H0 := [(0, 23, dW k)]) [_] [] Y Y Y Y Y Y Y Y Y Y Y (by show (((rs.take n).map pW ++ [pW (k, v)]).length + ((rs.drop n).map pW).length) * 56 <= _; simp; omega) (by show ((rs.take n).map pW ++ [pW (k, v)]).length + ((rs.drop n).map pW).length <= _; simp; omega) rfl (by simp) (by omega) (by omega) trivial rfl trivial (by simp) ⟨⟨by omega, rfl, zfq (by simp)⟩, trivial⟩ (by simp) ?_
   refine zbq 4 Y ?_
   refine keq (by first | exact .inr rfl | exact .inl rfl) Y ?_
   rw [rest (by assumption)]
   have := vRq (b := 1) (e := 33) (ty := 90) (l := (rs.take n).map pW ++ [pW (k, v)] ++ (rs.drop n).map pW) (H0 := [(0, 23, dW k)]) (by decide) (by simp) (by simp)
   unfold psW
   rw [show (rs.take n ++ (k, v) :: rs.drop n).map pW = (rs.take n).map pW ++ [pW (k, v)] ++ (rs.drop n).map pW by simp]
   exact this
 ·have hno : ∀ y, rs[n]? = some y -> z1q y.1 k = false := fun y hy => by
   have := (List.getElem?_eq_some_iff.1 hy).1; omega
  refine zuq 14 Y ?_
  refine yfq (by intro h; cases h) ?_
  refine zDq 9 Y ?_
  refine xvq (fun _ => ent_up (fr2 := [(2, .fz (zdq v) 1 g), (4, .ptr 0 0), (7, psW rs), (8, .int .i64 (n : Int)), (9, gW 1 33 [])]) ⟨rfl, rfl, rfl, rfl, rfl, trivial⟩) ?_; refine zaq Y Y ?_
  refine zbq 2 Y ?_
  refine zaq rfl (vdq (ys := (rs.take n).map pW) (l := 0) (h := n) Y Y Y Y Y Y Y (Nat.zero_le _) (by rw [e]; exact g1) (by rw [List.drop_zero, List.map_take]; rfl) rfl) ?_
  refine vzq (b := 1) (xs := []) (news := (rs.take n).map pW) (k := ti90) (H0 := [(0, 23, dW k)]) [_] [(2, .fz (zdq v) 1 g), (4, .ptr 0 0), (7, psW rs), (8, .int .i64 (n : Int))] Y Y Y Y Y Y Y Y Y Y Y (by show (0 + ((rs.take n).map pW).length) * 56 <= _; omega) (by show 0 + ((rs.take n).map pW).length <= _; omega) rfl (by simp) (by omega) (by omega) ⟨rfl, rfl, rfl, rfl, trivial⟩ rfl ⟨zfq (by simp), rfl, zfq (by simp), rfl, trivial⟩ (by simp) ⟨⟨by omega, rfl, zfq (by simp)⟩, trivial⟩ (by simp) ?_
  refine zbq 8 Y ?_
  refine y2q Y Y Y Y Y Y (ZCq _ _ (by first | assumption | omega)) ?_
  refine zuq 2 Y ?_
  refine yHq rfl (y5q Y Y (xLq [_, _] (k := ti90) (news := [pW (k, v)]) Y Y Y Y Y (qsq Y Y Y Y) (by simp) (by show (((rs.take n).map pW).length + 1) * 56 <= _; omega) (by show ((rs.take n).map pW).length + 1 <= _; omega) rfl (by simp))) (evs_G (by first | rfl | kernel_rfl) (by first | rfl | kernel_rfl)) ?_
  refine zuq 5 Y ?_
  refine xvq (fun _ => jgq (b := 1) (H0 := [(0, 23, dW k)]) (fr2 := [(4, .ptr 0 0), (7, psW rs), (8, .int .i64 (n : Int))]) 3 9 (by omega) (by omega) (by omega) (by simp) Y Y ⟨rfl, rfl, rfl, trivial⟩ ⟨rfl, zfq (by simp), rfl, trivial⟩ rfl (by simp) ⟨⟨by omega, rfl, zfq (by simp)⟩, trivial⟩ (by simp)) ?_; refine zaq Y Y ?_
  refine zbq 2 Y ?_
  refine zaq rfl (vdq (ys := (rs.drop n).map pW) (l := n) (h := (rs.map pW).length) Y Y Y Y Y Y Y (by rw [e]; exact g1) (Nat.le_refl _) (by rw [List.take_of_length_le (by simp), List.map_drop]) rfl) ?_
  refine vzq (b := 1) (news := (rs.drop n).map pW) (k := ti90) (H0 := [(0, 23, dW k)]) [_] [] Y Y Y Y Y Y Y Y Y Y Y (by show (((rs.take n).map pW ++ [pW (k, v)]).length + ((rs.drop n).map pW).length) * 56 <= _; simp; omega) (by show ((rs.take n).map pW ++ [pW (k, v)]).length + ((rs.drop n).map pW).length <= _; simp; omega) rfl (by simp) (by omega) (by omega) trivial rfl trivial (by simp) ⟨⟨by omega, rfl, zfq (by simp)⟩, trivial⟩ (by simp) ?_
  refine zbq 4 Y ?_
  refine keq (by first | exact .inr rfl | exact .inl rfl) Y ?_
  rw [rest (by assumption)]
  have := vRq (b := 1) (e := 33) (ty := 90) (l := (rs.take n).map pW ++ [pW (k, v)] ++ (rs.drop n).map pW) (H0 := [(0, 23, dW k)]) (by decide) (by simp) (by simp)
  unfold psW
  rw [show (rs.take n ++ (k, v) :: rs.drop n).map pW = (rs.take n).map pW ++ [pW (k, v)] ++ (rs.drop n).map pW by simp]
  exact this
theorem withR_eq {l : List Pr} (h : Srt l) (k : Dig) (v : List UInt8) : withR l k v = klq l k v := by
 have key : ∀ {l : List Pr}, Srt l -> (zKq l k).takeWhile (fun p => z1q p.1 k) = l.filter (fun p => z1q p.1 k) /\ (zKq l k).dropWhile (fun p => z1q p.1 k) = l.filter (fun p => z1q k p.1) := by
  intro l
  induction l with
  | nil => intro _; exact ⟨rfl, rfl⟩
  | cons x l ih =>
   intro h
   obtain ⟨h1, h2⟩ := List.pairwise_cons.1 h
   obtain ⟨q1, q2⟩ := ih h2
   by_cases e : x.1 = k
   ·have e1 : z1q x.1 k = false := by rw [e]; exact jBq k
    have e2 : z1q k x.1 = false := by rw [e]; exact jBq k
    have hno : ∀ y ∈ l, z1q y.1 k = false := fun y hy => qqq (by rw [<- e]; exact h1 y hy)
    have ew : zKq (x :: l) k = zKq l k := by simp [zKq, e]
    rw [ew, q1, q2]
    simp [e1, e2]
   ·have ew : zKq (x :: l) k = x :: zKq l k := by simp [zKq, e]
    rw [ew]
    cases ha : z1q x.1 k with
    | true =>
     have hb := qqq ha
     simp [ha, hb, q1, q2]
    | false =>
     have hb : z1q k x.1 = true := (uCq e).resolve_left (by rw [ha]; exact Bool.false_ne_true)
     have hno : ∀ y ∈ l, z1q y.1 k = false := fun y hy => qqq (xcq hb (h1 y hy))
     have hyes : ∀ y ∈ l, z1q k y.1 = true := fun y hy => xcq hb (h1 y hy)
     have hw : zKq l k = l := q9q fun p hp q => by
      have := hyes p hp
      rw [q, jBq] at this; cases this
     simp only [List.takeWhile_cons, List.dropWhile_cons, List.filter_cons, ha, hb, hw, if_true, if_false]
     refine ⟨(Z5q fun y hy => hno y hy).symm, ?_⟩
     simp only [Bool.false_eq_true, if_false]
     rw [QZq fun y hy => hyes y hy]
 obtain ⟨q1, q2⟩ := key h
 unfold withR klq
 rw [q1, q2]
theorem rpsame_s (a b : List Pr) (f g : Bool) (hb : a.length <= 1000000000) : PS cfg G 56 [.fz (a.map pW) 33 f, .fz (b.map pW) 33 g] (.bool (decide (a = b))) := by
 have ea : (a.map pW).length = a.length := List.length_map _
 have eb : (b.map pW).length = b.length := List.length_map _
 refine zYq (fn := Tryz.f56) Y Y Y (Yb rfl) (fun R k0 => ?_)
 refine zhq 9 Y ?_
 refine zqq (w' := .int .i64 (a.length : Int)) Y Y (by rw [<- ea]; rfl) ?_
 refine zaq Y Y (zqq (w' := .int .i64 (b.length : Int)) Y Y (by rw [<- eb]; rfl) ?_)
 refine zbq 3 Y ?_
 refine zAq rfl (fun h1 => ?_) (fun h1 => ?_)
 ·refine zeq 7 Y ?_
  refine zgq (.inr rfl) Y ?_
  rw [decide_eq_false]
  rintro rfl
  exact h1 rfl
 ·have hl : a.length = b.length := by omega
  refine zeq 9 Y ?_
  refine y0q (α := Nat) (fun i => i <= a.length /\ a.take i = b.take i) (fun i => [(5, .int .i64 (i : Int))]) [(0, _), (1, _), (4, _)] (fun i => a.length - i) (0) ⟨rfl, rfl, rfl, trivial⟩ (⟨Nat.zero_le _, rfl⟩) ⟨rfl, trivial⟩ (fun i hI => ?_)
  obtain ⟨g1, g2⟩ := hI
  refine zhq 5 Y ?_
  refine zqq (w' := .int .i64 (a.length : Int)) Y Y (by rw [<- ea]; rfl) ?_
  refine zbq 3 Y ?_
  refine zAq rfl (fun h2 => ?_) (fun h2 => ?_)
  ·have hi : i < a.length := by omega
   obtain ⟨x, hx⟩ : ∃ x, a[i]? = some x := ⟨_, List.getElem?_eq_getElem hi⟩
   obtain ⟨y, hy⟩ : ∃ y, b[i]? = some y := ⟨_, List.getElem?_eq_getElem (by omega)⟩
   have no : x ≠ y -> decide (a = b) = false := fun h => decide_eq_false fun q => h (by subst q; exact Option.some.inj (hx.symm.trans hy))
   refine zeq 8 Y ?_
   refine zcq rfl (zBq (i := i) Y Y Y Y Y Y Y (ynq pW hx)) ?_
   refine zuq 4 Y ?_
   refine zcq rfl (zBq (i := i) Y Y Y Y Y Y Y (ynq pW hy)) ?_
   refine zuq 2 Y ?_
   refine fl_dec rfl (kuq Y Y Y Y (qFq Y Y Y Y Y Y _ _ 250)) (vAq ySq) (fun h3 => ?_) (fun h3 => ?_)
   ·refine zuq 25 Y ?_
    refine yfq (by intro h; cases h) ?_
    refine zDq 2 Y ?_
    exact zgq (.inr rfl) rfl (by rw [no fun q => h3 (by rw [q])])
   ·have hk : x.1 = y.1 := by simpa using h3
    refine zuq 3 Y ?_
    refine zcq rfl (zBq (i := i) Y Y Y Y Y Y Y (ynq pW hx)) ?_
    refine zuq 4 Y ?_
    refine zcq rfl (zBq (i := i) Y Y Y Y Y Y Y (ynq pW hy)) ?_
    refine zuq 2 Y ?_
    refine y2q Y Y Y Y Y Y (same_s _ _ _ _) ?_
    refine zuq 4 Y ?_
    refine zAq rfl (fun h4 => ?_) (fun h4 => ?_)
    ·refine zeq 8 Y ?_
     refine yfq (by intro h; cases h) ?_
     refine zDq 2 Y ?_
     exact zgq (.inr rfl) rfl (by rw [no fun q => by rw [q] at h4; simp at h4])
    ·have hv : x.2 = y.2 := by simpa using h4
     have hxy : x = y := Prod.ext hk hv
     refine zeq 5 Y ?_
     refine ziq (i + 1) Y Y (by first | rfl | omega) ⟨by omega, by omega⟩ ?_
     refine yLq 2 Y ?_
     exact yhq (i + 1) (⟨hi, by rw [List.take_add_one, List.take_add_one, g2, hx, hy, hxy]⟩) (by omega) ⟨rfl, trivial⟩ ⟨rfl, rfl, rfl, trivial⟩ (by repeat (first | exact trivial | refine ⟨by first | rfl | exact zfq (by first | rfl | (simp; done)), ?_⟩)) (by omega) (by repeat (first | exact zNq | refine zQq (by omega) ?_ | refine zOq (by omega) ?_ | refine zPq (by omega) ?_)) rfl
  ·refine zeq 2 Y ?_
   refine yfq (by intro h; cases h) ?_
   refine zDq 8 Y ?_
   refine zgq (.inr rfl) Y ?_
   rw [decide_eq_true]
   have := g2
   rw [List.take_of_length_le (by omega), List.take_of_length_le (by omega)] at this
   exact this
end
section
attribute [local irreducible] CoW OpW FlW Step Spec
variable {G : Nat -> Option W}
theorem rnumber_s (l : List UInt8) (f : Bool) (hl : l.length <= 8) : PS cfg G 232 [.fz (zdq l) 1 f] (.int .u64 (numB l : Nat)) := by
 have e := zkq l
 refine zYq (fn := Tryz.f232) Y Y Y (Yb rfl) (fun R k0 => ?_)
 refine zhq 17 Y ?_
 refine y0q (α := Nat) (fun i => i <= l.length) (fun i => [(4, .int .i64 (i : Int)), (3, .int .u64 (numB (l.take i) : Nat))]) [(0, _), (2, _)] (fun i => l.length - i) (0) ⟨rfl, rfl, trivial⟩ (Nat.zero_le _) ⟨rfl, rfl, trivial⟩ (fun i hI => ?_)
 refine zhq 5 Y ?_
 refine zqq (w' := .int .i64 (l.length : Int)) Y Y (by rw [<- e]; rfl) ?_
 refine zbq 3 Y ?_
 refine zAq rfl (fun h1 => ?_) (fun h1 => ?_)
 ·have hi : i < l.length := by omega
  obtain ⟨c, hc⟩ : ∃ c, l[i]? = some c := ⟨_, List.getElem?_eq_getElem hi⟩
  have hcl := c.toNat_lt
  have hn := vXq (l := l) (i := i) (by omega)
  have ht := numB_take hc
  have hlt : numB (l.take (i + 1)) < 18446744073709551616 := by
   have h1 := ZTq (l.take (i + 1))
   have h2 : 256 ^ (l.take (i + 1)).length <= 256 ^ (i + 1) := Nat.pow_le_pow_right (by omega) (by simp; omega)
   have h3 := pow256_le (i := i + 1) (by omega)
   omega
  refine zeq 6 Y ?_
  refine ziq (256 * numB (l.take i)) Y Y (by first | rfl | omega) ⟨by omega, by omega⟩ ?_
  refine zbq 2 Y ?_
  refine zaq rfl (zBq (i := i) Y Y Y Y Y Y Y (vgq hc)) (znq Y Y (ziq (c.toNat) Y Y (by first | rfl | omega) ⟨by omega, by omega⟩ ?_))
  refine ziq (numB (l.take (i + 1))) Y Y (by rw [ht]; omega) ⟨by omega, by omega⟩ ?_
  refine zbq 6 Y ?_
  refine ziq (i + 1) Y Y (by first | rfl | omega) ⟨by omega, by omega⟩ ?_
  refine yLq 2 Y ?_
  exact yhq (i + 1) (hi) (by omega) ⟨rfl, rfl, trivial⟩ ⟨rfl, rfl, trivial⟩ (by repeat (first | exact trivial | refine ⟨by first | rfl | exact zfq (by first | rfl | (simp; done)), ?_⟩)) (by omega) (by repeat (first | exact zNq | refine zQq (by omega) ?_ | refine zOq (by omega) ?_ | refine zPq (by omega) ?_)) rfl
 ·have hi : i = l.length := by omega
  subst hi
  rw [List.take_length]
  refine zeq 2 Y ?_
  refine yfq (by intro h; cases h) ?_
  refine zDq 9 Y ?_
  exact zgq (.inr rfl) Y Y
theorem j5q (n size : Nat) (hn : n < 18446744073709551616) (hs8 : size <= 8) : qkq cfg G 184 0 [.int .u64 (n : Int), .int .i64 (size : Int)] [] fun w hp nw =>
  w = .tup [.sl 0 0 0 size 1 none, .bool (decide (n / 256 ^ size = 0))] /\ hp = [(0, 5, .arr (size * 1) 1 (zdq (beB size n)))] /\ nw = 1 := by
 intro R
 refine z0q (fn := Tryz.f184) Y Y Y (Yb rfl) (fun k0 => ?_)
 refine zhq 9 Y ?_
 refine znq rfl (QNq (l := size) (c := size) Y Y Y Y Y Y Y Y (Nat.le_refl _) (by show 1 * size <= _; omega) (by omega) Y Y) ?_
 refine zbq 7 Y ?_
 refine op_z ((size : Int) - 1 - ((0 : Nat) : Int)) Y Y (by omega) ⟨by omega, by omega⟩ ?_
 refine zbq 4 Y ?_
 refine qNq (α := Nat × Nat) (fun p => p.1 <= size /\ p.2 = n / 256 ^ p.1) (fun p => [(7, .int .i64 ((size : Int) - 1 - (p.1 : Int))), (0, .int .u64 (p.2 : Nat))]) [(4, _), (5, _), (6, _)] (fun p => [(0, 5, .arr (size * 1) 1 (zdq (List.replicate (size - p.1) 0 ++ beB p.1 n)))]) (fun p => size - p.1) ((0, n)) ⟨rfl, rfl, rfl, trivial⟩ (⟨Nat.zero_le _, by simp⟩) ⟨rfl, rfl, trivial⟩ (by simp only [be_zero]; rfl) (fun p hI => ?_)
 obtain ⟨i, q⟩ := p
 obtain ⟨g1, g2⟩ := hI
 simp only at g1 g2 ⊢
 have hlt : q < 18446744073709551616 := by rw [g2]; exact Nat.lt_of_le_of_lt (Nat.div_le_self _ _) hn
 refine zhq 7 Y ?_
 refine zAq rfl (fun h1 => ?_) (fun h1 => ?_)
 ·have hi : i < size := by omega
  have hq : q / 256 = n / 256 ^ (i + 1) := by rw [g2, Nat.div_div_eq_div_mul, <- Nat.pow_succ]
  have hset := be_set n size i hi
  rw [<- g2] at hset
  refine zeq 7 Y ?_
  refine zqq (w' := .int .i64 ((size - 1 - i : Nat) : Int)) Y Y (by congr 1; omega) ?_
  refine zaq Y Y (zqq (w' := .int .u64 ((q % 256 : Nat) : Int)) Y Y (congrArg (W.int .u64) (kLq q 256)) (ziq (q % 256) Y Y (by first | rfl | omega) ⟨by omega, by omega⟩ ?_))
  refine zaq rfl (zFq (i := size - 1 - i) Y Y Y Y Y Y Y (by omega)) ?_
  refine znq rfl (jOq Y Y Y Y Y (qzq (be_at n size i hi) Y Y) (congrArg (fun L => [(0, 5, W.arr (size * 1) 1 L)]) hset)) ?_
  refine zbq 4 Y ?_
  refine ziq (q / 256) Y Y (kfq q 256) ⟨by omega, by omega⟩ ?_
  refine zbq 6 Y ?_
  refine op_z ((size : Int) - 1 - ((i + 1 : Nat) : Int)) Y Y (by omega) ⟨by omega, by omega⟩ ?_
  refine yLq 2 Y ?_
  exact jcq ((i + 1, q / 256)) (⟨hi, hq⟩) (by simp only; omega) ⟨rfl, rfl, trivial⟩ ⟨rfl, rfl, rfl, trivial⟩ rfl
 ·have hi : i = size := by omega
  subst hi
  refine zeq 2 Y ?_
  refine qAq (by intro h; cases h) ?_
  refine zDq 6 Y ?_
  refine zqq (w' := .bool (decide (n / 256 ^ i = 0))) Y Y (congrArg W.bool (by rw [Bool.eq_iff_iff, eqI_iff, decide_eq_true_iff, <- g2]; omega)) ?_
  refine zbq 5 Y ?_
  refine fin (.inr rfl) Ent.refl rfl ⟨rfl, rfl, ?_, rfl⟩
  rw [Nat.sub_self]
  rfl
theorem rabytes_s (a : Acct) (h : a.ok) : PS cfg G 189 [aW a] (bW (qJq a)) := by
 have h1 : a.nonce < 18446744073709551616 := h.1
 have h2 : a.balance < 18446744073709551616 := h.2
 refine zYq (fn := Tryz.f189) Y Y Y (Yb rfl) (fun R k0 => ?_)
 have l1 : (zdq (beB 8 a.nonce)).length = 8 := by rw [zkq, qxq]
 have l2 : (zdq (beB 8 a.balance)).length = 8 := by rw [zkq, qxq]
 refine zhq 10 Y ?_
 ((refine zzq rfl (kxq Y Y Y Y Y Y (j5q _ 8 (by assumption) (by omega)) ?_); rintro w hp1 nw1 ⟨rfl, rfl, rfl⟩))
 refine zbq 11 Y ?_
 ((refine zzq rfl (kxq Y Y Y Y Y Y (j5q _ 8 (by assumption) (by omega)) ?_); rintro w hp1 nw1 ⟨rfl, rfl, rfl⟩))
 refine zbq 11 Y ?_
 refine znq rfl (y5q Y Y (qOq (k := ti5) (len := 8) (news := zdq (beB 8 a.balance)) (olds := zdq (beB 8 a.nonce)) Y Y Y Y (qsq Y Y Y (jZq (n := 8) (m := 8) l2.symm rfl)) (by intro h; rw [h] at l2; simp at l2) (by rw [l2]; decide) (by rw [l2]; decide) rfl (by show 8 * 1 < 0 + (8 + (zdq (beB 8 a.balance)).length) * 1; rw [l2]; omega) rfl (jZq (n := 8) (m := 8) l1.symm rfl))) ?_
 refine zbq 4 Y ?_
 refine xGq (fr2 := [(2, bW (qJq a))]) (.inr rfl) ⟨⟨_, rfl, .sl (xs := zdq (qJq a)) rfl (by simp) ?_ (by intro h; cases h)⟩, trivial⟩ Y Y
 rw [qJq, yVq, l2]
 exact jZq (n := 16) (by rw [List.length_append, l1, l2]) rfl
theorem raread_s (l : List UInt8) (f : Bool) : PS cfg G 182 [.fz (zdq l) 1 f] (.tup [aW (qoq l).1, .int .i64 ((qoq l).2 : Nat)]) := by
 have e := zkq l
 refine j6q (fn := Tryz.f182) Y Y Y (Yb rfl) (fun R k0 => ?_)
 refine zhq 10 Y ?_
 refine zqq (w' := .int .i64 (l.length : Int)) Y Y (by rw [<- e]; rfl) ?_
 refine zbq 3 Y ?_
 refine zAq rfl (fun h1 => ?_) (fun h1 => ?_)
 ·have q : qoq l = (.zero, 10) := by unfold qoq; rw [if_pos (by omega)]
  rw [q]
  refine zeq 9 Y ?_
  refine keq (by first | exact .inr rfl | exact .inl rfl) Y ?_
  (repeat (first | exact .nil | refine .cons ?_ ?_ | exact jaq | exact .nilfz | refine .fn ?_ ?_ | (refine qeq Y ?_ rfl; (first | rfl | (focus (simp; done)))) | (refine .sl Y ?_ rfl (by intro h; cases h); (first | rfl | (focus (simp; done)))) | (refine .pur ?_; (first | rfl | (focus (simp; done)))) | (refine .fzw ?_; (first | rfl | (focus (simp; done)))) | refine .agg ?_ | refine .arr ?_ | refine .tup ?_))
 refine zeq 6 Y ?_
 refine zqq (w' := .int .i64 (l.length : Int)) Y Y (by rw [<- e]; rfl) ?_
 refine zbq 3 Y ?_
 refine zAq rfl (fun h2 => ?_) (fun h2 => ?_)
 ·have q : qoq l = (.zero, 11) := by unfold qoq; rw [if_neg (by omega), if_pos (by omega)]
  rw [q]
  refine zeq 9 Y ?_
  refine keq (by first | exact .inr rfl | exact .inl rfl) Y ?_
  (repeat (first | exact .nil | refine .cons ?_ ?_ | exact jaq | exact .nilfz | refine .fn ?_ ?_ | (refine qeq Y ?_ rfl; (first | rfl | (focus (simp; done)))) | (refine .sl Y ?_ rfl (by intro h; cases h); (first | rfl | (focus (simp; done)))) | (refine .pur ?_; (first | rfl | (focus (simp; done)))) | (refine .fzw ?_; (first | rfl | (focus (simp; done)))) | refine .agg ?_ | refine .arr ?_ | refine .tup ?_))
 have hl : l.length = 16 := by omega
 have q : qoq l = if (⟨numB (l.take 8), numB (l.drop 8)⟩ : Acct) = .zero then (.zero, 8) else (⟨numB (l.take 8), numB (l.drop 8)⟩, 0) := by unfold qoq; rw [if_neg (by omega), if_neg (by omega)]
 rw [q]
 refine zeq 5 Y ?_
 refine zcq rfl (vdq (ys := zdq (l.take 8)) (l := 0) (h := 8) Y Y Y Y Y Y Y (by omega) (by omega) (by rw [List.drop_zero, Yqq]) rfl) ?_
 refine y2q Y Y Y Y Y Y (rnumber_s _ _ (by simp; omega)) ?_
 refine zcq Y Y (zcq rfl (vdq (ys := zdq (l.drop 8)) (l := 8) (h := (zdq l).length) Y Y Y Y Y Y Y (by omega) (Nat.le_refl _) (by rw [List.take_of_length_le (by simp), Yrq]) rfl) ?_)
 refine y2q Y Y Y Y Y Y (rnumber_s _ _ (by simp; omega)) ?_
 refine zuq 10 Y ?_
 refine qdq Y Y (fun h3 => ?_) (fun h3 => ?_)
 ·have z1 : numB (l.take 8) = 0 := by omega
  refine zbq 3 Y ?_
  refine yYq Y Y ?_
  refine zbq 3 Y ?_
  refine zAq rfl (fun h4 => ?_) (fun h4 => ?_)
  ·have z2 : numB (l.drop 8) = 0 := by omega
   rw [if_pos (by rw [z1, z2]; rfl)]
   refine zeq 9 Y ?_
   refine keq (by first | exact .inr rfl | exact .inl rfl) Y ?_
   (repeat (first | exact .nil | refine .cons ?_ ?_ | exact jaq | exact .nilfz | refine .fn ?_ ?_ | (refine qeq Y ?_ rfl; (first | rfl | (focus (simp; done)))) | (refine .sl Y ?_ rfl (by intro h; cases h); (first | rfl | (focus (simp; done)))) | (refine .pur ?_; (first | rfl | (focus (simp; done)))) | (refine .fzw ?_; (first | rfl | (focus (simp; done)))) | refine .agg ?_ | refine .arr ?_ | refine .tup ?_))
  ·have z2 : ¬ numB (l.drop 8) = 0 := by omega
   rw [if_neg fun h => z2 (by injection h)]
   refine zeq 10 Y ?_
   refine keq (by first | exact .inr rfl | exact .inl rfl) Y ?_
   (repeat (first | exact .nil | refine .cons ?_ ?_ | exact jaq | exact .nilfz | refine .fn ?_ ?_ | (refine qeq Y ?_ rfl; (first | rfl | (focus (simp; done)))) | (refine .sl Y ?_ rfl (by intro h; cases h); (first | rfl | (focus (simp; done)))) | (refine .pur ?_; (first | rfl | (focus (simp; done)))) | (refine .fzw ?_; (first | rfl | (focus (simp; done)))) | refine .agg ?_ | refine .arr ?_ | refine .tup ?_))
 ·have z1 : ¬ numB (l.take 8) = 0 := by omega
  rw [if_neg fun h => z1 (by injection h)]
  refine zbq 18 Y ?_
  refine keq (by first | exact .inr rfl | exact .inl rfl) Y ?_
  (repeat (first | exact .nil | refine .cons ?_ ?_ | exact jaq | exact .nilfz | refine .fn ?_ ?_ | (refine qeq Y ?_ rfl; (first | rfl | (focus (simp; done)))) | (refine .sl Y ?_ rfl (by intro h; cases h); (first | rfl | (focus (simp; done)))) | (refine .pur ?_; (first | rfl | (focus (simp; done)))) | (refine .fzw ?_; (first | rfl | (focus (simp; done)))) | refine .agg ?_ | refine .arr ?_ | refine .tup ?_))
end
section
attribute [local irreducible] CoW OpW FlW Step Spec
variable {G : Nat -> Option W}
def padJ (l : List UInt8) (j : Nat) : List UInt8 := l ++ [128] ++ List.replicate j 0
theorem uWq (l : List UInt8) (j : Nat) : (padJ l j).length = l.length + 1 + j := by simp [padJ]; omega
theorem padJ_next (l : List UInt8) (j : Nat) : zdq (padJ l (j + 1)) = zdq (padJ l j) ++ zdq [0] := by
 rw [<- yVq]
 congr 1
 unfold padJ
 rw [List.append_assoc (l ++ [128]), <- List.replicate_succ']
def padH (l : List UInt8) (j : Nat) : HpW := [(0, 5, .arr (padJ l j).length 1 (zdq (padJ l j)))]
def padR (l : List UInt8) : List UInt8 := padJ l ((119 - l.length % 64) % 64) ++ beB 8 (8 * l.length)
theorem padded_s (l : List UInt8) (f : Bool) (hl : l.length < 2147483648) : PS cfg G 250 [.fz (zdq l) 1 f] (bW (padR l)) := by
 have el : (zdq l).length = l.length := zkq l
 refine j6q (fn := Tryz.f250) Y Y Y (Yb rfl) (fun R k0 => ?_)
 refine zhq 14 Y ?_
 refine xvq (fun _ => ent_up (fr2 := [(0, .fz (zdq l) 1 f), (2, .nils), (7, gW 0 1 []), (8, .fz (zdq l) 1 f)]) ⟨rfl, rfl, rfl, rfl, trivial⟩) ?_; refine vzq (b := 0) (xs := []) (news := zdq l) (k := ti5) (H0 := []) [] [(0, .fz (zdq l) 1 f), (2, .nils)] Y Y Y Y Y Y Y Y Y Y Y (by show (0 + (zdq l).length) * 1 <= _; omega) (by show 0 + (zdq l).length <= _; omega) rfl (by simp) (by omega) (by omega) ⟨rfl, rfl, trivial⟩ rfl ⟨zfq (show purW (.fz (zdq l) 1 f) = true from y3q l), rfl, trivial⟩ (by simp) trivial (by simp) ?_
 refine zbq 7 Y ?_
 refine vzq (b := 0) (xs := zdq l) (news := zdq [128]) (k := ti5) (H0 := []) [_] [(0, .fz (zdq l) 1 f), (2, .nils)] Y Y Y Y Y Y Y Y Y Y (qsq Y Y Y Y) (by show ((zdq l).length + 1) * 1 <= _; omega) (by show (zdq l).length + 1 <= _; omega) rfl (by simp) (by omega) (by omega) ⟨rfl, rfl, trivial⟩ rfl ⟨zfq (show purW (.fz (zdq l) 1 f) = true from y3q l), rfl, trivial⟩ (by rw [<- yVq]; simp) trivial (by simp) ?_
 refine zbq 5 Y ?_
 have e0 : zdq l ++ zdq [128] = zdq (padJ l 0) := by rw [<- yVq]; congr 1; simp [padJ]
 have hne : zdq (padJ l 0) ≠ [] := fun h => by have := congrArg List.length h; rw [zkq, uWq] at this; simp at this
 have htm : ∀ n : Nat, ((n : Int)).tmod 64 = ((n % 64 : Nat) : Int) := fun n => by rw [Int.tmod_eq_emod_of_nonneg (by omega)]; omega
 refine qHq (α := Nat) (fun j => ∀ i, i < j -> (l.length + 1 + i) % 64 ≠ 56) (fun j => [(3, .sl 0 0 0 (padJ l j).length 1 none), (0, .fz (zdq l) 1 f), (2, .nils)]) (fun j => padH l j) (fun _ => 1) (fun _ => R) (fun j => 64 - j) 0 (fun i hi => absurd hi (by omega)) (yqq ⟨by show some (gW 0 1 (zdq l ++ zdq [128])) = _; rw [e0, QSq hne, zkq], rfl, rfl, trivial⟩ (by show [] ++ gH 0 5 1 (zdq l ++ zdq [128]) = padH l 0; rw [e0, QTq hne, zkq, Nat.mul_one]; rfl) rfl) (fun j hj => ?_)
 skip
 have hj64 : j < 64 := by
  refine Nat.lt_of_not_le fun h => ?_
  have := hj ((56 + 64 - (l.length + 1) % 64) % 64) (by omega)
  omega
 have hlj := uWq l j
 refine zhq 4 Y ?_
 refine zqq (w' := .int .i64 ((l.length + 1 + j : Nat) : Int)) Y Y (by rw [<- hlj]; rfl) ?_
 refine zqq Y Y (congrArg (W.int .i64) (htm _)) ?_
 refine zbq 3 Y ?_
 refine zAq rfl (fun h1 => ?_) (fun h1 => ?_)
 ·have h1 : ¬ (((l.length + 1 + j) % 64 : Nat) : Int) = 56 := h1
  refine zeq 6 Y ?_
  refine znq rfl (y5q Y Y (qOq (k := ti5) (len := (padJ l j).length) (news := zdq [0]) (olds := zdq (padJ l j)) Y Y Y Y (qsq Y Y Y Y) (by simp [zdq]) (by show ((padJ l j).length + 1) * 1 <= _; omega) (by show (padJ l j).length + 1 <= _; omega) rfl (by show (padJ l j).length < 0 + ((padJ l j).length + 1) * 1; omega) rfl (zGq (by decide) (zkq _).symm (Nat.mul_one _).symm))) ?_
  refine zbq 3 Y ?_
  have hl2 : (padJ l j).length + 1 = (padJ l (j + 1)).length := by rw [uWq, uWq]; omega
  have hp : purW (.fz (zdq l) 1 f) = true := y3q l
  skip
  refine yDq (j + 1) (fun i hi => ?_) (show 64 - (j + 1) < 64 - j by omega) ?_
  ·rcases Nat.lt_succ_iff_lt_or_eq.1 hi with h | rfl
   ·exact hj i h
   ·omega
  ·refine qiq (b := 0) (k := 2) (by omega) (by omega) (by show 2 < 3; omega) ⟨⟨?_, rfl⟩, ⟨by rw [zlq hp]; rfl, zfq hp⟩, ⟨rfl, rfl⟩, trivial⟩ ⟨⟨by show 0 < 1; omega, ?_, zfq (show purW (.arr _ 1 (zdq _)) = true from y3q _)⟩, trivial⟩ (by show ([0] : List Nat).Nodup; simp)
   ·show some (W.sl 2 0 0 ((padJ l j).length + 1) 1 none) = some (W.sl 2 0 0 (padJ l (j + 1)).length 1 none)
    rw [hl2]
   ·show some (5, W.arr (((padJ l j).length + 1) * 1) 1 (zdq (padJ l j) ++ zdq [0])) = some (5, renW _ (W.arr (padJ l (j + 1)).length 1 (zdq (padJ l (j + 1)))))
    rw [zlq (show purW (.arr _ 1 (zdq _)) = true from y3q _), hl2, padJ_next, Nat.mul_one]
 ·have h56 : (l.length + 1 + j) % 64 = 56 := by omega
  obtain rfl : j = (119 - l.length % 64) % 64 := by omega
  generalize hj0 : (119 - l.length % 64) % 64 = j at *
  refine zeq 2 Y ?_
  refine qAq (by intro h; cases h) ?_
  refine zDq 5 Y ?_
  refine zqq (w' := .int .i64 (l.length : Int)) Y Y (by rw [<- el]; rfl) ?_
  first | refine ytq Y Y ⟨by omega, by omega⟩ ?_ | refine zaq Y Y ?_
  refine ziq (8 * l.length) Y Y (by first | rfl | omega) ⟨by omega, by omega⟩ ?_
  refine zbq 15 Y ?_
  obtain ⟨n, en⟩ : ∃ n, n = 8 * l.length := ⟨_, rfl⟩
  rw [<- en]
  have hn : n < 18446744073709551616 := by omega
  refine qNq (α := Nat × Nat) (fun p => p.1 <= 8 /\ p.2 = n / 256 ^ p.1) (fun p => [(6, .int .i64 ((7 : Int) - (p.1 : Int))), (4, .int .u64 (p.2 : Nat))]) [(2, _), (3, _), (5, _)] (fun p => (1, 364, .arr 8 1 (zdq (List.replicate (8 - p.1) 0 ++ beB p.1 n))) :: padH l j) (fun p => 8 - p.1) ((0, n)) ⟨rfl, rfl, rfl, trivial⟩ (⟨Nat.zero_le _, by simp⟩) ⟨rfl, rfl, trivial⟩ (rfl) (fun p hI => ?_)
  obtain ⟨i, q⟩ := p
  obtain ⟨g1, g2⟩ := hI
  simp only at g1 g2 ⊢
  have hlt : q < 18446744073709551616 := by rw [g2]; exact Nat.lt_of_le_of_lt (Nat.div_le_self _ _) hn
  refine zhq 7 Y ?_
  refine zAq rfl (fun h2 => ?_) (fun h2 => ?_)
  ·have hi : i < 8 := by omega
   have hq : q / 256 = n / 256 ^ (i + 1) := by rw [g2, Nat.div_div_eq_div_mul, <- Nat.pow_succ]
   have hset := be_set n 8 i hi
   rw [<- g2] at hset
   refine zeq 6 Y ?_
   refine zqq (w' := .int .i64 ((8 - 1 - i : Nat) : Int)) Y Y (by congr 1; omega) ?_
   refine zaq Y Y (zqq (w' := .int .u64 ((q % 256 : Nat) : Int)) Y Y (congrArg (W.int .u64) (kLq q 256)) (ziq (q % 256) Y Y (by first | rfl | omega) ⟨by omega, by omega⟩ ?_))
   refine zaq rfl (zpq (i := 8 - 1 - i) Y Y Y Y Y Y (by omega)) ?_
   refine znq rfl (jOq Y Y Y Y Y (qzq (be_at n 8 i hi) Y Y) (congrArg (fun L => (1, 364, W.arr 8 1 L) :: padH l j) hset)) ?_
   refine zbq 4 Y ?_
   refine ziq (q / 256) Y Y (kfq q 256) ⟨by omega, by omega⟩ ?_
   refine zbq 6 Y ?_
   refine op_z ((7 : Int) - ((i + 1 : Nat) : Int)) Y Y (by omega) ⟨by omega, by omega⟩ ?_
   refine yLq 2 Y ?_
   exact jcq ((i + 1, q / 256)) (⟨hi, hq⟩) (by simp only; omega) ⟨rfl, rfl, trivial⟩ ⟨rfl, rfl, rfl, trivial⟩ rfl
  ·have hi : i = 8 := by omega
   subst hi
   have hN : (zdq (beB 8 n)).length = 8 := by rw [zkq, qxq]
   refine zeq 2 Y ?_
   refine qAq (by intro h; cases h) ?_
   refine zDq 6 Y ?_
   refine znq rfl (y5q Y Y (qOq (k := ti5) (len := (padJ l j).length) (news := zdq (beB 8 n)) (olds := zdq (padJ l j)) Y Y Y Y (qsq Y Y Y (zGq (by decide) hN.symm rfl)) (by intro h; rw [h] at hN; cases hN) (by rw [hN]; show (_ + 8) * 1 <= _; omega) (by rw [hN]; omega) rfl (by rw [hN]; show (padJ l j).length < 0 + (_ + 8) * 1; omega) rfl (zGq (by decide) (zkq _).symm (Nat.mul_one _).symm))) ?_
   refine zbq 4 Y ?_
   have er : zdq (padR l) = zdq (padJ l j) ++ zdq (beB 8 n) := by unfold padR; rw [hj0, <- en, yVq]
   have el2 : (padR l).length = (padJ l j).length + (zdq (beB 8 n)).length := by rw [<- zkq, er, List.length_append, zkq (padJ l j)]
   exact keq (.inr rfl) rfl (.sl (full := false) (c := .arr (padR l).length 1 (zdq (padR l))) (xs := zdq (padR l)) (by show some (W.arr (((padJ l j).length + (zdq (beB 8 n)).length) * 1) 1 (zdq (padJ l j) ++ zdq (beB 8 n))) = _; rw [er, el2, Nat.mul_one]) (show purW (.arr _ 1 (zdq _)) = true from y3q _) (by rw [<- el2]; exact zGq (by decide) (zkq _).symm (Nat.mul_one _).symm) (by intro h; cases h))
end
theorem next_congr {bs bs' : Nat -> Nat} (h : ∀ i, i < 64 -> bs i = bs' i) (L : List Nat) : xxq bs L = xxq bs' L := by
 unfold xxq
 cases hq : Nat.blt L.length 16 with
 | false => rfl
 | true =>
  have hn : L.length < 16 := Yb hq
  show wordN (bs (4 * L.length)) (bs (4 * L.length + 1)) (bs (4 * L.length + 2)) (bs (4 * L.length + 3)) = wordN (bs' (4 * L.length)) (bs' (4 * L.length + 1)) (bs' (4 * L.length + 2)) (bs' (4 * L.length + 3))
  rw [h (4 * L.length) (by omega), h (4 * L.length + 1) (by omega), h (4 * L.length + 2) (by omega), h (4 * L.length + 3) (by omega)]
theorem ZAq {bs bs' : Nat -> Nat} (h : ∀ i, i < 64 -> bs i = bs' i) : ∀ n, yyq bs n = yyq bs' n
 | 0 => rfl
 | n + 1 => by
  have ih := ZAq h n
  show yyq bs n ++ [xxq bs (yyq bs n)] = yyq bs' n ++ [xxq bs' (yyq bs' n)]
  rw [ih, next_congr h]
theorem Ysq {bs bs' : Nat -> Nat} (h : ∀ i, i < 64 -> bs i = bs' i) (s : S8) : jqq bs s = jqq bs' s := by
 unfold jqq
 rw [ZAq h]
theorem atL_app {a b : List Nat} {i : Nat} (h : i < a.length) : atL (a ++ b) i = atL a i := by
 unfold atL
 simp [List.getD, List.getElem?_append_left h]
theorem eats_app : ∀ (k : Nat) (s : S8) (b t : List Nat), b.length <= k -> 1 <= t.length -> qWq (b ++ t).length s (b ++ t) = qWq ((eats s b).2 ++ t).length (eats s b).1 ((eats s b).2 ++ t)
 | 0, s, b, t, hb, ht => by
  have e : eats s b = (s, b) := jSq _ _ _ (by omega)
  rw [e]
 | k + 1, s, b, t, hb, ht => by
  by_cases h : b.length < 64
  ·have e : eats s b = (s, b) := jSq _ _ _ h
   rw [e]
  ·have h64 : 64 <= b.length := by omega
   have ed : (b ++ t).drop 64 = b.drop 64 ++ t := List.drop_append_of_le_length h64
   rw [Ycq h64, uxq (by rw [List.length_append]; omega), ed, Ysq (fun i hi => atL_app (by omega)) s]
   exact eats_app k _ (b.drop 64) t (by rw [List.length_drop]; omega) ht
theorem eats_mod : ∀ (k : Nat) (s : S8) (b : List Nat), b.length <= k -> (eats s b).2.length = b.length % 64
 | 0, s, b, hb => by
  have e : eats s b = (s, b) := jSq _ _ _ (by omega)
  rw [e]; show b.length = _; omega
 | k + 1, s, b, hb => by
  by_cases h : b.length < 64
  ·have e : eats s b = (s, b) := jSq _ _ _ h
   rw [e]; show b.length = _; omega
  ·have h64 : 64 <= b.length := by omega
   rw [Ycq h64, eats_mod k _ _ (by rw [List.length_drop]; omega), List.length_drop]
   omega
theorem be8_len8 {n : Nat} (hn : n < 2147483648) : (beB 8 (8 * n)).map UInt8.toNat = len8 n := by
 have e : ∀ i, Nat.shiftRight (8 * n % 18446744073709551616) i % 256 = 8 * n / 2 ^ i % 256 := fun i => by
  have h8 : 8 * n % 18446744073709551616 = 8 * n := Nat.mod_eq_of_lt (by omega)
  rw [h8]
  show (8 * n) >>> i % 256 = _
  rw [Nat.shiftRight_eq_div_pow]
 have t : ∀ x : Nat, (UInt8.ofNat (x % 256)).toNat = x % 256 := fun x => by simp
 simp only [beB, len8, List.map_cons, List.map_nil, e, t]
theorem sha_one (l : List UInt8) (hl : l.length < 2147483648) : shaN [l.map UInt8.toNat] = digN (qWq ((padR l).map UInt8.toNat).length s0 ((padR l).map UInt8.toNat)) := by
 obtain ⟨b, eb⟩ : ∃ b, l.map UInt8.toNat = b := ⟨_, rfl⟩
 have el : b.length = l.length := by rw [<- eb, List.length_map]
 have ht : qbq [b] = l.length := by show b.length + 0 = _; omega
 have hm := eats_mod b.length s0 b (Nat.le_refl _)
 have er : (padR l).map UInt8.toNat = b ++ ([128] ++ List.replicate ((119 - l.length % 64) % 64) 0 ++ len8 l.length) := by
  unfold padR padJ
  rw [List.map_append, List.map_append, List.map_append, be8_len8 hl, eb, List.append_assoc, List.append_assoc]
  simp [List.map_replicate]
 have ea : ([b].foldl xMq (s0, [])) = eats s0 b := rfl
 rw [eb, er, eats_app b.length s0 b _ (Nat.le_refl _) (by simp)]
 have hp := pad_eq 64 ((eats s0 b).2 ++ [128]) (by omega)
 have hj : (120 - ((eats s0 b).2 ++ [128]).length % 64) % 64 = (119 - l.length % 64) % 64 := by
  rw [List.length_append, hm, el]
  simp only [List.length_cons, List.length_nil]
  omega
 rw [hj] at hp
 have e2 : padZ 64 ((eats s0 b).2 ++ [128]) ++ len8 l.length = (eats s0 b).2 ++ ([128] ++ List.replicate ((119 - l.length % 64) % 64) 0 ++ len8 l.length) := by
  rw [hp, List.append_assoc, List.append_assoc, List.append_assoc]
 have eS : shaN [b] = digN (qWq (padZ 64 (([b].foldl xMq (s0, [])).2 ++ [128]) ++ len8 (qbq [b])).length ([b].foldl xMq (s0, [])).1 (padZ 64 (([b].foldl xMq (s0, [])).2 ++ [128]) ++ len8 (qbq [b]))) := rfl
 rw [eS, ea, ht, e2]
section
attribute [local irreducible] CoW OpW FlW Step Spec
variable {G : Nat -> Option W}
def sumH (s : S8) : HpW := [(2, 355, .arr 64 1 (kW.map wd)), (1, 351, .arr 8 1 s.l), (0, 23, x4q)]
def sumH2 (v : S8) (ws : List Nat) (L : List W) : HpW := [(4, 351, .arr 8 1 v.l), (3, 355, .arr 64 1 (ws.map wd)), (2, 355, .arr 64 1 (kW.map wd)), (1, 351, .arr 8 1 L), (0, 23, x4q)]
theorem s0_ok : s0.Ok := ⟨by decide, by decide, by decide, by decide, by decide, by decide, by decide, by decide⟩
theorem padR_len (l : List UInt8) : (padR l).length % 64 = 0 /\ (padR l).length <= l.length + 72 := by
 unfold padR
 rw [List.length_append, uWq, qxq]
 omega
theorem bsL_blk (M : List UInt8) (i : Nat) : ∀ k, k < 64 -> bsL ((M.drop (64 * i)).take 64) k = atL ((M.map UInt8.toNat).drop (64 * i)) k := fun k hk => by
 unfold bsL atL
 rw [List.map_take, List.map_drop, List.getD_eq_getElem?_getD, List.getD_eq_getElem?_getD, List.getElem?_take_of_lt hk]
set_option maxHeartbeats 1600000 in
theorem rsum_s (l : List UInt8) (f : Bool) (hl : l.length < 2147483648) : PS cfg G 233 [.fz (zdq l) 1 f] (dW (shaD [l])) := by
 have hsha := sha_one l hl
 obtain ⟨hm, hle⟩ := padR_len l
 have e3 : dW (shaD [l]) = .arr 32 1 (bN (shaN [l.map UInt8.toNat])) := by
  show W.arr 32 1 (zdq _) = _
  rw [<- bytes_of (shaN_lt _)]; rfl
 rw [e3, hsha]
 have hpad := padded_s (G := G) l f hl
 generalize padR l = M at *
 obtain ⟨MN, eMN⟩ : ∃ MN, M.map UInt8.toNat = MN := ⟨_, rfl⟩
 rw [eMN]
 have hMN : MN.length = M.length := by rw [<- eMN, List.length_map]
 have eM : (zdq M).length = M.length := zkq M
 refine zYq (fn := Tryz.f233) Y Y Y (Yb rfl) (fun R k0 => ?_)
 refine zhq 15 Y ?_
 refine zjq Y Y Y Y Y Y (hpad) ?_
 refine zbq 5 Y ?_
 refine zjq Y Y Y Y Y Y (words_s) ?_
 refine zbq 11 Y ?_
 refine qNq (α := S8 × Nat) (fun p => p.1.Ok /\ 64 * p.2 <= M.length /\ qWq MN.length s0 MN = qWq (MN.drop (64 * p.2)).length p.1 (MN.drop (64 * p.2))) (fun p => [(6, .int .i64 ((64 * p.2 : Nat) : Int))]) [(2, _), (3, _), (4, _), (5, _)] (fun p => sumH p.1) (fun p => M.length - 64 * p.2) ((s0, 0)) ⟨rfl, rfl, rfl, rfl, trivial⟩ (⟨s0_ok, Nat.zero_le _, rfl⟩) ⟨rfl, trivial⟩ (rfl) (fun p hI => ?_)
 obtain ⟨s, i⟩ := p
 obtain ⟨hs, hi, heat⟩ := hI
 simp only at hs hi heat ⊢
 refine zhq 5 Y ?_
 refine zqq (w' := .int .i64 (M.length : Int)) Y Y (by rw [<- eM]; rfl) ?_
 refine zbq 3 Y ?_
 refine zAq rfl (fun h1 => ?_) (fun h1 => ?_)
 ·have h1 : ((64 * i : Nat) : Int) < (M.length : Int) := h1
  have hi2 : 64 * i + 64 <= M.length := by omega
  have hblk : ((M.drop (64 * i)).take 64).length = 64 := by rw [List.length_take, List.length_drop]; omega
  have ey : ((zdq M).drop (64 * i)).take (64 * i + 64 - 64 * i) = zdq ((M.drop (64 * i)).take 64) := by
   rw [show 64 * i + 64 - 64 * i = 64 by omega]; simp [zdq, List.map_take, List.map_drop]
  obtain ⟨ws, ews⟩ : ∃ ws, yyq (bsL ((M.drop (64 * i)).take 64)) 64 = ws := ⟨_, rfl⟩
  have hws : ws.length = 64 := by rw [<- ews]; exact xsq _ _
  have hsch := fun g => sched_s (G := G) ((M.drop (64 * i)).take 64) g hblk
  rw [ews] at hsch
  have hW : ∀ t, t < 64 -> (ws.map wd)[0 + t * 1]? = some (wd (ws.getD t 0)) := fun t ht => by rw [Nat.zero_add, Nat.mul_one]; exact vBq (by omega)
  have hK : ∀ t, t < 64 -> (kW.map wd)[0 + t * 1]? = some (wd (kW.getD t 0)) := fun t ht => by rw [Nat.zero_add, Nat.mul_one]; exact vBq (by rw [kW_len]; exact ht)
  have hnew : jqq (bsL ((M.drop (64 * i)).take 64)) s = jqq (atL (MN.drop (64 * i))) s := by rw [<- eMN]; exact Ysq (bsL_blk M i) s
  have hadd : mix8 s (xtq ws s 64) 8 = (jqq (atL (MN.drop (64 * i))) s).l := by rw [<- hnew, <- ews]; rfl
  refine zeq 9 Y ?_
  refine ziq (64 * i + 64) Y Y (by first | rfl | omega) ⟨by omega, by omega⟩ ?_
  refine zaq rfl (vdq (ys := zdq ((M.drop (64 * i)).take 64)) (l := 64 * i) (h := 64 * i + 64) Y Y Y Y Y Y Y (by omega) (by omega) ey rfl) ?_
  refine op_ps Y Y Y Y Y Y (hsch _) (by simp) (show purL (ws.map wd) = true from xzq (fun x => rfl) ws) ?_
  refine zbq 18 Y ?_
  refine qNq (α := Nat) (fun t => t <= 64) (fun t => [(9, .int .i64 (t : Int))]) [(2, _), (3, _), (4, _), (5, _), (6, _), (7, _), (8, _), (18, _), (19, _), (20, _), (21, _), (24, _), (25, _), (26, _), (27, _), (28, _), (29, _), (30, _)] (fun t => sumH2 (xtq ws s t) ws s.l) (fun t => 64 - t) (0) ⟨rfl, rfl, rfl, rfl, rfl, rfl, rfl, rfl, rfl, rfl, rfl, rfl, rfl, rfl, rfl, rfl, rfl, rfl, trivial⟩ (Nat.zero_le _) ⟨rfl, trivial⟩ (rfl) (fun t hI => ?_)
  refine zhq 7 Y ?_
  refine zAq rfl (fun h2 => ?_) (fun h2 => ?_)
  ·have ht : t < 64 := by omega
   obtain ⟨v, ev⟩ : ∃ v, xtq ws s t = v := ⟨_, rfl⟩
   have hv : v.Ok := by rw [<- ev]; exact rounds_ok hs ws t
   have hKt := hK t ht
   have hWt := hW t ht
   have hnx : xtq ws s (t + 1) = roundN (kW.getD t 0) (ws.getD t 0) v := by rw [<- ev]; rfl
   rw [ev]
   generalize kW.getD t 0 = kt at *
   generalize ws.getD t 0 = wt at *
   refine zeq 7 Y ?_
   refine zcq rfl (zpq (i := t) Y Y Y Y Y Y (by omega)) ?_
   refine yHq rfl (ykq Y Y Y (yUq hKt rfl)) (by first | rfl | kernel_rfl) ?_
   refine zcq Y Y (zcq rfl (zpq (i := t) Y Y Y Y Y Y (by omega)) ?_)
   refine yHq rfl (ykq Y Y Y (yUq hWt rfl)) (by first | rfl | kernel_rfl) ?_
   refine fl_ps Y Y Y Y Y Y (rround_s v hv kt wt) Y Y (by first | rfl | kernel_rfl) ?_
   refine zuq 6 Y ?_
   refine ziq (t + 1) Y Y (by first | rfl | omega) ⟨by omega, by omega⟩ ?_
   refine yLq 2 Y ?_
   skip
   exact jcq (t + 1) ht (by omega) ⟨rfl, trivial⟩ (by repeat (first | exact trivial | refine ⟨rfl, ?_⟩)) (by rw [hnx]; rfl)
  ·have ht : t = 64 := by omega
   subst ht
   obtain ⟨v, ev⟩ : ∃ v, xtq ws s 64 = v := ⟨_, rfl⟩
   rw [ev] at hadd ⊢
   refine zeq 2 Y ?_
   refine qAq (by intro h; cases h) ?_
   refine zDq 8 Y ?_
   refine qNq (α := Nat) (fun j => j <= 8) (fun j => [(10, .int .i64 (j : Int))]) [(2, _), (3, _), (4, _), (5, _), (6, _), (7, _), (8, _), (9, _), (18, _), (19, _), (20, _), (21, _), (24, _), (25, _), (26, _), (27, _), (28, _), (29, _), (30, _), (31, _), (32, _)] (fun j => sumH2 v ws (mix8 s v j)) (fun j => 8 - j) (0) ⟨rfl, rfl, rfl, rfl, rfl, rfl, rfl, rfl, rfl, rfl, rfl, rfl, rfl, rfl, rfl, rfl, rfl, rfl, rfl, rfl, rfl, trivial⟩ (Nat.zero_le _) ⟨rfl, trivial⟩ (rfl) (fun j hI => ?_)
   refine zhq 7 Y ?_
   refine zAq rfl (fun h3 => ?_) (fun h3 => ?_)
   ·have hj : j < 8 := by omega
    have hq : j = 0 \/ j = 1 \/ j = 2 \/ j = 3 \/ j = 4 \/ j = 5 \/ j = 6 \/ j = 7 := by omega
    have g1 : (mix8 s v j)[0 + j * 1]? = some (wd (s.get j)) := by rcases hq with rfl | rfl | rfl | rfl | rfl | rfl | rfl | rfl <;> rfl
    have g2 : v.l[0 + j * 1]? = some (wd (v.get j)) := S8_at v hj
    have g3 : (mix8 s v j).set (0 + j * 1) (wd (addN (s.get j) (v.get j))) = mix8 s v (j + 1) := by rcases hq with rfl | rfl | rfl | rfl | rfl | rfl | rfl | rfl <;> rfl
    generalize s.get j = x at *
    generalize v.get j = y at *
    refine zeq 6 Y ?_
    refine zcq rfl (zpq (i := j) Y Y Y Y Y Y (by omega)) ?_
    refine yHq rfl (ykq Y Y Y (yUq g1 rfl)) (by first | rfl | kernel_rfl) ?_
    refine zcq Y Y (zcq rfl (zpq (i := j) Y Y Y Y Y Y (by omega)) ?_)
    refine yHq rfl (ykq Y Y Y (yUq g2 rfl)) (by first | rfl | kernel_rfl) ?_
    refine jpq (w' := wd (addN x y)) Y Y Y (zcq rfl (zpq (i := j) Y Y Y Y Y Y (by omega)) ?_)
    refine yHq rfl (jOq Y Y Y Y Y (qzq g1 Y Y) rfl) (by first | rfl | kernel_rfl) ?_
    refine zuq 5 Y ?_
    refine ziq (j + 1) Y Y (by first | rfl | omega) ⟨by omega, by omega⟩ ?_
    refine yLq 2 Y ?_
    skip
    exact jcq (j + 1) hj (by omega) ⟨rfl, trivial⟩ (by repeat (first | exact trivial | refine ⟨rfl, ?_⟩)) (congrArg (fun L => sumH2 v ws L) g3)
   ·have hj : j = 8 := by omega
    subst hj
    rw [hadd]
    refine zeq 2 Y ?_
    refine qAq (by intro h; cases h) ?_
    refine zDq 5 Y ?_
    refine ziq (64 * i + 64) Y Y (by first | rfl | omega) ⟨by omega, by omega⟩ ?_
    refine yLq 2 Y ?_
    skip
    exact q_againH (jqq (atL (MN.drop (64 * i))) s, i + 1) ⟨block_ok _ _, by simp only; omega, by rw [heat, uxq (by simp; omega), List.drop_drop]; rfl⟩ (by simp only; omega) (Nat.zero_le _) ⟨rfl, trivial⟩ (by repeat (first | exact trivial | refine ⟨rfl, ?_⟩)) (by repeat (first | exact trivial | refine ⟨by first | rfl | exact zfq (by first | rfl | (simp; done)), ?_⟩)) (by repeat (first | exact trivial | refine ⟨by first | rfl | exact zfq (by first | rfl | (simp; done)), ?_⟩)) (by omega) (by repeat (first | exact trivial | refine ⟨⟨by decide, rfl, by first | rfl | exact zfq (by first | rfl | (simp; done))⟩, ?_⟩)) (by show ([2, 1, 0] : List Nat).Nodup; decide)
 ·have h1 : ¬ ((64 * i : Nat) : Int) < (M.length : Int) := h1
  have hend : qWq MN.length s0 MN = s := by rw [heat, List.drop_of_length_le (by omega)]; rfl
  rw [hend]
  refine zeq 2 Y ?_
  refine qAq (by intro h; cases h) ?_
  refine zDq 14 Y ?_
  refine qNq (α := Nat) (fun a => a <= 8) (fun a => [(12, .int .i64 (a : Int))]) [(2, _), (3, _), (11, _)] (fun a => (3, 23, .arr 32 1 (bN (dI s (4 * a)))) :: sumH s) (fun a => 8 - a) (0) ⟨rfl, rfl, rfl, trivial⟩ (Nat.zero_le _) ⟨rfl, trivial⟩ (rfl) (fun a hI => ?_)
  refine zhq 7 Y ?_
  refine zAq rfl (fun h2 => ?_) (fun h2 => ?_)
  ·have ha : a < 8 := by omega
   refine zeq 10 Y ?_
   refine qNq (α := Nat) (fun b => b <= 4) (fun b => [(13, .int .i64 (b : Int))]) [(2, _), (3, _), (11, _), (12, _), (55, _), (56, _)] (fun b => (3, 23, .arr 32 1 (bN (dI s (4 * a + b)))) :: sumH s) (fun b => 4 - b) (0) ⟨rfl, rfl, rfl, rfl, rfl, rfl, trivial⟩ (Nat.zero_le _) ⟨rfl, trivial⟩ (rfl) (fun b hI => ?_)
   refine zhq 7 Y ?_
   refine zAq rfl (fun h3 => ?_) (fun h3 => ?_)
   ·have hb : b < 4 := by omega
    have hdv : (4 * a + b) / 4 = a := by omega
    have hmd : (4 * a + b) % 4 = b := by omega
    have hset := dI_set s (i := 4 * a + b) (by omega)
    rw [hdv, hmd] at hset
    refine zeq 6 Y ?_
    refine ziq (4 * a) Y Y (by first | rfl | omega) ⟨by omega, by omega⟩ ?_
    refine zaq Y Y (ziq (4 * a + b) Y Y (by first | rfl | omega) ⟨by omega, by omega⟩ ?_)
    refine zaq Y Y (zaq rfl (zpq (i := a) Y Y Y Y Y Y (by omega)) ?_)
    refine znq rfl (ykq Y Y Y (yUq (S8_at s ha) rfl)) (zaq Y Y (ziq (8 * b) Y Y (by first | rfl | omega) ⟨by omega, by omega⟩ ?_))
    refine ziq (24 - 8 * b) Y Y (by first | rfl | omega) ⟨by omega, by omega⟩ ?_
    refine ziq (24 - 8 * b) Y Y (by first | rfl | omega) ⟨by omega, by omega⟩ ?_
    refine zqq (w' := wd (Nat.shiftRight (s.get a) (min (24 - 8 * b) 32))) Y Y Y (zqq (w' := .int .u8 (.ofNat (Nat.shiftRight (s.get a) (min (24 - 8 * b) 32) % 256))) Y Y Y (zaq rfl (zpq (i := 4 * a + b) Y Y Y Y Y Y (by omega)) ?_))
    refine znq rfl (jOq Y Y Y Y Y (qzq (dI_at s (by omega)) Y Y) rfl) ?_
    refine zbq 5 Y ?_
    refine ziq (b + 1) Y Y (by first | rfl | omega) ⟨by omega, by omega⟩ ?_
    refine yLq 2 Y ?_
    skip
    exact jcq (b + 1) hb (by omega) ⟨rfl, trivial⟩ (by repeat (first | exact trivial | refine ⟨rfl, ?_⟩)) (congrArg (fun L => (3, 23, W.arr 32 1 L) :: sumH s) hset)
   ·have hb : b = 4 := by omega
    subst hb
    refine zeq 2 Y ?_
    refine qAq (by intro h; cases h) ?_
    refine zDq 5 Y ?_
    refine ziq (a + 1) Y Y (by first | rfl | omega) ⟨by omega, by omega⟩ ?_
    refine yLq 2 Y ?_
    skip
    exact jcq (a + 1) ha (by omega) ⟨rfl, trivial⟩ (by repeat (first | exact trivial | refine ⟨rfl, ?_⟩)) rfl
  ·have ha : a = 8 := by omega
   subst ha
   refine zeq 2 Y ?_
   refine qAq (by intro h; cases h) ?_
   refine zDq 9 Y ?_
   have ed : dI s 32 = digN s := by simp [dI, List.take_of_length_le, vaq]
   exact zgq (.inr rfl) rfl (by rw [<- ed])
end
section
attribute [local irreducible] CoW OpW FlW Step Spec
variable {G : Nat -> Option W}
theorem rtbytes_s (kind : UInt8) (ps : List (List UInt8)) (f : Bool) (hn : ps.length < 1000000) (hb : ∀ p ∈ ps, p.length < 1000000) : PS cfg G 234 [.int .u8 (.ofNat kind.toNat), .fz (ps.map bW) 1 f] (bW (tagB kind ps)) := by
 have e : (ps.map bW).length = ps.length := List.length_map _
 have htm : ∀ n : Nat, n < 4294967296 -> ((n : Int)).tmod 4294967296 = (n : Int) := fun n hn => by rw [Int.tmod_eq_emod_of_nonneg (by omega)]; omega
 refine j6q (fn := Tryz.f234) Y Y Y (Yb rfl) (fun R k0 => ?_)
 refine zhq 19 Y ?_
 refine co_loopG1 (α := Nat) (fun i => i <= ps.length) 5 (fun i => zdq (kind :: (ps.take i).flatMap kZq)) 5 1 (fun i => [(6, .int .i64 (i : Int))]) [(1, _), (4, _)] ([]) 0 0 (fun i => ps.length - i) (0) ⟨rfl, rfl, trivial⟩ (Nat.zero_le _) ⟨rfl, trivial⟩ (by omega) (by omega) (by first | omega | decide) (by simp [zdq]) rfl (by simp [zdq]) (by repeat (first | exact trivial | refine ⟨by first | rfl | exact zfq (by first | rfl | (simp; done)), ?_⟩)) (by repeat (first | exact trivial | refine ⟨by first | rfl | exact zfq (by first | rfl | (simp; done)), ?_⟩)) rfl (by first | rfl | assumption | (simp; done)) (by repeat (first | exact trivial | refine ⟨⟨by decide, rfl, by first | rfl | exact zfq (by first | rfl | (simp; done))⟩, ?_⟩)) (by first | decide | simp) (fun i hI => ?_)
 refine zhq 5 Y ?_
 refine zqq (w' := .int .i64 (ps.length : Int)) Y Y (by rw [<- e]; rfl) ?_
 refine zbq 3 Y ?_
 refine zAq rfl (fun h1 => ?_) (fun h1 => ?_)
 ·have hi : i < ps.length := by omega
  obtain ⟨x, hx⟩ : ∃ x, ps[i]? = some x := ⟨_, List.getElem?_eq_getElem hi⟩
  have hxl := hb x (List.mem_of_getElem? hx)
  have hfl : ((ps.take i).flatMap kZq).length <= i * 1000004 := QVq i hb
  have hL : (zdq (kind :: (ps.take i).flatMap kZq)).length <= 1 + i * 1000004 := by rw [zkq, List.length_cons]; omega
  have hN : (zdq (beB 4 x.length)).length = 4 := by rw [zkq, qxq]
  have hnx : zdq (kind :: (ps.take (i + 1)).flatMap kZq) = (zdq (kind :: (ps.take i).flatMap kZq) ++ zdq (beB 4 x.length)) ++ zdq x := by
   rw [List.take_add_one, hx, <- yVq, <- yVq]
   congr 1
   simp [kZq, Nat.mod_eq_of_lt (show x.length < 4294967296 by omega)]
  skip
  cases x with
  | nil =>
   refine zeq 8 Y ?_
   refine zaq rfl (zBq (i := i) Y Y Y Y Y Y Y (ynq bW hx)) (znq Y Y (zqq (w' := .int .i64 (([] : List UInt8).length : Int)) Y Y (by show W.int .i64 ((zdq (([] : List UInt8))).length : Int) = _; rw [zkq]) ?_))
   refine zaq Y Y (zqq (w' := .int .u64 (([] : List UInt8).length : Int)) Y Y Y ?_)
   (refine zzq rfl (jDq Y Y Y Y Y Y (j5q ([] : List UInt8).length 4 (by decide) (by omega)) ?_); rintro w hp1 nw1 ⟨rfl, rfl, rfl⟩)
   refine zbq 11 Y ?_
   refine znq rfl (y5q Y Y (xLq [_] (k := ti5) (news := zdq (beB 4 ([] : List UInt8).length)) Y Y Y Y Y (qsq Y Y Y (zGq (by decide) hN.symm rfl)) (by intro h; rw [h] at hN; cases hN) (by rw [hN]; show (_ + 4) * 1 <= _; omega) (by rw [hN]; omega) rfl (by simp [numC]))) ?_
   refine zbq 7 Y ?_
   refine zaq rfl (zBq (i := i) Y Y Y Y Y Y Y (ynq bW hx)) (znq Y Y (znq rfl (y5q Y Y (vNq (k := ti5) Y Y Y Y Y)) ?_))
   refine zbq 6 Y ?_
   refine ziq (i + 1) Y Y (by first | rfl | omega) ⟨by omega, by omega⟩ ?_
   refine yLq 2 Y ?_
   exact kWq 2 (i + 1) (hi) (by omega) (Nat.zero_le _) (by rw [hnx]; exact List.append_nil _) (by first | assumption | (simp; done) | (simp [zdq]; done)) (by omega) (by first | omega | decide) rfl (by first | rfl | exact List.length_append.symm) ⟨rfl, trivial⟩ ⟨rfl, rfl, trivial⟩ (by repeat (first | exact trivial | refine ⟨by first | rfl | exact zfq (by first | rfl | (simp; done)), ?_⟩)) (by repeat (first | exact trivial | refine ⟨by first | rfl | exact zfq (by first | rfl | (simp; done)), ?_⟩)) rfl (by first | rfl | assumption | (simp; done)) (by repeat (first | exact trivial | refine ⟨⟨by decide, rfl, by first | rfl | exact zfq (by first | rfl | (simp; done))⟩, ?_⟩)) (by first | decide | simp)
  | cons c x =>
   refine zeq 8 Y ?_
   refine zaq rfl (zBq (i := i) Y Y Y Y Y Y Y (ynq bW hx)) (znq Y Y (zqq (w' := .int .i64 ((c :: x).length : Int)) Y Y (by show W.int .i64 ((zdq ((c :: x))).length : Int) = _; rw [zkq]) ?_))
   refine ziq ((c :: x).length) Y Y (by first | rfl | omega) ⟨by omega, by omega⟩ ?_
   refine zqq (w' := .int .u64 ((c :: x).length : Int)) Y Y (congrArg (W.int .u64) (htm _ (by omega))) ?_
   (refine zzq rfl (jDq Y Y Y Y Y Y (j5q (c :: x).length 4 (by omega) (by omega)) ?_); rintro w hp1 nw1 ⟨rfl, rfl, rfl⟩)
   refine zbq 11 Y ?_
   refine znq rfl (y5q Y Y (xLq [_] (k := ti5) (news := zdq (beB 4 (c :: x).length)) Y Y Y Y Y (qsq Y Y Y (zGq (by decide) hN.symm rfl)) (by intro h; rw [h] at hN; cases hN) (by rw [hN]; show (_ + 4) * 1 <= _; omega) (by rw [hN]; omega) rfl (by simp [numC]))) ?_
   refine zbq 7 Y ?_
   refine zaq rfl (zBq (i := i) Y Y Y Y Y Y Y (ynq bW hx)) (znq Y Y (znq rfl (y5q Y Y (qOq (k := ti5) (len := (zdq (kind :: (ps.take i).flatMap kZq) ++ zdq (beB 4 (c :: x).length)).length) (news := zdq (c :: x)) (olds := zdq (kind :: (ps.take i).flatMap kZq) ++ zdq (beB 4 (c :: x).length)) Y Y Y Y Y (by simp [zdq]) (by rw [List.length_append, hN, zkq (c :: x)]; show (_ + _) * 1 <= _; omega) (by rw [List.length_append, hN, zkq (c :: x)]; omega) rfl (by show (_ ++ _ : List W).length * 1 < 0 + ((_ ++ _ : List W).length + (zdq (c :: x)).length) * 1; rw [zkq (c :: x), List.length_cons]; omega) rfl (zGq (by decide) Y Y))) ?_))
   refine zbq 6 Y ?_
   refine ziq (i + 1) Y Y (by first | rfl | omega) ⟨by omega, by omega⟩ ?_
   refine yLq 2 Y ?_
   exact kWq 3 (i + 1) (hi) (by omega) (Nat.zero_le _) (hnx) (by first | assumption | (simp; done) | (simp [zdq]; done)) (by omega) (by first | omega | decide) rfl (by first | rfl | exact List.length_append.symm) ⟨rfl, trivial⟩ ⟨rfl, rfl, trivial⟩ (by repeat (first | exact trivial | refine ⟨by first | rfl | exact zfq (by first | rfl | (simp; done)), ?_⟩)) (by repeat (first | exact trivial | refine ⟨by first | rfl | exact zfq (by first | rfl | (simp; done)), ?_⟩)) rfl (by first | rfl | assumption | (simp; done)) (by repeat (first | exact trivial | refine ⟨⟨by decide, rfl, by first | rfl | exact zfq (by first | rfl | (simp; done))⟩, ?_⟩)) (by first | decide | simp)
 ·have hi : i = ps.length := by omega
  subst hi
  refine zeq 2 Y ?_
  refine qAq (by intro h; cases h) ?_
  refine zDq 9 Y ?_
  refine keq (by first | exact .inr rfl | exact .inl rfl) Y ?_
  rw [List.take_length]
  exact vRq (H0 := []) (by decide) (by simp) (by simp)
theorem rtagof_s (kind : UInt8) (ps : List (List UInt8)) (f : Bool) (hn : ps.length < 1000) (hb : ∀ p ∈ ps, p.length < 1000000) : PS cfg G 183 [.int .u8 (.ofNat kind.toNat), .fz (ps.map bW) 1 f] (dW (tagD kind ps)) := by
 have hl := tag_le kind ps hb
 refine zYq (fn := Tryz.f183) Y Y Y (Yb rfl) (fun R k0 => ?_)
 refine zhq 9 Y ?_
 refine zjq Y Y Y Y Y Y (rtbytes_s kind ps f (by omega) hb) ?_
 refine zjq Y Y Y Y Y Y (rsum_s (tagB kind ps) false (by omega)) ?_
 refine zbq 4 Y ?_
 exact zgq (.inr rfl) Y Y
theorem rtone_s (kind : UInt8) (a : List UInt8) (hb : a.length < 1000000) : PS cfg G 117 [.int .u8 (.ofNat kind.toNat), bW a] (dW (tagD kind [a])) := by
 refine zYq (fn := Tryz.f117) Y Y Y (Yb rfl) (fun R k0 => ?_)
 refine zhq 10 Y ?_
 refine op_lk Y Y Y Y Y (by (repeat (first | exact .nil | refine .cons ?_ ?_ | (refine .sl Y ?_ rfl (by intro h; cases h); first | rfl | (focus (simp; done))) | (refine qeq Y ?_ rfl; first | rfl | (focus (simp; done))) | (refine .pur ?_; first | rfl | (focus (simp; done)))))) (rtagof_s kind [a] false (by simp) (by simp; omega)) (by first | rfl | assumption | (simp; done)) (by first | rfl | assumption | (simp; done)) ?_
 refine zbq 4 Y ?_
 exact zgq (.inr rfl) Y Y
theorem rkey_s (k : Dig) : PS cfg G 186 [dW k] (dW (keyD k)) := by
 refine zYq (fn := Tryz.f186) Y Y Y (Yb rfl) (fun R k0 => ?_)
 refine zhq 9 Y ?_
 refine op_lk Y Y Y Y Y (.cons (.pur rfl) (.cons (.sl (full := false) (xs := zdq k.1) rfl (by simp) (zGq (by decide) (by simp [zkq, k.2]) rfl) (by intro h; cases h)) .nil)) (rtone_s 3 k.1 (by simp [k.2])) (by first | rfl | assumption | (simp; done)) (by first | rfl | assumption | (simp; done)) ?_
 refine zbq 4 Y ?_
 exact zgq (.inr rfl) Y Y
end
section
attribute [local irreducible] CoW OpW FlW Step Spec
variable {G : Nat -> Option W}
def StA (w0 : W) (P : Tree -> T -> Prop) : W -> HpW -> Nat -> Prop := fun w hp nw => ∃ t n t0, IsA t n t0 /\ P t t0 /\ w = w0 /\ hp = [(0, 117, tW t)] /\ nw = 1
theorem fin_st {k0 : Nat} {rs : List ResultVar} {x : Exit} {fr : FrW} {hp : HpW} {nw : Nat} {R : Res} {w0 : W} {P : Tree -> T -> Prop} {t : Tree} {n : Nat} {t0 : T} (fr2 : FrW) (hx : x = .normal \/ x = .ret) (hf : subF fr fr2) (hr : fr2.all (fun p => refB 1 p.2) = true) (hn : 1 <= nw) (hh : hget hp 0 = some (117, tW t)) (ho : outW cfg fr2 [(0, 117, tW t)] rs = some w0) (h : IsA t n t0) (hP : P t t0) :
  QFin cfg G 1 k0 rs (fun w hp nw R' => R' = R /\ StA w0 P w hp nw) x fr hp nw R :=
 fin hx (qpq (nw2 := 1) (hp2 := [(0, 117, tW t)]) (Nat.le_refl 1) hn hf hr (fun b x hb => by
  match b, hb with
  | 0, hb => cases hb; exact ⟨by omega, hh, zfq (uKq t)⟩
  | b + 1, hb => cases hb) (by simp)) ho ⟨rfl, t, n, t0, h, hP, rfl, rfl, rfl⟩
theorem ubq {o : Oper} {fr : FrW} {hp : HpW} {nw : Nat} {R : Res} {post : W -> HpW -> Nat -> Res -> Option EvW -> Prop} {x : Operand} {xs : Array Operand} {ats : Array TypeId} {f : FuncId} {us : List W} {t : Tree} {w0 : W} {P : Tree -> T -> Prop} (j : Nat)
  (ho : o.op = .call ⟨.value x, xs, ats⟩) (hx : evW cfg G fr x = some (.fn f [] [])) (he : cfg.ext f = none) (hxs : evLW cfg G fr xs.toList = some (.ptr j 0 :: us)) (hpu : purL us = true) (hj : j < nw) (hw0 : purW w0 = true)
  (h0 : hget hp j = some (117, tW t)) (sp : qkq cfg G f 1 (.ptr 0 0 :: us) [(0, 117, tW t)] (StA w0 P))
  (hpost : ∀ t' n' t1, IsA t' n' t1 -> P t' t1 -> post w0 ((j, 117, tW t') :: delA [j] hp) nw R (some .dirty)) : Step cfg G o fr hp nw R post := by
 refine yOq (ext := [j]) (ws := .ptr 0 0 :: us) ho hx he hxs ?_ sp (by simp) ?_ (by simp) (handed1 (by rw [zlq (uKq t)]; exact h0) (zfq (uKq t))) ?_ ?_
 ·show .ptr j 0 :: (us ++ []) = W.ptr j 0 :: qlq (numC [j] nw) us
  rw [j3q hpu, List.append_nil]
 ·intro b hb
  simp only [List.mem_cons, List.not_mem_nil, or_false] at hb
  omega
 ·have h := zfq (m := 1) (w := .tup us) hpu
  have h : refL 1 us = true := h
  show (refB 1 (.ptr 0 0) && refL 1 us) = true
  rw [h]; rfl
 ·rintro w hp1 nw1 ⟨t', n', t1, h1, h2, rfl, rfl, rfl⟩
  have e : renH (numC [j] nw) [(0, 117, tW t')] = [(j, 117, tW t')] := by
   simp only [renH, zlq (uKq t')]; rfl
  have h := hpost t' n' t1 h1 h2
  rw [e, zlq hw0]
  exact h
theorem full_s (t : Tree) (hb : t.nodes.length <= 4611686018427387903) : PS cfg G 42 [tW t] (.bool (decide (260944 < t.nodes.length))) := by
 have e : (t.nodes.map nW).length = t.nodes.length := List.length_map _
 refine zYq (fn := Tryz.f42) Y Y Y (Yb rfl) (fun R k0 => ?_)
 refine zhq 10 Y ?_
 refine zqq (w' := .int .i64 (t.nodes.length : Int)) Y Y (by rw [<- e]; rfl) ?_
 refine yYq Y Y ?_
 refine zbq 4 Y ?_
 exact zgq (.inr rfl) rfl (by congr 1; rw [decide_eq_decide]; omega)
def uaq (t : Tree) (m : Nat) (l : List Pr) : Tree -> T -> Prop := fun t' t1 => t1.all = l /\ ∃ ms, t'.nodes = t.nodes ++ ms /\ ms.length <= m
theorem turn_st (t : Tree) (n : Nat) (t0 : T) (k : Dig) (a : Acct) (h : IsA t n t0) (ha : a.ok) (hl : t.nodes.length <= 261844) : qkq cfg G 44 1 [.ptr 0 0, dW k, aW a] [(0, 117, tW t)] (StA (.tup []) (uaq t 257 (setL t0.all k a))) := by
 intro R
 refine z0q (fn := Tryz.f44) Y Y Y (Yb rfl) (fun k0 => ?_)
 refine zhq 14 Y ?_
 (refine ymq rfl (Qsq Y Y Y Y Y (aset_s t n t0 k a h ha hl) (by simp) ?_); rintro w hw ⟨t', n', t1, ht', hall, hx, rfl⟩; refine ⟨by first | rfl | kernel_rfl, ?_⟩)
 refine zuq 14 Y ?_
 refine zAq rfl (fun h1 => ?_) (fun h1 => ?_)
 ·refine zhq 7 Y ?_
  exact fin_st [] (.inl rfl) trivial rfl (by omega) Y Y ht' ⟨hall, hx⟩
 ·exfalso; omega
theorem Qzq (l : List UInt8) : (qoq l).1.ok := by
 unfold qoq
 split
 ·exact ⟨Nat.zero_lt_succ _, Nat.zero_lt_succ _⟩
 ·split
  ·exact ⟨Nat.zero_lt_succ _, Nat.zero_lt_succ _⟩
  ·split
   ·exact ⟨Nat.zero_lt_succ _, Nat.zero_lt_succ _⟩
   ·have h1 := ZTq (l.take 8)
    have h2 := ZTq (l.drop 8)
    rw [show (l.take 8).length = 8 by rw [List.length_take]; omega] at h1
    rw [show (l.drop 8).length = 8 by rw [List.length_drop]; omega] at h2
    exact ⟨h1, h2⟩
theorem Yxq (t0 : T) (k : Dig) : (yXq t0 k).ok := by
 unfold yXq
 split
 ·exact ⟨Nat.zero_lt_succ _, Nat.zero_lt_succ _⟩
 ·exact Qzq _
theorem more_no (t : Tree) (n : Nat) (t0 : T) (k : Dig) (c : Nat) (h : IsA t n t0) (hc : c < 18446744073709551616) (ho : 18446744073709551616 <= (yXq t0 k).balance + c) : qkq cfg G 48 1 [.ptr 0 0, dW k, .int .u64 (c : Int)] [(0, 117, tW t)] (StA (.bool false) (uaq t 257 t0.all)) := by
 intro R
 have hA := (Yxq t0 k).2
 refine z0q (fn := Tryz.f48) Y Y Y (Yb rfl) (fun k0 => ?_)
 refine zhq 13 Y ?_
 refine y2q Y Y Y Y Y Y (Qiq t n t0 h k) ?_
 refine zuq 13 Y ?_
 (refine zzq rfl (kyq (a := (yXq t0 k).balance) (b := c) Y Y Y Y ?_))
 refine zbq 2 Y ?_
 refine zqq (w' := .int .u64 ((1 : Nat) : Int)) Y Y (congrArg (fun q : Nat => W.int .u64 (q : Int)) (by omega)) ?_
 refine zbq 11 Y ?_
 refine zAq rfl (fun h1 => ?_) (fun h1 => ?_)
 ·refine zeq 7 Y ?_
  exact fin_st [(6, .bool false)] (.inr rfl) ⟨rfl, trivial⟩ rfl (by omega) Y Y h ⟨rfl, [], by simp, by simp⟩
 ·exfalso; omega
theorem more_st (t : Tree) (n : Nat) (t0 : T) (k : Dig) (c : Nat) (h : IsA t n t0) (ho : (yXq t0 k).balance + c < 18446744073709551616) (hl : t.nodes.length <= 261844) : qkq cfg G 48 1 [.ptr 0 0, dW k, .int .u64 (c : Int)] [(0, 117, tW t)] (StA (.bool true) (uaq t 257 (setL t0.all k ⟨(yXq t0 k).nonce, (yXq t0 k).balance + c⟩))) := by
 intro R
 have hA := (Yxq t0 k).1
 refine z0q (fn := Tryz.f48) Y Y Y (Yb rfl) (fun k0 => ?_)
 refine zhq 13 Y ?_
 refine y2q Y Y Y Y Y Y (Qiq t n t0 h k) ?_
 refine zuq 13 Y ?_
 (refine zzq rfl (kyq (a := (yXq t0 k).balance) (b := c) Y Y Y Y ?_))
 refine zaq Y Y (zqq (w' := .int .u64 (((yXq t0 k).balance + c : Nat) : Int)) Y Y (congrArg (fun q : Nat => W.int .u64 (q : Int)) (by omega)) ?_)
 refine zqq (w' := .int .u64 ((0 : Nat) : Int)) Y Y (congrArg (fun q : Nat => W.int .u64 (q : Int)) (by omega)) ?_
 refine zbq 11 Y ?_
 refine zAq rfl (fun h1 => ?_) (fun h1 => ?_)
 ·exfalso; omega
 ·refine zeq 14 Y ?_
  (refine zzq rfl (ubq 0 Y Y Y Y (by simp) (by show 0 < 3; omega) Y Y (turn_st t n t0 k ⟨(yXq t0 k).nonce, (yXq t0 k).balance + c⟩ h ⟨hA, ho⟩ hl) ?_); rintro t' n' t1 h' hP)
  refine zbq 8 Y ?_
  exact fin_st [(6, .bool true)] (.inr rfl) ⟨rfl, trivial⟩ rfl (by omega) Y Y h' hP
theorem twinp_s (t : Tree) (hl : t.nodes.length <= 1000000000) (hv : ∀ x ∈ t.nodes, x.val.length <= 70368744177664) : PS cfg G 43 [tW t] (tW t) := fun R =>
 Zzq (xSq (twin_s t.nodes t.root hl hv) (Q := fun w hp _ => View (blkA hp) w (tW t)) (fun w hp nw h => by
  rcases h with ⟨hn, rfl, rfl, rfl⟩ | ⟨rfl, rfl, rfl⟩
  ·refine .agg (.cons ?_ (.cons (.pur rfl) .nil))
   rw [hn]
   exact .nilfz
  ·exact vpq (b := 2) (ns := t.nodes) (root := t.root) rfl) R)
end
section
attribute [local irreducible] CoW OpW FlW Step Spec
variable {G : Nat -> Option W}
structure Depo where
 number : Nat
 to : Dig
 amount : Nat
def pdW (d : Depo) : W := .agg 34 [.int .u64 (d.number : Int), dW d.to, .int .u64 (d.amount : Int)]
@[simp] theorem pdW_pur (d : Depo) : purW (pdW d) = true := by simp [pdW]
def overB (t0 : T) (d : Depo) : Prop := 18446744073709551616 <= (yXq t0 d.to).balance + d.amount
instance (t0 : T) (d : Depo) : Decidable (overB t0 d) := inferInstanceAs (Decidable (_ <= _))
end
end
end Go.Proofs.YtgeelfdgnehdnaaGreatDoor
end

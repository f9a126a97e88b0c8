/-
  More fuel, the same run. Nothing here speaks of a program.
-/
import Derived.Test.YtmlemnbhjbaedaaGreatDoorWApp
namespace Go.Proofs.YtmlemnbhjbaedaaGreatDoor
open Go.RowKit
set_option linter.unusedSimpArgs false
set_option linter.unusedVariables false

structure SelfLe (S S' : Self) : Prop where
  fn : ∀ f vs h r, S.fn f vs h = some r → S'.fn f vs h = some r
  yield : ∀ l vs h r, S.yield l vs h = some r → S'.yield l vs h = some r
structure FlowLe (F F' : Flow) : Prop where
  loop : ∀ c st r, F.loop c st = some r → F'.loop c st = some r
  scope : ∀ c l st r, F.scope c l st = some r → F'.scope c l st = some r
section
variable {S S' : Self} {F F' : Flow} {C : Cfg}
theorem callV_le (le : SelfLe S S') {fr : Tr V} {h : Heap} {o : Op} {r : V × Heap} (hc : callV S C fr h o = some r) : callV S' C fr h o = some r := by
  unfold callV at hc ⊢
  split at hc
  · rename_i x xs ats
    try simp only
    split at hc
    · rename_i f a c vs hx hxs
      try rw [hx, hxs]
      try simp only
      split at hc
      · rename_i e he
        try rw [he]
        exact hc
      · rename_i he
        try rw [he]
        exact le.fn _ _ _ _ hc
    · rename_i l vs hx hxs
      try rw [hx, hxs]
      exact le.yield _ _ _ _ hc
    · cases hc
  · rename_i x m xs ats
    try simp only
    split at hc
    · rename_i t v vs hx hxs
      try rw [hx, hxs]
      try simp only
      split at hc
      · rename_i f hf
        try rw [hf]
        try simp only
        split at hc
        · cases hc
        · rename_i he
          try rw [he]
          exact le.fn _ _ _ _ hc
      · cases hc
    · cases hc
  · cases hc
theorem opV_le (le : SelfLe S S') {fr : Tr V} {h : Heap} {o : Oper} {r : V × Heap} (hc : opV S C fr h o = some r) : opV S' C fr h o = some r := by
  unfold opV at hc ⊢
  split at hc
  · rename_i v hv
    (try rw [hv]); exact hc
  · rename_i hv
    try rw [hv]
    try simp only
    split at hc
    · rename_i q hq
      (try rw [hq]); exact hc
    · rename_i hq
      (try rw [hq]); exact callV_le le hc
theorem evalOps_le (le : SelfLe S S') {ops : Array Oper} : ∀ (l : List Oper) {fr : Tr V} {h : Heap} {r : Tr V × Heap}, evalOps S C ops l fr h = some r → evalOps S' C ops l fr h = some r
  | [], _, _, _, hr => hr
  | o :: l, fr, h, r, hr => by
    simp only [evalOps] at hr ⊢
    split at hr
    · rename_i hw
      try rw [hw]
      try simp only
      split at hr
      · rename_i v h' ho
        rw [opV_le le ho]
        exact evalOps_le le l hr
      · cases hr
    · rename_i hw
      try rw [hw]
      exact evalOps_le le l hr
    · cases hr
theorem stepF_le (le : SelfLe S S') {fr : Tr V} {h : Heap} {o : Oper} {r : V × Heap × Option Ev} (hc : stepF S C fr h o = some r) : stepF S' C fr h o = some r := by
  unfold stepF at hc ⊢
  split at hc
  · rename_i v hv
    (try rw [hv]); exact hc
  · rename_i hv
    try rw [hv]
    try simp only
    split at hc
    · rename_i v h1 ho
      rw [opV_le le ho]; exact hc
    · cases hc
theorem evalFlow_le (le : SelfLe S S') {ops : Array Oper} : ∀ (l : List Oper) {i : Nat} {es : List (Nat × Ev)} {fr : Tr V} {h : Heap} {r : Tr V × Heap}, evalFlow S C ops l i es fr h = some r → evalFlow S' C ops l i es fr h = some r
  | [], _, _, _, _, _, hr => hr
  | o :: l, i, es, fr, h, r, hr => by
    simp only [evalFlow] at hr ⊢
    split at hr
    · rename_i hw
      try rw [hw]
      try simp only
      split at hr
      · rename_i v h1 x ho
        rw [stepF_le le ho]
        try simp only
        split at hr
        · rename_i he
          try rw [he]
          exact evalFlow_le le l hr
        · cases hr
      · rename_i v h1 ho
        rw [stepF_le le ho]
        exact evalFlow_le le l hr
      · cases hr
    · rename_i hw
      try rw [hw]
      exact evalFlow_le le l hr
    · cases hr
theorem evalCode_le (le : SelfLe S S') (lf : FlowLe F F') : ∀ (c : Code) {st : St} {r : Exit × St}, evalCode S F C c st = some r → evalCode S' F' C c st = some r
  | .skip, st, r, h => by simp only [evalCode] at h ⊢; exact h
  | .region id ops dr, st, r, h => by
    simp only [evalCode] at h ⊢
    cases dr with
    | true =>
      simp only at h ⊢
      split at h
      · rename_i fr hh he
        rw [evalFlow_le le _ he]; exact h
      · cases h
    | false =>
      simp only at h ⊢
      split at h
      · rename_i fr hh he
        rw [evalOps_le le _ he]; exact h
      · cases h
  | .seq x y, st, r, h => by
    simp only [evalCode] at h ⊢
    split at h
    · rename_i st' he
      rw [evalCode_le le lf x he]
      exact evalCode_le le lf y h
    · rename_i hne
      have := evalCode_le le lf x h
      rw [this]
      split
      · rename_i st' e
        cases e
        exact absurd h (by intro e'; exact hne _ e')
      · rfl
  | .cond c x y, st, r, h => by
    simp only [evalCode] at h ⊢
    split at h
    · rename_i hc
      (try rw [hc]); exact evalCode_le le lf x h
    · rename_i hc
      (try rw [hc]); exact evalCode_le le lf y h
    · cases h
  | .block id x, st, r, h => by
    simp only [evalCode] at h ⊢
    split at h
    · rename_i id' st' he
      rw [evalCode_le le lf x he]; exact h
    · rename_i hne
      have := evalCode_le le lf x h
      rw [this]
      split
      · rename_i id' st' e
        cases e
        exact absurd h (by intro e'; exact hne _ _ e')
      · rfl
  | .loop x, st, r, h => by simp only [evalCode] at h ⊢; exact lf.loop _ _ _ h
  | .rangeFunc g ps asg bd, st, r, h => by
    simp only [evalCode] at h ⊢
    split at h
    · rename_i gf c hrd hg
      try rw [hrd, hg]
      try simp only
      split at h
      · rename_i v hh he
        rw [le.fn _ _ _ _ he]; exact h
      · cases h
    · cases h
  | .exit id, st, r, h => by simp only [evalCode] at h ⊢; exact h
  | .scope x, st, r, h => by
    simp only [evalCode] at h ⊢
    split at h
    · rename_i l st' he
      rw [evalCode_le le lf x he]; exact lf.scope _ _ _ _ h
    · rename_i hne
      have := evalCode_le le lf x h
      rw [this]
      split
      · rename_i l st' e
        cases e
        exact absurd h (by intro e'; exact hne _ _ e')
      · rfl
  | .label _, st, r, h => by simp only [evalCode] at h ⊢; exact h
  | .goto l, st, r, h => by simp only [evalCode] at h ⊢; exact h
  | .ret, st, r, h => by simp only [evalCode] at h ⊢; exact h
  | .refuse _, st, r, h => by simp only [evalCode] at h; cases h
end
noncomputable def Sn (C : Cfg) (n : Nat) : Self := ⟨runFn C n, runYield C n⟩
noncomputable def Fl (C : Cfg) (n : Nat) : Flow := ⟨runLoop C n, runScope C n⟩
theorem run_le1 (C : Cfg) : ∀ n, SelfLe (Sn C n) (Sn C (n + 1)) ∧ FlowLe (Fl C n) (Fl C (n + 1))
  | 0 => ⟨⟨fun f vs h r hr => by simp [Sn, runFn] at hr, fun l vs h r hr => by simp [Sn, runYield] at hr⟩, ⟨fun c st r hr => by simp [Fl, runLoop] at hr, fun c l st r hr => by simp [Fl, runScope] at hr⟩⟩
  | n + 1 => by
    obtain ⟨ls, lf⟩ := run_le1 C n
    have hc : ∀ (c : Code) {st : St} {r : Exit × St}, evalCode ⟨runFn C n, runYield C n⟩ ⟨runLoop C n, runScope C n⟩ C c st = some r → evalCode ⟨runFn C (n + 1), runYield C (n + 1)⟩ ⟨runLoop C (n + 1), runScope C (n + 1)⟩ C c st = some r := fun c {st r} h => evalCode_le ls lf c h
    refine ⟨⟨fun f vs h r hr => ?_, fun l vs h r hr => ?_⟩, ⟨fun c st r hr => ?_, fun c l st r hr => ?_⟩⟩
    · show runFn C (n + 2) f vs h = some r
      have hr : runFn C (n + 1) f vs h = some r := hr
      rw [runFn] at hr ⊢
      split at hr
      · rename_i k hk
        (try rw [hk]); exact hr
      · rename_i hk
        try rw [hk]
        try simp only
        split at hr
        · cases hr
        · rename_i fn hfn
          try rw [hfn]
          try simp only
          split at hr
          · rename_i c hb hn
            try rw [hb, hn]
            try simp only
            split at hr
            · rename_i st he
              rw [hc c he]; exact hr
            · rename_i st he
              rw [hc c he]; exact hr
            · cases hr
          · cases hr
    · show runYield C (n + 2) l vs h = some r
      have hr : runYield C (n + 1) l vs h = some r := hr
      rw [runYield] at hr ⊢
      split at hr
      · rename_i fr ps asg bd d hl
        try rw [hl]
        try simp only
        split at hr
        · cases hr
        · rename_i hp
          try rw [hp]
          try simp only
          split at hr
          · rename_i st1 h1
            rw [hc asg h1]
            try simp only
            split at hr
            · rename_i fr1 ps1 asg1 bd1 d1 hl1
              try rw [hl1]
              try simp only
              split at hr
              · rename_i x st2 h2
                rw [hc bd h2]; exact hr
              · cases hr
            · cases hr
          · cases hr
      · cases hr
    · show runLoop C (n + 2) c st = some r
      have hr : runLoop C (n + 1) c st = some r := hr
      rw [runLoop] at hr ⊢
      split at hr
      · rename_i st' he
        rw [hc c he]
        exact lf.loop _ _ _ hr
      · rename_i hne
        have := hc c hr
        rw [this]
        split
        · rename_i st' e
          cases e
          exact absurd hr (by intro e'; exact hne _ e')
        · rfl
    · show runScope C (n + 2) c l st = some r
      have hr : runScope C (n + 1) c l st = some r := hr
      rw [runScope] at hr ⊢
      split at hr
      · rename_i rest hrest
        try rw [hrest]
        try simp only
        split at hr
        · rename_i l' st' he
          rw [hc rest he]
          exact lf.scope _ _ _ _ hr
        · rename_i hne
          have := hc rest hr
          rw [this]
          split
          · rename_i l' st' e
            cases e
            exact absurd hr (by intro e'; exact hne _ _ e')
          · rfl
      · cases hr
theorem SelfLe.trans {a b c : Self} (x : SelfLe a b) (y : SelfLe b c) : SelfLe a c := ⟨fun f vs h r hr => y.fn _ _ _ _ (x.fn _ _ _ _ hr), fun l vs h r hr => y.yield _ _ _ _ (x.yield _ _ _ _ hr)⟩
theorem FlowLe.trans {a b c : Flow} (x : FlowLe a b) (y : FlowLe b c) : FlowLe a c := ⟨fun f vs r hr => y.loop _ _ _ (x.loop _ _ _ hr), fun l vs h r hr => y.scope _ _ _ _ (x.scope _ _ _ _ hr)⟩
theorem run_le (C : Cfg) {n : Nat} : ∀ {m : Nat}, n ≤ m → SelfLe (Sn C n) (Sn C m) ∧ FlowLe (Fl C n) (Fl C m)
  | 0, h => by
    obtain rfl : n = 0 := by omega
    exact ⟨⟨fun _ _ _ _ h => h, fun _ _ _ _ h => h⟩, ⟨fun _ _ _ h => h, fun _ _ _ _ h => h⟩⟩
  | m + 1, h => by
    rcases Nat.lt_or_ge n (m + 1) with h1 | h1
    · obtain ⟨a, b⟩ := run_le C (m := m) (n := n) (by omega)
      obtain ⟨c, d⟩ := run_le1 C m
      exact ⟨a.trans c, b.trans d⟩
    · obtain rfl : n = m + 1 := by omega
      exact ⟨⟨fun _ _ _ _ h => h, fun _ _ _ _ h => h⟩, ⟨fun _ _ _ h => h, fun _ _ _ _ h => h⟩⟩
end Go.Proofs.YtmlemnbhjbaedaaGreatDoor

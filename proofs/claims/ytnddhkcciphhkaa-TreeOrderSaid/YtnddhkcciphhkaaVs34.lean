/- The interpreter without fuel: what calls and loops come to in the end. -/
import Derived.Test.YtnddhkcciphhkaaVs33
set_option linter.unusedVariables false
set_option linter.unusedSimpArgs false
namespace Go.Vs
open Go

/-! ### What holds in the end -/
section
variable {α β : Type}
def Evt (f : Nat → α) (z : α) : Prop := ∃ k0, ∀ k, k0 ≤ k → f k = z
theorem Evt.unique {f : Nat → α} {y z : α} (h : Evt f y) (g : Evt f z) : y = z := by
  obtain ⟨a, ha⟩ := h
  obtain ⟨b, hb⟩ := g
  rw [← ha (max a b) (by omega), hb (max a b) (by omega)]
theorem Evt.const (z : α) : Evt (fun _ => z) z := ⟨0, fun _ _ => rfl⟩
theorem Evt.map {f : Nat → α} {z : α} (h : Evt f z) (g : α → β) : Evt (fun k => g (f k)) (g z) := by
  obtain ⟨a, ha⟩ := h
  exact ⟨a, fun k hk => by simp only [ha k hk]⟩
theorem Evt.map2 {γ : Type} {f : Nat → α} {g : Nat → β} {y : α} {z : β} (h : Evt f y) (k : Evt g z) (m : α → β → γ) : Evt (fun n => m (f n) (g n)) (m y z) := by
  obtain ⟨a, ha⟩ := h
  obtain ⟨b, hb⟩ := k
  exact ⟨max a b, fun n hn => by simp only [ha n (by omega), hb n (by omega)]⟩
theorem Evt.bind {f : Nat → Option α} {g : Nat → α → Option β} {y : α} {z : Option β} (h : Evt f (some y)) (k : Evt (fun n => g n y) z) : Evt (fun n => (f n).bind (g n)) z := by
  obtain ⟨a, ha⟩ := h
  obtain ⟨b, hb⟩ := k
  exact ⟨max a b, fun n hn => by simp only [ha n (by omega), Option.bind_some, hb n (by omega)]⟩
theorem Evt.succ {f : Nat → α} {z : α} (h : Evt (fun k => f (k + 1)) z) : Evt f z := by
  obtain ⟨a, ha⟩ := h
  refine ⟨a + 1, fun k hk => ?_⟩
  obtain ⟨m, rfl⟩ : ∃ m, k = m + 1 := ⟨k - 1, by omega⟩
  exact ha m (by omega)
open Classical in
noncomputable def lim (f : Nat → Option α) : Option α := if h : ∃ z, Evt f (some z) then some h.choose else none
theorem lim_of {f : Nat → Option α} {z : Option α} (h : Evt f z) : lim f = z := by
  unfold lim
  split
  · rename_i hq
    exact (hq.choose_spec).unique h
  · rename_i hq
    cases z with
    | none => rfl
    | some z => exact absurd ⟨z, h⟩ hq
theorem lim_some {f : Nat → Option α} {z : α} (h : lim f = some z) : Evt f (some z) := by
  unfold lim at h
  split at h
  · rename_i hq
    cases h
    exact hq.choose_spec
  · cases h
end

/-! ### Calls -/
noncomputable def callRL (P : Program) (H : Hints) (f : FuncId) (args : List PV) (S : Store) : Option (PV × Store) := lim fun k => callF P H k f args S
noncomputable def callL (P : Program) (H : Hints) (f : FuncId) (args : List PV) : Option PV := (callRL P H f args []).bind fun r => fzPV r.2 r.1
theorem callL_evt {P : Program} {H : Hints} {f : FuncId} {args : List PV} {v : PV} (h : callL P H f args = some v) : Evt (fun k => callP P H k f args) (some v) := by
  obtain ⟨r, h1, h2⟩ := bind_some h
  rw [← h2]
  exact (lim_some h1).map fun x => x.bind fun r => fzPV r.2 r.1
/-- What a law asks for. -/
theorem callP_of {P : Program} {H : Hints} {f : FuncId} {args : List PV} {v : PV} (h : callL P H f args = some v) : ∃ n, callP P H n f args = some v := by
  obtain ⟨k, hk⟩ := callL_evt h
  exact ⟨k, hk k (Nat.le_refl _)⟩
noncomputable def ctxL (P : Program) (H : Hints) (base : Nat) (h : Hint) : Ctx := { P, H, cp := callL P H, cr := callRL P H, base, h }
def ctxK (P : Program) (H : Hints) (base : Nat) (h : Hint) (k : Nat) : Ctx := { P, H, cp := fun g as => (callF P H k g as []).bind fun (r, S) => fzPV S r, cr := callF P H k, base, h }

/-! ### Code -/
section
variable {R : Type}
noncomputable def loopL (body : (Vs.X → Env → Store → Option R) → Env → Store → Option R) (norm : Env → Store → Option (Env × Store)) (K : Vs.X → Env → Store → Option R) (e : Env) (S : Store) : Option R := lim fun n => loopC body norm K n e S
noncomputable def execL (C : Ctx) : Nat → Code → (Vs.X → Env → Store → Option R) → Env → Store → Option R
  | _, .skip, K, e, S => K .normal e S
  | _, .region _ ops draw, K, e, S =>
    if draw = true then (if (drawOK ops (kindS C.H ops) || drawOK ops (fun j => (kindsOf C ops ops.toList e S).getD j 0)) = true then runC C ops ops.toList e S (fun e S => K .normal (trim C.h.keep e) S) else none)
    else runC C ops ops.toList e S (fun e S => K .normal (trim C.h.keep e) S)
  | b, .seq x y, K, e, S => execL C b x (seqC (fun e S => execL C b y K e S) K) e S
  | b, .cond c x y, K, e, S => condC (ev e c) (execL C b x K e S) (execL C b y K e S)
  | _, .block id body, K, e, S => execL C id body (blockC id K) e S
  | b, .loop body, K, e, S =>
    (C.h.loops.lookup b).bind fun h =>
    (fzSlots h.fz (ownAll h.own (keepOnly h.live e) S).1 (ownAll h.own (keepOnly h.live e) S).2).bind fun r =>
    loopL (fun K e S => execL C b body K e S) (normG h.live h.fz r.2.length) (afterC b r.2.length h.after K) r.1 r.2
  | _, .exit id, K, e, S => K (.exit id) e S
  | _, .ret, K, e, S => K .ret e S
  | _, _, _, _, _ => none

def LinR (F : (Env → Store → Option R) → Option R) : Prop := ∀ K z, F K = some z → ∃ e S, K e S = some z ∧ ∀ K', F K' = K' e S
def Lin (F : (Vs.X → Env → Store → Option R) → Option R) : Prop := ∀ K z, F K = some z → ∃ x e S, K x e S = some z ∧ ∀ K', F K' = K' x e S

theorem lin_runC (C : Ctx) (ops : Array Oper) : ∀ (l : List Oper) (e : Env) (S : Store), LinR (R := R) fun K => runC C ops l e S K
  | [], e, S, K, z, h => ⟨e, S, h, fun _ => rfl⟩
  | o :: r, e, S, K, z, h => by
    simp only [runC] at h ⊢
    split at h
    · split at h
      · obtain ⟨v, h1, h2⟩ := bind_some h
        subst h1
        exact lin_runC C ops r _ _ K z h2
      · obtain ⟨v, h1, h2⟩ := bind_some h
        subst h1
        exact lin_runC C ops r _ _ K z h2
      · obtain ⟨v, h1, h2⟩ := bind_some h
        subst h1
        exact lin_runC C ops r _ _ K z h2
    · split at h
      · rename_i ht
        exact lin_runC C ops r _ _ K z h
      · rename_i ht
        split at h
        · obtain ⟨v, h1, h2⟩ := bind_some h
          simp only [h1, withV, Option.bind_some]
          exact lin_runC C ops r _ _ K z h2
        · obtain ⟨v, h1, h2⟩ := bind_some h
          simp only [h1, withN, Option.bind_some]
          exact lin_runC C ops r _ _ K z h2
        · obtain ⟨v, h1, h2⟩ := bind_some h
          simp only [h1, withE, Option.bind_some]
          exact lin_runC C ops r _ _ K z h2

theorem lin_loopC {body : (Vs.X → Env → Store → Option R) → Env → Store → Option R} (hb : ∀ e S, Lin fun K => body K e S) {norm : Env → Store → Option (Env × Store)} : ∀ (n : Nat) (K : Vs.X → Env → Store → Option R) (e : Env) (S : Store) (z : R), loopC body norm K n e S = some z → ∃ x e' S', K x e' S' = some z ∧ ∀ K', loopL body norm K' e S = K' x e' S'
  | 0, K, e, S, z, h => by cases h
  | n + 1, K, e, S, z, h => by
    simp only [loopC] at h
    obtain ⟨x, e1, S1, h1, h2⟩ := hb e S _ _ h
    dsimp only at h2
    cases x with
    | normal =>
      simp only at h1
      obtain ⟨q, h3, h4⟩ := bind_some h1
      obtain ⟨x, e2, S2, h5, h6⟩ := lin_loopC hb n K _ _ z h4
      refine ⟨x, e2, S2, h5, fun K' => ?_⟩
      rw [← h6 K']
      unfold loopL
      cases hl : lim fun n => loopC body norm K' n q.1 q.2 with
      | some y =>
        refine lim_of (Evt.succ ?_)
        simp only [loopC, h2, h3, Option.bind_some]
        exact lim_some hl
      | none =>
        cases hl' : lim fun n => loopC body norm K' n e S with
        | none => rfl
        | some y =>
          have := lim_some hl'
          have h7 : Evt (fun n => loopC body norm K' n q.1 q.2) (some y) := by
            obtain ⟨k, hk⟩ := this
            refine ⟨k, fun m hm => ?_⟩
            have := hk (m + 1) (by omega)
            simp only [loopC, h2, h3, Option.bind_some] at this
            exact this
          rw [lim_of h7] at hl
          cases hl
    | exit i =>
      refine ⟨.exit i, e1, S1, h1, fun K' => lim_of (Evt.succ ?_)⟩
      simp only [loopC, h2]
      exact .const _
    | ret =>
      refine ⟨.ret, e1, S1, h1, fun K' => lim_of (Evt.succ ?_)⟩
      simp only [loopC, h2]
      exact .const _
theorem lin_loopL {body : (Vs.X → Env → Store → Option R) → Env → Store → Option R} (hb : ∀ e S, Lin fun K => body K e S) (norm : Env → Store → Option (Env × Store)) (e : Env) (S : Store) : Lin fun K => loopL body norm K e S := fun K z h => by
  obtain ⟨n, hn⟩ := lim_some h
  exact lin_loopC hb n K e S z (hn n (Nat.le_refl _))

theorem lin_execL (C : Ctx) : ∀ (c : Code) (b : Nat) (e : Env) (S : Store), Lin (R := R) fun K => execL C b c K e S := by
  intro c
  induction c with
  | skip => intro b e S K z h; exact ⟨_, _, _, h, fun _ => rfl⟩
  | region id ops draw =>
    intro b e S K z h
    simp only [execL] at h ⊢
    split at h
    · split at h
      · rename_i hd
        simp only [hd, if_true]
        obtain ⟨e', S', h1, h2⟩ := lin_runC C ops _ _ _ _ _ h
        exact ⟨_, _, _, h1, fun K' => by rw [if_pos (by assumption)]; exact h2 _⟩
      · cases h
    · rename_i hd
      obtain ⟨e', S', h1, h2⟩ := lin_runC C ops _ _ _ _ _ h
      exact ⟨_, _, _, h1, fun K' => by rw [if_neg hd]; exact h2 _⟩
  | seq p q ihp ihq =>
    intro b e S K z h
    simp only [execL] at h ⊢
    obtain ⟨x, e1, S1, h1, h2⟩ := ihp b e S _ _ h
    dsimp only at h2
    cases x with
    | normal =>
      obtain ⟨x, e2, S2, h3, h4⟩ := ihq b e1 S1 _ _ h1
      dsimp only at h4
      exact ⟨x, e2, S2, h3, fun K' => by rw [h2]; exact h4 K'⟩
    | exit i => exact ⟨_, _, _, h1, fun K' => by rw [h2]; rfl⟩
    | ret => exact ⟨_, _, _, h1, fun K' => by rw [h2]; rfl⟩
  | cond o p q ihp ihq =>
    intro b e S K z h
    simp only [execL] at h ⊢
    cases hv : ev e o <;> rw [hv] at h <;> simp only [condC, reduceCtorEq] at h
    rename_i t
    cases t with
    | true =>
      simp only [if_true] at h
      obtain ⟨x, e1, S1, h1, h2⟩ := ihp b e S _ _ h
      dsimp only at h2
      exact ⟨x, e1, S1, h1, fun K' => by simp only [condC, if_true]; exact h2 K'⟩
    | false =>
      simp only [Bool.false_eq_true, if_false] at h
      obtain ⟨x, e1, S1, h1, h2⟩ := ihq b e S _ _ h
      dsimp only at h2
      exact ⟨x, e1, S1, h1, fun K' => by simp only [condC, Bool.false_eq_true, if_false]; exact h2 K'⟩
  | block id body ih =>
    intro b e S K z h
    simp only [execL] at h ⊢
    obtain ⟨x, e1, S1, h1, h2⟩ := ih id e S _ _ h
    dsimp only at h2
    cases x with
    | normal => exact ⟨_, _, _, h1, fun K' => by rw [h2]; rfl⟩
    | ret => exact ⟨_, _, _, h1, fun K' => by rw [h2]; rfl⟩
    | exit i =>
      simp only [blockC] at h1
      by_cases hi : i = id
      · rw [if_pos hi] at h1
        exact ⟨_, _, _, h1, fun K' => by rw [h2]; simp only [blockC, if_pos hi]⟩
      · rw [if_neg hi] at h1
        exact ⟨_, _, _, h1, fun K' => by rw [h2]; simp only [blockC, if_neg hi]⟩
  | loop body ih =>
    intro b e S K z h
    simp only [execL] at h ⊢
    obtain ⟨hh, h1, h⟩ := bind_some h
    obtain ⟨r, h2, h⟩ := bind_some h
    simp only [h1, h2, Option.bind_some]
    obtain ⟨x, e1, S1, h3, h4⟩ := lin_loopL (fun e S => ih b e S) _ _ _ _ _ h
    dsimp only at h4
    cases x with
    | normal => exact ⟨_, _, _, h3, fun K' => by rw [h4]; rfl⟩
    | ret => exact ⟨_, _, _, h3, fun K' => by rw [h4]; rfl⟩
    | exit i =>
      simp only [afterC] at h3
      by_cases hi : i = b
      · rw [if_pos hi] at h3
        exact ⟨_, _, _, h3, fun K' => by rw [h4]; simp only [afterC, if_pos hi]⟩
      · rw [if_neg hi] at h3
        exact ⟨_, _, _, h3, fun K' => by rw [h4]; simp only [afterC, if_neg hi]⟩
  | exit id => intro b e S K z h; exact ⟨_, _, _, h, fun _ => rfl⟩
  | ret => intro b e S K z h; exact ⟨_, _, _, h, fun _ => rfl⟩
  | _ => intro b e S K z h; simp [execL] at h

/-- A loop, once. -/
def stepC (norm : Env → Store → Option (Env × Store)) (K : Vs.X → Env → Store → Option R) (again : Env → Store → Option R) : Vs.X → Env → Store → Option R
  | .normal, e, S => (norm e S).bind fun q => again q.1 q.2
  | .exit i, e, S => K (.exit i) e S
  | .ret, e, S => K .ret e S
theorem loopL_step {C : Ctx} {b : Nat} {c : Code} {norm : Env → Store → Option (Env × Store)} {K : Vs.X → Env → Store → Option R} {e : Env} {S : Store} {z : R}
    (h : execL C b c (stepC norm K (loopL (fun K e S => execL C b c K e S) norm K)) e S = some z) : loopL (fun K e S => execL C b c K e S) norm K e S = some z := by
  obtain ⟨x, e1, S1, h1, h2⟩ := lin_execL C c b e S _ _ h
  dsimp only at h2
  refine lim_of (Evt.succ ?_)
  simp only [loopC, h2]
  cases x with
  | normal =>
    simp only [stepC] at h1
    obtain ⟨q, h3, h4⟩ := bind_some h1
    simp only [h3, Option.bind_some]
    exact lim_some h4
  | exit i => exact ⟨0, fun _ _ => h1⟩
  | ret => exact ⟨0, fun _ _ => h1⟩
end

end Go.Vs

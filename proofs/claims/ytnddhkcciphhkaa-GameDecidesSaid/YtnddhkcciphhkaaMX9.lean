/- The interpreter without fuel: sound. -/

import Derived.Test.YtnddhkcciphhkaaMX8
section
set_option linter.unusedVariables false
set_option linter.unusedSimpArgs false
namespace Go.Vs
open Go

/-! ### What comes to something without fuel, comes to it with enough -/
section
variable {P : Program} {H : Hints} {base : Nat} {h : Hint}
theorem ev1_evt {o : Oper} {e : Env} {S : Store} {nid : Nat} {x : Out} (hx : ev1 P (callL P H) o e S nid = some x) : Evt (fun k => ev1 P (ctxK P H base h k).cp o e S nid) (some x) := by
  obtain ⟨dst, op, type, pos, after, guard⟩ := o
  cases op
  case call c =>
    cases hc : c.callee with
    | value f =>
      simp only [ev1, hc] at hx ⊢
      split at hx
      · split at hx
        · rename_i hr
          simp only [hr, if_true]
          obtain ⟨as, h1, h2⟩ := bind_some hx
          obtain ⟨v, h3, rfl⟩ := map_some h2
          simp only [h1, Option.bind_some]
          exact (callL_evt h3).map (Option.map _)
        · cases hx
      · cases hx
    | builtin b => simp only [ev1, hc] at hx ⊢; cases b <;> exact ⟨0, fun _ _ => hx⟩
    | invoke r m => simp only [ev1, hc] at hx; cases hx
  case makeFunc fn first caps => cases fn <;> exact ⟨0, fun _ _ => hx⟩
  all_goals exact ⟨0, fun _ _ => hx⟩
theorem ev2_evt {o : Oper} {e : Env} {S : Store} {x : Eff} (hx : ev2 (ctxL P H base h) o e S = some x) : Evt (fun k => ev2 (ctxK P H base h k) o e S) (some x) := by
  obtain ⟨dst, op, type, pos, after, guard⟩ := o
  cases op
  case call c =>
    cases hc : c.callee with
    | value f =>
      cases hf : ev e f <;> simp only [ev2, hc, hf, reduceCtorEq] at hx ⊢
      case fn f first caps =>
        by_cases hr : H.refs f = true
        · have hL : (ctxL P H base h).H.refs f = true := hr
          have hK : ∀ k, (ctxK P H base h k).H.refs f = true := fun _ => hr
          rw [if_pos hL] at hx
          simp only [hK, if_true]
          obtain ⟨r, h1, h2⟩ := bind_some hx
          rw [← h2]
          exact (lim_some h1).map fun x => x.bind fun r => if S.length ≤ r.2.length then some ({ v := r.1, S := r.2 } : Eff) else none
        · have hL : ¬ (ctxL P H base h).H.refs f = true := hr
          have hK : ∀ k, ¬ (ctxK P H base h k).H.refs f = true := fun _ => hr
          rw [if_neg hL] at hx
          simp only [hK, if_false, Bool.false_eq_true]
          obtain ⟨as, h1, h2⟩ := bind_some hx
          obtain ⟨v, h3, rfl⟩ := map_some h2
          simp only [h1, Option.bind_some]
          exact (callL_evt h3).map (Option.map _)
    | builtin b => simp only [ev2, hc] at hx ⊢; cases b <;> exact ⟨0, fun _ _ => hx⟩
    | invoke r m => simp only [ev2, hc] at hx; cases hx
  all_goals exact ⟨0, fun _ _ => hx⟩
theorem stepOp_evt {ops : Array Oper} {o : Oper} {e : Env} {S : Store} {x : Env × Store} (hx : stepOp (ctxL P H base h) ops o e S = some x) : Evt (fun k => stepOp (ctxK P H base h k) ops o e S) (some x) := by
  unfold stepOp at hx ⊢
  obtain ⟨w, h1, h2⟩ := bind_some hx
  simp only [h1, Option.bind_some]
  cases w with
  | false => exact ⟨0, fun _ _ => h2⟩
  | true =>
    simp only [if_true] at h2 ⊢
    by_cases hf : isEff H o e = true
    · have hL : isEff (ctxL P H base h).H o e = true := hf
      have hK : ∀ k, isEff (ctxK P H base h k).H o e = true := fun _ => hf
      rw [if_pos hL] at h2
      simp only [hK, if_true]
      obtain ⟨r, h3, rfl⟩ := map_some h2
      exact (ev2_evt h3).map (Option.map _)
    · have hL : ¬ isEff (ctxL P H base h).H o e = true := hf
      have hK : ∀ k, ¬ isEff (ctxK P H base h k).H o e = true := fun _ => hf
      rw [if_neg hL] at h2
      simp only [hK, if_false, Bool.false_eq_true]
      obtain ⟨r, h3, rfl⟩ := map_some h2
      exact (ev1_evt (base := base) (h := h) h3).map (Option.map _)
theorem runOps_evt {ops : Array Oper} : ∀ (l : List Oper) {e : Env} {S : Store} {x : Env × Store}, runOps (ctxL P H base h) ops l e S = some x → Evt (fun k => runOps (ctxK P H base h k) ops l e S) (some x)
  | [], e, S, x, hx => ⟨0, fun _ _ => hx⟩
  | o :: r, e, S, x, hx => by
    simp only [runOps] at hx ⊢
    obtain ⟨q, h1, h2⟩ := bind_some hx
    exact (stepOp_evt h1).bind (runOps_evt r h2)
theorem kindsOf_evt {ops : Array Oper} : ∀ (l : List Oper) {e : Env} {S : Store} {x : Env × Store}, runOps (ctxL P H base h) ops l e S = some x → Evt (fun k => kindsOf (ctxK P H base h k) ops l e S) (kindsOf (ctxL P H base h) ops l e S)
  | [], e, S, x, hx => .const _
  | o :: r, e, S, x, hx => by
    simp only [runOps] at hx
    obtain ⟨q, h1, h2⟩ := bind_some hx
    obtain ⟨a, ha⟩ := stepOp_evt h1
    obtain ⟨b, hb⟩ := kindsOf_evt r h2
    refine ⟨max a b, fun k hk => ?_⟩
    simp only [kindsOf, ha k (by omega), h1, hb k (by omega)]
    rfl
theorem runRegion_evt {ops : Array Oper} {draw : Bool} {e : Env} {S : Store} {x : Env × Store} (hx : runRegion (ctxL P H base h) ops draw e S = some x) : Evt (fun k => runRegion (ctxK P H base h k) ops draw e S) (some x) := by
  unfold runRegion at hx ⊢
  cases draw with
  | false => simp only [Bool.false_eq_true, if_false] at hx ⊢; exact runOps_evt _ hx
  | true =>
    simp only [if_true] at hx ⊢
    split at hx
    case isFalse => cases hx
    rename_i hd
    obtain ⟨a, ha⟩ := runOps_evt _ hx
    obtain ⟨b, hb⟩ := kindsOf_evt _ hx
    refine ⟨max a b, fun k hk => ?_⟩
    have hb := hb k (by omega)
    have ha := ha k (by omega)
    dsimp only at hb ha ⊢
    rw [hb, ha]
    exact if_pos hd

variable {R : Type}
theorem execL_sound : ∀ (c : Code) (b : Nat) {K : Vs.X → Env → Store → Option R} {e : Env} {S : Store} {z : R}, execL (ctxL P H base h) b c K e S = some z → ∃ x e' S', K x e' S' = some z ∧ Evt (fun k => exec (ctxK P H base h k) k b c e S) (some (x, e', S')) := by
  intro c
  induction c with
  | skip => intro b K e S z h; exact ⟨_, _, _, h, .const _⟩
  | region id ops draw =>
    intro b K e S z hz
    have fin : ∀ {K' : Env → Store → Option R}, runC (ctxL P H base h) ops ops.toList e S K' = some z → K' = (fun e S => K .normal (trim (h.at id) e) S) → (runRegion (ctxL P H base h) ops draw e S = runOps (ctxL P H base h) ops ops.toList e S) → ∃ x e' S', K x e' S' = some z ∧ Evt (fun k => exec (ctxK P H base h k) k b (.region id ops draw) e S) (some (x, e', S')) := fun hr hK hreg => by
      subst hK
      obtain ⟨e', S', h1, h2⟩ := runC_sound _ hr
      rw [h1] at hreg
      exact ⟨.normal, _, _, h2, (runRegion_evt hreg).map (Option.map fun (r : Env × Store) => (X.normal, trim (h.at id) r.1, r.2))⟩
    simp only [execL] at hz
    cases draw with
    | false => simp only [Bool.false_eq_true, if_false] at hz; exact fin hz rfl (by simp [runRegion])
    | true =>
      simp only [if_true] at hz
      split at hz
      · rename_i hd; exact fin hz rfl (by simp only [runRegion, if_true, hd])
      · cases hz
  | seq p q ihp ihq =>
    intro b K e S z hz
    simp only [execL] at hz
    obtain ⟨x, e1, S1, h1, h2⟩ := ihp b hz
    cases x with
    | normal =>
      obtain ⟨x, e2, S2, h3, h4⟩ := ihq b h1
      exact ⟨x, e2, S2, h3, h2.bind (g := fun k (w : X × Env × Store) => match w.1 with | .normal => exec (ctxK P H base h k) k b q w.2.1 w.2.2 | r => some (r, w.2.1, w.2.2)) h4⟩
    | exit i => exact ⟨_, _, _, h1, h2.bind (.const _)⟩
    | ret => exact ⟨_, _, _, h1, h2.bind (.const _)⟩
  | cond o p q ihp ihq =>
    intro b K e S z hz
    simp only [execL] at hz
    unfold condC at hz
    split at hz
    · rename_i t ht
      split at hz
      · rename_i hb
        obtain ⟨x, e1, S1, h1, h2⟩ := ihp b hz
        exact ⟨x, e1, S1, h1, by simpa only [exec, condV, ht, hb, if_true] using h2⟩
      · rename_i hb
        have hb' : t = false := by simpa using hb
        obtain ⟨x, e1, S1, h1, h2⟩ := ihq b hz
        exact ⟨x, e1, S1, h1, by simpa only [exec, condV, ht, hb', Bool.false_eq_true, if_false] using h2⟩
    · cases hz
  | block id body ih =>
    intro b K e S z hz
    simp only [execL] at hz
    obtain ⟨x, e1, S1, h1, h2⟩ := ih id hz
    refine ⟨if x = .exit id then .normal else x, e1, S1, ?_, h2.map (Option.map _)⟩
    cases x with
    | normal => exact h1
    | ret => exact h1
    | exit i =>
      simp only [blockC] at h1
      by_cases hi : i = id
      · subst hi; simpa using h1
      · rw [if_neg hi] at h1; simpa [hi] using h1
  | loop body ih =>
    intro b K e S z hz
    simp only [execL] at hz
    obtain ⟨hh, h1, hz⟩ := bind_some hz
    obtain ⟨r, h2, hz⟩ := bind_some hz
    obtain ⟨n, hn⟩ := lim_some hz
    have hn := hn n (Nat.le_refl _)
    have key : ∀ (n : Nat) {K : Vs.X → Env → Store → Option R} {e : Env} {S : Store}, loopC (fun K e S => execL (ctxL P H base h) b body K e S) (normG hh.live hh.fz r.2.length) K n e S = some z →
        ∃ x e' S', K x e' S' = some z ∧ ∃ k0, ∀ k, k0 ≤ k → ∀ m, k0 ≤ m → loopN (exec (ctxK P H base h k) k b body) (normG hh.live hh.fz r.2.length) m e S = some (x, e', S') := by
      intro n
      induction n with
      | zero => intro K e S h; cases h
      | succ n ihn =>
        intro K e S hz
        simp only [loopC] at hz
        obtain ⟨x, e1, S1, h4, k1, h3⟩ := ih b hz
        cases x with
        | normal =>
          obtain ⟨q, h5, h6⟩ := bind_some h4
          obtain ⟨x, e2, S2, h8, k2, h7⟩ := ihn h6
          refine ⟨x, e2, S2, h8, max k1 (k2 + 1), fun k hk m hm => ?_⟩
          obtain ⟨m, rfl⟩ : ∃ i, m = i + 1 := ⟨m - 1, by omega⟩
          simp only [loopN, h3 k (by omega), Option.bind_some, h5, h7 k (by omega) m (by omega)]
        | exit i => exact ⟨_, _, _, h4, max k1 1, fun k hk m hm => by
            obtain ⟨m, rfl⟩ : ∃ i, m = i + 1 := ⟨m - 1, by omega⟩
            simp only [loopN, h3 k (by omega), Option.bind_some]⟩
        | ret => exact ⟨_, _, _, h4, max k1 1, fun k hk m hm => by
            obtain ⟨m, rfl⟩ : ∃ i, m = i + 1 := ⟨m - 1, by omega⟩
            simp only [loopN, h3 k (by omega), Option.bind_some]⟩
    obtain ⟨x, e1, S1, h4, k0, h3⟩ := key n hn
    have base' : ∀ k, k0 ≤ k → exec (ctxK P H base h k) k b (.loop body) e S = some (afterG b r.2.length hh.after (x, e1, S1)) := fun k hk => by
      have h1' : (ctxK P H base h k).h.loops.lookup b = some hh := h1
      simp only [exec, h1', Option.bind_some, h2, h3 k hk k hk, Option.map_some]
    cases x with
    | normal => exact ⟨_, _, _, h4, k0, base'⟩
    | ret => exact ⟨_, _, _, h4, k0, base'⟩
    | exit i =>
      simp only [afterC] at h4
      by_cases hi : i = b
      · subst hi
        rw [if_pos rfl] at h4
        exact ⟨_, _, _, h4, k0, fun k hk => by simp only [base' k hk, afterG, if_true]⟩
      · rw [if_neg hi] at h4
        exact ⟨_, _, _, h4, k0, fun k hk => by simp only [base' k hk, afterG, Vs.X.exit.injEq, hi, if_false]⟩
  | exit id => intro b K e S z h; exact ⟨_, _, _, h, .const _⟩
  | ret => intro b K e S z h; exact ⟨_, _, _, h, .const _⟩
  | _ => intro b K e S z h; simp [execL] at h
end

/-- The call of a function whose body comes to something. -/
theorem callRL_of {P : Program} {H : Hints} {f : FuncId} {fn : Func} {c : Code} (hf : P.funcs[f]? = some fn) (hb : fn.body = some c) (hn : fn.name ≠ "runtime.NumGoroutine") (hc : codeOK fn.ntmps c = true) {args : List PV} (ha : args.length ≤ fn.ntmps) {S : Store} {r : PV × Store}
    (h : execL (ctxL P H S.length (H.of f)) 0 c (endC P fn) ((List.range args.length).zip args) S = some r) : callRL P H f args S = some r := by
  obtain ⟨x, e', S', h1, h2⟩ := execL_sound c 0 h
  refine lim_of (Evt.succ ?_)
  obtain ⟨k0, h2⟩ := h2
  refine ⟨k0, fun k hk => ?_⟩
  have h2 := h2 k hk
  simp only [ctxK] at h2
  simp only [callF, hf, hb]
  rw [if_pos ⟨ha, hn, hc⟩, h2]
  simp only [Option.bind_some]
  cases x <;> exact h1
theorem callL_of {P : Program} {H : Hints} {f : FuncId} {fn : Func} {c : Code} (hf : P.funcs[f]? = some fn) (hb : fn.body = some c) (hn : fn.name ≠ "runtime.NumGoroutine") (hc : codeOK fn.ntmps c = true) {args : List PV} (ha : args.length ≤ fn.ntmps) {r : PV × Store} {v : PV}
    (h : execL (ctxL P H 0 (H.of f)) 0 c (endC P fn) ((List.range args.length).zip args) [] = some r) (hv : fzPV r.2 r.1 = some v) : callL P H f args = some v := by
  have h' : callRL P H f args [] = some r := callRL_of hf hb hn hc ha h
  simp only [callL, h', Option.bind_some, hv]
end Go.Vs
end
/- More fuel gives the same. -/
section
set_option linter.unusedVariables false
set_option linter.unusedSimpArgs false
namespace Go.Vs
open Go

section
variable {P : Program} {H : Hints} {base : Nat} {h : Hint} {k k' : Nat}
/-- What one amount of fuel gives in calls, the other gives too. -/
def MonoF (P : Program) (H : Hints) (k k' : Nat) : Prop := ∀ f args S z, callF P H k f args S = some z → callF P H k' f args S = some z
theorem MonoF.cp (m : MonoF P H k k') {f : FuncId} {args : List PV} {v : PV} (h : callP P H k f args = some v) : callP P H k' f args = some v := by
  obtain ⟨r, h1, h2⟩ := bind_some h
  simp only [callP, m _ _ _ _ h1, Option.bind_some]
  exact h2
theorem ev1_mono (m : MonoF P H k k') {o : Oper} {e : Env} {S : Store} {nid : Nat} {x : Out} (hx : ev1 P (ctxK P H base h k).cp o e S nid = some x) : ev1 P (ctxK P H base h k').cp o e S nid = some x := by
  obtain ⟨dst, op, type, pos, after, guard⟩ := o
  cases op
  case call c =>
    cases hc : c.callee with
    | value f =>
      simp only [ev1, hc] at hx ⊢
      split at hx
      · split at hx
        · rename_i hr
          simp only [hr, if_true]
          obtain ⟨as, h1, h2⟩ := bind_some hx
          obtain ⟨v, h3, rfl⟩ := map_some h2
          simp only [h1, Option.bind_some]
          have h3' : (ctxK P H base h k').cp _ as = some v := m.cp h3
          rw [h3']
          rfl
        · cases hx
      · cases hx
    | builtin b => simp only [ev1, hc] at hx ⊢; cases b <;> exact hx
    | invoke r m => simp only [ev1, hc] at hx; cases hx
  case makeFunc fn first caps => cases fn <;> exact hx
  all_goals exact hx
theorem ev2_mono (m : MonoF P H k k') {o : Oper} {e : Env} {S : Store} {x : Eff} (hx : ev2 (ctxK P H base h k) o e S = some x) : ev2 (ctxK P H base h k') o e S = some x := by
  obtain ⟨dst, op, type, pos, after, guard⟩ := o
  cases op
  case call c =>
    cases hc : c.callee with
    | value f =>
      cases hf : ev e f <;> simp only [ev2, hc, hf, reduceCtorEq] at hx ⊢
      case fn f first caps =>
        by_cases hr : H.refs f = true
        · have hK : ∀ k, (ctxK P H base h k).H.refs f = true := fun _ => hr
          simp only [hK, if_true] at hx ⊢
          obtain ⟨r, h1, h2⟩ := bind_some hx
          have h1' : (ctxK P H base h k').cr f (first ++ List.map (ev e) c.args.toList ++ caps) S = some r := m _ _ _ _ h1
          rw [h1']
          exact h2
        · have hK : ∀ k, ¬ (ctxK P H base h k).H.refs f = true := fun _ => hr
          simp only [hK, if_false, Bool.false_eq_true] at hx ⊢
          obtain ⟨as, h1, h2⟩ := bind_some hx
          obtain ⟨v, h3, rfl⟩ := map_some h2
          simp only [h1, Option.bind_some]
          have h3' : (ctxK P H base h k').cp _ as = some v := m.cp h3
          rw [h3']
          rfl
    | builtin b => simp only [ev2, hc] at hx ⊢; cases b <;> exact hx
    | invoke r m => simp only [ev2, hc] at hx; cases hx
  all_goals exact hx
theorem stepOp_mono (m : MonoF P H k k') {ops : Array Oper} {o : Oper} {e : Env} {S : Store} {x : Env × Store} (hx : stepOp (ctxK P H base h k) ops o e S = some x) : stepOp (ctxK P H base h k') ops o e S = some x := by
  unfold stepOp at hx ⊢
  obtain ⟨w, h1, h2⟩ := bind_some hx
  simp only [h1, Option.bind_some]
  cases w with
  | false => exact h2
  | true =>
    simp only [if_true] at h2 ⊢
    by_cases hf : isEff H o e = true
    · have hK : ∀ k, isEff (ctxK P H base h k).H o e = true := fun _ => hf
      simp only [hK, if_true] at h2 ⊢
      obtain ⟨r, h3, rfl⟩ := map_some h2
      rw [ev2_mono m h3]
      rfl
    · have hK : ∀ k, ¬ isEff (ctxK P H base h k).H o e = true := fun _ => hf
      simp only [hK, if_false, Bool.false_eq_true] at h2 ⊢
      obtain ⟨r, h3, rfl⟩ := map_some h2
      have h3' : ev1 (ctxK P H base h k').P (ctxK P H base h k').cp o e S S.length = some r := ev1_mono m h3
      rw [h3']
      rfl
theorem runOps_mono (m : MonoF P H k k') {ops : Array Oper} : ∀ (l : List Oper) {e : Env} {S : Store} {x : Env × Store}, runOps (ctxK P H base h k) ops l e S = some x → runOps (ctxK P H base h k') ops l e S = some x
  | [], e, S, x, hx => hx
  | o :: r, e, S, x, hx => by
    simp only [runOps] at hx ⊢
    obtain ⟨q, h1, h2⟩ := bind_some hx
    rw [stepOp_mono m h1]
    exact runOps_mono m r h2
theorem kindsOf_mono (m : MonoF P H k k') {ops : Array Oper} : ∀ (l : List Oper) {e : Env} {S : Store} {x : Env × Store}, runOps (ctxK P H base h k) ops l e S = some x → kindsOf (ctxK P H base h k') ops l e S = kindsOf (ctxK P H base h k) ops l e S
  | [], e, S, x, hx => rfl
  | o :: r, e, S, x, hx => by
    simp only [runOps] at hx
    obtain ⟨q, h1, h2⟩ := bind_some hx
    simp only [kindsOf, h1, stepOp_mono m h1, kindsOf_mono m r h2]
    rfl
theorem runRegion_mono (m : MonoF P H k k') {ops : Array Oper} {draw : Bool} {e : Env} {S : Store} {x : Env × Store} (hx : runRegion (ctxK P H base h k) ops draw e S = some x) : runRegion (ctxK P H base h k') ops draw e S = some x := by
  unfold runRegion at hx ⊢
  cases draw with
  | false => simp only [Bool.false_eq_true, if_false] at hx ⊢; exact runOps_mono m _ hx
  | true =>
    simp only [if_true] at hx ⊢
    split at hx
    case isFalse => cases hx
    rename_i hd
    rw [kindsOf_mono m _ hx, runOps_mono m _ hx]
    exact if_pos hd
theorem exec_mono (m : MonoF P H k k') (hk : k ≤ k') : ∀ (c : Code) (b : Nat) {e : Env} {S : Store} {x : X × Env × Store}, exec (ctxK P H base h k) k b c e S = some x → exec (ctxK P H base h k') k' b c e S = some x := by
  intro c
  induction c with
  | skip => intro b e S x hx; exact hx
  | region id ops draw =>
    intro b e S x hx
    simp only [exec] at hx ⊢
    obtain ⟨r, h1, rfl⟩ := map_some hx
    rw [runRegion_mono m h1]
    rfl
  | seq p q ihp ihq =>
    intro b e S x hx
    simp only [exec] at hx ⊢
    obtain ⟨⟨r, e1, S1⟩, h1, h2⟩ := bind_some hx
    rw [ihp b h1]
    cases r with
    | normal => exact ihq b h2
    | exit i => exact h2
    | ret => exact h2
  | cond o p q ihp ihq =>
    intro b e S x hx
    simp only [exec] at hx ⊢
    unfold condV at hx ⊢
    split at hx
    · rename_i t ht
      cases t with
      | true => exact ihp b hx
      | false => exact ihq b hx
    · cases hx
  | block id body ih =>
    intro b e S x hx
    simp only [exec] at hx ⊢
    obtain ⟨r, h1, rfl⟩ := map_some hx
    rw [ih id h1]
    rfl
  | loop body ih =>
    intro b e S x hx
    simp only [exec] at hx ⊢
    obtain ⟨hh, h1, hx⟩ := bind_some hx
    obtain ⟨r, h2, hx⟩ := bind_some hx
    obtain ⟨y, h3, rfl⟩ := map_some hx
    have h1' : (ctxK P H base h k').h.loops.lookup b = some hh := h1
    simp only [h1', Option.bind_some, h2]
    have key : ∀ (n n' : Nat), n ≤ n' → ∀ {e : Env} {S : Store} {y : X × Env × Store}, loopN (exec (ctxK P H base h k) k b body) (normG hh.live hh.fz r.2.length) n e S = some y → loopN (exec (ctxK P H base h k') k' b body) (normG hh.live hh.fz r.2.length) n' e S = some y := by
      intro n
      induction n with
      | zero => intro n' hn e S y hy; cases hy
      | succ n ihn =>
        intro n' hn e S y hy
        obtain ⟨n', rfl⟩ : ∃ i, n' = i + 1 := ⟨n' - 1, by omega⟩
        simp only [loopN] at hy ⊢
        obtain ⟨⟨q, e1, S1⟩, h4, h5⟩ := bind_some hy
        rw [ih b h4]
        cases q with
        | normal =>
          obtain ⟨w, h6, h7⟩ := bind_some h5
          simp only [Option.bind_some, h6]
          exact ihn n' (by omega) h7
        | exit i => exact h5
        | ret => exact h5
    rw [key k k' hk h3]
    rfl
  | exit id => intro b e S x hx; exact hx
  | ret => intro b e S x hx; exact hx
  | _ => intro b e S x hx; simp [exec] at hx
theorem callF_mono : ∀ (k k' : Nat), k ≤ k' → MonoF P H k k'
  | 0, _, _ => fun f args S z h => by cases h
  | k + 1, k', hk => fun f args S z hz => by
    obtain ⟨k', rfl⟩ : ∃ i, k' = i + 1 := ⟨k' - 1, by omega⟩
    have m := callF_mono k k' (by omega)
    simp only [callF] at hz ⊢
    split at hz
    · rename_i fn hf
      try rw [hf]
      try dsimp only
      split at hz
      · rename_i c hc
        try rw [hc]
        try dsimp only
        split at hz
        · rename_i hq
          rw [if_pos hq]
          obtain ⟨x, h1, h2⟩ := bind_some hz
          have h1' : exec (ctxK P H S.length (H.of f) k') k' 0 c ((List.range args.length).zip args) S = some x := exec_mono m (by omega) c 0 h1
          simp only [ctxK] at h1'
          rw [h1']
          exact h2
        · cases hz
      · cases hz
    · cases hz
/-- A run with some fuel is what it comes to in the end. -/
theorem callL_run {n : Nat} {f : FuncId} {args : List PV} {v : PV} (hc : callP P H n f args = some v) : callL P H f args = some v := by
  obtain ⟨r, h1, h2⟩ := bind_some hc
  have h3 : callRL P H f args [] = some r := lim_of ⟨n, fun k hk => callF_mono n k hk _ _ _ _ h1⟩
  simp only [callL, h3, Option.bind_some, h2]
end
end Go.Vs
end
/- Rules by which printed proofs put pieces of code together. -/
section
set_option linter.unusedVariables false
namespace Go.Vs
open Go
/-- So that simp keeps the step's proof (a proof by `rfl` it drops, and the kernel has to find it again). -/
theorem nr {α : Sort _} {a b : α} (h : a = b) : a = b := h
section
variable {R : Type} {C : Ctx} {b : Nat} {c : Code} {K : Vs.X → Env → Store → Option R} {e : Env} {S : Store}
/-! Parts of code. -/
def at0 : Code → Code | .seq a _ => a | c => c
def at1 : Code → Code | .seq _ b => b | c => c
def atT : Code → Code | .cond _ a _ => a | c => c
def atF : Code → Code | .cond _ _ b => b | c => c
def atB : Code → Code | .block _ a => a | c => c
def atL : Code → Code | .loop a => a | c => c
def isSeq : Code → Bool | .seq _ _ => true | _ => false
def condOf : Code → Option Nat | .cond (.tmp t) _ _ => some t | _ => none
def blockOf : Code → Option Nat | .block i _ => some i | _ => none
theorem seqN {F : Env → Store → Option R} {z : Option R} (h : F e S = z) : seqC F K .normal e S = z := h
theorem enterS (h : isSeq c = true) : execL C b c K e S = execL C b (at0 c) (seqC (fun e S => execL C b (at1 c) K e S) K) e S := by
  cases c <;> first | rfl | cases h
theorem condE {t : Nat} (h : condOf c = some t) {p q : Option R} (hp : execL C b (atT c) K e S = p) (hq : execL C b (atF c) K e S = q) {v : PV} (hv : get e t = v) : execL C b c K e S = condC v p q := by
  unfold condOf at h
  split at h
  · cases h; subst hp; subst hq; subst hv; rfl
  · cases h
theorem blockE {i : Nat} (h : blockOf c = some i) : execL C b c K e S = execL C i (atB c) (blockC i K) e S := by
  unfold blockOf at h
  split at h
  · cases h; rfl
  · cases h
theorem seqC_r (F : Env → Store → Option R) (K : Vs.X → Env → Store → Option R) (e : Env) (S : Store) : seqC F K .ret e S = K .ret e S := rfl
theorem seqC_x (F : Env → Store → Option R) (K : Vs.X → Env → Store → Option R) (i : Nat) (e : Env) (S : Store) : seqC F K (.exit i) e S = K (.exit i) e S := rfl
theorem blockC_n (i : Nat) (K : Vs.X → Env → Store → Option R) (e : Env) (S : Store) : blockC i K .normal e S = K .normal e S := rfl
theorem blockC_r (i : Nat) (K : Vs.X → Env → Store → Option R) (e : Env) (S : Store) : blockC i K .ret e S = K .ret e S := rfl
theorem blockC_x (i : Nat) (K : Vs.X → Env → Store → Option R) (j : Nat) (e : Env) (S : Store) : blockC i K (.exit j) e S = if j = i then K .normal e S else K (.exit j) e S := rfl
theorem stepC_r (norm : Env → Store → Option (Env × Store)) (K : Vs.X → Env → Store → Option R) (again : Env → Store → Option R) (e : Env) (S : Store) : stepC norm K again .ret e S = K .ret e S := rfl
theorem stepC_x (norm : Env → Store → Option (Env × Store)) (K : Vs.X → Env → Store → Option R) (again : Env → Store → Option R) (i : Nat) (e : Env) (S : Store) : stepC norm K again (.exit i) e S = K (.exit i) e S := rfl
theorem afterC_r (b n : Nat) (after : List Nat) (K : Vs.X → Env → Store → Option R) (e : Env) (S : Store) : afterC b n after K .ret e S = K .ret e S := rfl
theorem afterC_x (b n : Nat) (after : List Nat) (K : Vs.X → Env → Store → Option R) (i : Nat) (e : Env) (S : Store) : afterC b n after K (.exit i) e S = if i = b then K (.exit i) (keepOnly after e) (gc n (keepOnly after e) S) else K (.exit i) e S := rfl
theorem execL_skip (h : c = .skip) : execL C b c K e S = K .normal e S := by subst h; rfl
theorem execL_exit {i : Nat} (h : c = .exit i) : execL C b c K e S = K (.exit i) e S := by subst h; rfl
theorem execL_ret (h : c = .ret) : execL C b c K e S = K .ret e S := by subst h; rfl
/-- A slot that comes to own an array, at a loop's head. -/
def withO (S : Store) (x : PV) (K : PV → Store → Option R) : Option R := match x with
  | .sl [] true => K (.msl S.length 0 0 false) (S ++ [.arr [] (some none) false])
  | .msl id off len true => K (.msl id off len false) S
  | v => K v S
/-- A slot that is frozen. -/
def withF (S : Store) (x : PV) (K : PV → Store → Option R) : Option R := (fzPV S x).bind fun v => K v (freezeAll S (reach S 8 x.refs))
theorem own_cons (G : Env → Store → Option R) (t : Nat) (r : List Nat) {e : Env} {S : Store} (h : put e t (get e t) = e) (ht : t < 1000) :
    G (ownAll (t :: r) e S).1 (ownAll (t :: r) e S).2 = withO S (get e t) fun v S' => G (ownAll r (put e t v) S').1 (ownAll r (put e t v) S').2 := by
  have e1 : ownAll (t :: r) e S = ownAll r (own1 e S t).1 (own1 e S t).2 := rfl
  rw [e1]
  unfold own1 withO
  rw [if_pos ht]
  generalize hx : get e t = x at h ⊢
  split
  · rfl
  · rfl
  · rename_i h1 h2
    split
    · exact (h1 rfl).elim
    · exact (h2 _ _ _ rfl).elim
    · dsimp only
      rw [h]
/-- Cells of memory that come to own arrays, at a loop's head. -/
def withM (S : Store) (x : PV) (j : Nat) (K : Store → Option R) : Option R := K (ownMem S x j)
theorem own_mem (G : Env → Store → Option R) (t : Nat) (r : List Nat) {e : Env} {S : Store} (ht : ¬ t < 1000) :
    G (ownAll (t :: r) e S).1 (ownAll (t :: r) e S).2 = withM S (get e (t % 1000)) (t / 1000 - 1) fun S' => G (ownAll r e S').1 (ownAll r e S').2 := by
  have e1 : ownAll (t :: r) e S = ownAll r (own1 e S t).1 (own1 e S t).2 := rfl
  rw [e1]
  unfold own1 withM
  rw [if_neg ht]
end
end Go.Vs
end

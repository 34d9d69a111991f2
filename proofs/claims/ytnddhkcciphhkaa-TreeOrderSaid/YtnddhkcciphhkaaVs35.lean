/- The interpreter without fuel: sound. -/
import Derived.Test.YtnddhkcciphhkaaVs34
set_option linter.unusedVariables false
set_option linter.unusedSimpArgs false
namespace Go.Vs
open Go

/-! ### What comes to something without fuel, comes to it with enough -/
section
variable {P : Program} {H : Hints} {base : Nat} {h : Hint}
theorem ev1_evt {o : Oper} {e : Env} {S : Store} {nid : Nat} {x : Out} (hx : ev1 P (callL P H) o e S nid = some x) : Evt (fun k => ev1 P (ctxK P H base h k).cp o e S nid) (some x) := by
  obtain ⟨dst, op, type, pos, after, guard⟩ := o
  cases op
  case call c =>
    cases hc : c.callee with
    | value f =>
      simp only [ev1, hc] at hx ⊢
      split at hx
      · split at hx
        · rename_i hr
          simp only [hr, if_true]
          obtain ⟨as, h1, h2⟩ := bind_some hx
          obtain ⟨v, h3, rfl⟩ := map_some h2
          simp only [h1, Option.bind_some]
          exact (callL_evt h3).map (Option.map _)
        · cases hx
      · cases hx
    | builtin b => simp only [ev1, hc] at hx ⊢; cases b <;> exact ⟨0, fun _ _ => hx⟩
    | invoke r m => simp only [ev1, hc] at hx; cases hx
  case makeFunc fn first caps => cases fn <;> exact ⟨0, fun _ _ => hx⟩
  all_goals exact ⟨0, fun _ _ => hx⟩
theorem ev2_evt {o : Oper} {e : Env} {S : Store} {x : Eff} (hx : ev2 (ctxL P H base h) o e S = some x) : Evt (fun k => ev2 (ctxK P H base h k) o e S) (some x) := by
  obtain ⟨dst, op, type, pos, after, guard⟩ := o
  cases op
  case call c =>
    cases hc : c.callee with
    | value f =>
      cases hf : ev e f <;> simp only [ev2, hc, hf, reduceCtorEq] at hx ⊢
      case fn f first caps =>
        by_cases hr : H.refs f = true
        · have hL : (ctxL P H base h).H.refs f = true := hr
          have hK : ∀ k, (ctxK P H base h k).H.refs f = true := fun _ => hr
          rw [if_pos hL] at hx
          simp only [hK, if_true]
          obtain ⟨r, h1, h2⟩ := bind_some hx
          rw [← h2]
          exact (lim_some h1).map fun x => x.bind fun r => if S.length ≤ r.2.length then some ({ v := r.1, S := r.2 } : Eff) else none
        · have hL : ¬ (ctxL P H base h).H.refs f = true := hr
          have hK : ∀ k, ¬ (ctxK P H base h k).H.refs f = true := fun _ => hr
          rw [if_neg hL] at hx
          simp only [hK, if_false, Bool.false_eq_true]
          obtain ⟨as, h1, h2⟩ := bind_some hx
          obtain ⟨v, h3, rfl⟩ := map_some h2
          simp only [h1, Option.bind_some]
          exact (callL_evt h3).map (Option.map _)
    | builtin b => simp only [ev2, hc] at hx ⊢; cases b <;> exact ⟨0, fun _ _ => hx⟩
    | invoke r m => simp only [ev2, hc] at hx; cases hx
  all_goals exact ⟨0, fun _ _ => hx⟩
theorem stepOp_evt {ops : Array Oper} {o : Oper} {e : Env} {S : Store} {x : Env × Store} (hx : stepOp (ctxL P H base h) ops o e S = some x) : Evt (fun k => stepOp (ctxK P H base h k) ops o e S) (some x) := by
  unfold stepOp at hx ⊢
  obtain ⟨w, h1, h2⟩ := bind_some hx
  simp only [h1, Option.bind_some]
  cases w with
  | false => exact ⟨0, fun _ _ => h2⟩
  | true =>
    simp only [if_true] at h2 ⊢
    by_cases hf : isEff H o e = true
    · have hL : isEff (ctxL P H base h).H o e = true := hf
      have hK : ∀ k, isEff (ctxK P H base h k).H o e = true := fun _ => hf
      rw [if_pos hL] at h2
      simp only [hK, if_true]
      obtain ⟨r, h3, rfl⟩ := map_some h2
      exact (ev2_evt h3).map (Option.map _)
    · have hL : ¬ isEff (ctxL P H base h).H o e = true := hf
      have hK : ∀ k, ¬ isEff (ctxK P H base h k).H o e = true := fun _ => hf
      rw [if_neg hL] at h2
      simp only [hK, if_false, Bool.false_eq_true]
      obtain ⟨r, h3, rfl⟩ := map_some h2
      exact (ev1_evt (base := base) (h := h) h3).map (Option.map _)
theorem runOps_evt {ops : Array Oper} : ∀ (l : List Oper) {e : Env} {S : Store} {x : Env × Store}, runOps (ctxL P H base h) ops l e S = some x → Evt (fun k => runOps (ctxK P H base h k) ops l e S) (some x)
  | [], e, S, x, hx => ⟨0, fun _ _ => hx⟩
  | o :: r, e, S, x, hx => by
    simp only [runOps] at hx ⊢
    obtain ⟨q, h1, h2⟩ := bind_some hx
    exact (stepOp_evt h1).bind (runOps_evt r h2)
theorem kindsOf_evt {ops : Array Oper} : ∀ (l : List Oper) {e : Env} {S : Store} {x : Env × Store}, runOps (ctxL P H base h) ops l e S = some x → Evt (fun k => kindsOf (ctxK P H base h k) ops l e S) (kindsOf (ctxL P H base h) ops l e S)
  | [], e, S, x, hx => .const _
  | o :: r, e, S, x, hx => by
    simp only [runOps] at hx
    obtain ⟨q, h1, h2⟩ := bind_some hx
    obtain ⟨a, ha⟩ := stepOp_evt h1
    obtain ⟨b, hb⟩ := kindsOf_evt r h2
    refine ⟨max a b, fun k hk => ?_⟩
    simp only [kindsOf, ha k (by omega), h1, hb k (by omega)]
    rfl
theorem runRegion_evt {ops : Array Oper} {draw : Bool} {e : Env} {S : Store} {x : Env × Store} (hx : runRegion (ctxL P H base h) ops draw e S = some x) : Evt (fun k => runRegion (ctxK P H base h k) ops draw e S) (some x) := by
  unfold runRegion at hx ⊢
  cases draw with
  | false => simp only [Bool.false_eq_true, if_false] at hx ⊢; exact runOps_evt _ hx
  | true =>
    simp only [if_true] at hx ⊢
    split at hx
    case isFalse => cases hx
    rename_i hd
    obtain ⟨a, ha⟩ := runOps_evt _ hx
    obtain ⟨b, hb⟩ := kindsOf_evt _ hx
    refine ⟨max a b, fun k hk => ?_⟩
    have hb := hb k (by omega)
    have ha := ha k (by omega)
    dsimp only at hb ha ⊢
    rw [hb, ha]
    exact if_pos hd

variable {R : Type}
theorem execL_sound : ∀ (c : Code) (b : Nat) {K : Vs.X → Env → Store → Option R} {e : Env} {S : Store} {z : R}, execL (ctxL P H base h) b c K e S = some z → ∃ x e' S', K x e' S' = some z ∧ Evt (fun k => exec (ctxK P H base h k) k b c e S) (some (x, e', S')) := by
  intro c
  induction c with
  | skip => intro b K e S z h; exact ⟨_, _, _, h, .const _⟩
  | region id ops draw =>
    intro b K e S z hz
    have fin : ∀ {K' : Env → Store → Option R}, runC (ctxL P H base h) ops ops.toList e S K' = some z → K' = (fun e S => K .normal (trim h.keep e) S) → (runRegion (ctxL P H base h) ops draw e S = runOps (ctxL P H base h) ops ops.toList e S) → ∃ x e' S', K x e' S' = some z ∧ Evt (fun k => exec (ctxK P H base h k) k b (.region id ops draw) e S) (some (x, e', S')) := fun hr hK hreg => by
      subst hK
      obtain ⟨e', S', h1, h2⟩ := runC_sound _ hr
      rw [h1] at hreg
      exact ⟨.normal, _, _, h2, (runRegion_evt hreg).map (Option.map fun (r : Env × Store) => (X.normal, trim h.keep r.1, r.2))⟩
    simp only [execL] at hz
    cases draw with
    | false => simp only [Bool.false_eq_true, if_false] at hz; exact fin hz rfl (by simp [runRegion])
    | true =>
      simp only [if_true] at hz
      split at hz
      · rename_i hd; exact fin hz rfl (by simp only [runRegion, if_true, hd])
      · cases hz
  | seq p q ihp ihq =>
    intro b K e S z hz
    simp only [execL] at hz
    obtain ⟨x, e1, S1, h1, h2⟩ := ihp b hz
    cases x with
    | normal =>
      obtain ⟨x, e2, S2, h3, h4⟩ := ihq b h1
      exact ⟨x, e2, S2, h3, h2.bind (g := fun k (w : X × Env × Store) => match w.1 with | .normal => exec (ctxK P H base h k) k b q w.2.1 w.2.2 | r => some (r, w.2.1, w.2.2)) h4⟩
    | exit i => exact ⟨_, _, _, h1, h2.bind (.const _)⟩
    | ret => exact ⟨_, _, _, h1, h2.bind (.const _)⟩
  | cond o p q ihp ihq =>
    intro b K e S z hz
    simp only [execL] at hz
    unfold condC at hz
    split at hz
    · rename_i t ht
      split at hz
      · rename_i hb
        obtain ⟨x, e1, S1, h1, h2⟩ := ihp b hz
        exact ⟨x, e1, S1, h1, by simpa only [exec, condV, ht, hb, if_true] using h2⟩
      · rename_i hb
        have hb' : t = false := by simpa using hb
        obtain ⟨x, e1, S1, h1, h2⟩ := ihq b hz
        exact ⟨x, e1, S1, h1, by simpa only [exec, condV, ht, hb', Bool.false_eq_true, if_false] using h2⟩
    · cases hz
  | block id body ih =>
    intro b K e S z hz
    simp only [execL] at hz
    obtain ⟨x, e1, S1, h1, h2⟩ := ih id hz
    refine ⟨if x = .exit id then .normal else x, e1, S1, ?_, h2.map (Option.map _)⟩
    cases x with
    | normal => exact h1
    | ret => exact h1
    | exit i =>
      simp only [blockC] at h1
      by_cases hi : i = id
      · subst hi; simpa using h1
      · rw [if_neg hi] at h1; simpa [hi] using h1
  | loop body ih =>
    intro b K e S z hz
    simp only [execL] at hz
    obtain ⟨hh, h1, hz⟩ := bind_some hz
    obtain ⟨r, h2, hz⟩ := bind_some hz
    obtain ⟨n, hn⟩ := lim_some hz
    have hn := hn n (Nat.le_refl _)
    have key : ∀ (n : Nat) {K : Vs.X → Env → Store → Option R} {e : Env} {S : Store}, loopC (fun K e S => execL (ctxL P H base h) b body K e S) (normG hh.live hh.fz r.2.length) K n e S = some z →
        ∃ x e' S', K x e' S' = some z ∧ ∃ k0, ∀ k, k0 ≤ k → ∀ m, k0 ≤ m → loopN (exec (ctxK P H base h k) k b body) (normG hh.live hh.fz r.2.length) m e S = some (x, e', S') := by
      intro n
      induction n with
      | zero => intro K e S h; cases h
      | succ n ihn =>
        intro K e S hz
        simp only [loopC] at hz
        obtain ⟨x, e1, S1, h4, k1, h3⟩ := ih b hz
        cases x with
        | normal =>
          obtain ⟨q, h5, h6⟩ := bind_some h4
          obtain ⟨x, e2, S2, h8, k2, h7⟩ := ihn h6
          refine ⟨x, e2, S2, h8, max k1 (k2 + 1), fun k hk m hm => ?_⟩
          obtain ⟨m, rfl⟩ : ∃ i, m = i + 1 := ⟨m - 1, by omega⟩
          simp only [loopN, h3 k (by omega), Option.bind_some, h5, h7 k (by omega) m (by omega)]
        | exit i => exact ⟨_, _, _, h4, max k1 1, fun k hk m hm => by
            obtain ⟨m, rfl⟩ : ∃ i, m = i + 1 := ⟨m - 1, by omega⟩
            simp only [loopN, h3 k (by omega), Option.bind_some]⟩
        | ret => exact ⟨_, _, _, h4, max k1 1, fun k hk m hm => by
            obtain ⟨m, rfl⟩ : ∃ i, m = i + 1 := ⟨m - 1, by omega⟩
            simp only [loopN, h3 k (by omega), Option.bind_some]⟩
    obtain ⟨x, e1, S1, h4, k0, h3⟩ := key n hn
    have base' : ∀ k, k0 ≤ k → exec (ctxK P H base h k) k b (.loop body) e S = some (afterG b r.2.length hh.after (x, e1, S1)) := fun k hk => by
      have h1' : (ctxK P H base h k).h.loops.lookup b = some hh := h1
      simp only [exec, h1', Option.bind_some, h2, h3 k hk k hk, Option.map_some]
    cases x with
    | normal => exact ⟨_, _, _, h4, k0, base'⟩
    | ret => exact ⟨_, _, _, h4, k0, base'⟩
    | exit i =>
      simp only [afterC] at h4
      by_cases hi : i = b
      · subst hi
        rw [if_pos rfl] at h4
        exact ⟨_, _, _, h4, k0, fun k hk => by simp only [base' k hk, afterG, if_true]⟩
      · rw [if_neg hi] at h4
        exact ⟨_, _, _, h4, k0, fun k hk => by simp only [base' k hk, afterG, Vs.X.exit.injEq, hi, if_false]⟩
  | exit id => intro b K e S z h; exact ⟨_, _, _, h, .const _⟩
  | ret => intro b K e S z h; exact ⟨_, _, _, h, .const _⟩
  | _ => intro b K e S z h; simp [execL] at h
end

/-- The call of a function whose body comes to something. -/
theorem callRL_of {P : Program} {H : Hints} {f : FuncId} {fn : Func} {c : Code} (hf : P.funcs[f]? = some fn) (hb : fn.body = some c) (hn : fn.name ≠ "runtime.NumGoroutine") (hc : codeOK fn.ntmps c = true) {args : List PV} (ha : args.length ≤ fn.ntmps) {S : Store} {r : PV × Store}
    (h : execL (ctxL P H S.length (H.of f)) 0 c (endC P fn) ((List.range args.length).zip args) S = some r) : callRL P H f args S = some r := by
  obtain ⟨x, e', S', h1, h2⟩ := execL_sound c 0 h
  refine lim_of (Evt.succ ?_)
  obtain ⟨k0, h2⟩ := h2
  refine ⟨k0, fun k hk => ?_⟩
  have h2 := h2 k hk
  simp only [ctxK] at h2
  simp only [callF, hf, hb]
  rw [if_pos ⟨ha, hn, hc⟩, h2]
  simp only [Option.bind_some]
  cases x <;> exact h1
theorem callL_of {P : Program} {H : Hints} {f : FuncId} {fn : Func} {c : Code} (hf : P.funcs[f]? = some fn) (hb : fn.body = some c) (hn : fn.name ≠ "runtime.NumGoroutine") (hc : codeOK fn.ntmps c = true) {args : List PV} (ha : args.length ≤ fn.ntmps) {r : PV × Store} {v : PV}
    (h : execL (ctxL P H 0 (H.of f)) 0 c (endC P fn) ((List.range args.length).zip args) [] = some r) (hv : fzPV r.2 r.1 = some v) : callL P H f args = some v := by
  have h' : callRL P H f args [] = some r := callRL_of hf hb hn hc ha h
  simp only [callL, h', Option.bind_some, hv]
end Go.Vs

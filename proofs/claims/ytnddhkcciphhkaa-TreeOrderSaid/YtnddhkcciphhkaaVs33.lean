/- The interpreter with what goes on behind: code and calls. -/
import Derived.Test.YtnddhkcciphhkaaVs32
set_option linter.unusedVariables false
set_option linter.unusedSimpArgs false
namespace Go.Vs
open Go

section
variable {R : Type}
def condC (v : PV) (x y : Option R) : Option R := match v with
  | .bool t => if t = true then x else y
  | _ => none
def loopC (body : (Vs.X → Env → Store → Option R) → Env → Store → Option R) (norm : Env → Store → Option (Env × Store)) (K : Vs.X → Env → Store → Option R) : Nat → Env → Store → Option R
  | 0, _, _ => none
  | n + 1, e, S => body (fun r e S => match r with
    | .normal => (norm e S).bind fun q => loopC body norm K n q.1 q.2
    | .exit i => K (.exit i) e S
    | .ret => K .ret e S) e S
def seqC (K' : Env → Store → Option R) (K : Vs.X → Env → Store → Option R) : Vs.X → Env → Store → Option R
  | .normal, e, S => K' e S
  | .exit i, e, S => K (.exit i) e S
  | .ret, e, S => K .ret e S
def blockC (id : Nat) (K : Vs.X → Env → Store → Option R) : Vs.X → Env → Store → Option R
  | .exit i, e, S => if i = id then K .normal e S else K (.exit i) e S
  | .normal, e, S => K .normal e S
  | .ret, e, S => K .ret e S
def afterC (b n : Nat) (after : List Nat) (K : Vs.X → Env → Store → Option R) : Vs.X → Env → Store → Option R
  | .exit i, e, S => if i = b then K (.exit i) (keepOnly after e) (gc n (keepOnly after e) S) else K (.exit i) e S
  | .normal, e, S => K .normal e S
  | .ret, e, S => K .ret e S
def execC (C : Ctx) (k : Nat) : Nat → Code → (Vs.X → Env → Store → Option R) → Env → Store → Option R
  | _, .skip, K, e, S => K .normal e S
  | _, .region _ ops draw, K, e, S =>
    if draw = true then (if (drawOK ops (kindS C.H ops) || drawOK ops (fun j => (kindsOf C ops ops.toList e S).getD j 0)) = true then runC C ops ops.toList e S (fun e S => K .normal (trim C.h.keep e) S) else none)
    else runC C ops ops.toList e S (fun e S => K .normal (trim C.h.keep e) S)
  | b, .seq x y, K, e, S => execC C k b x (seqC (fun e S => execC C k b y K e S) K) e S
  | b, .cond c x y, K, e, S => condC (ev e c) (execC C k b x K e S) (execC C k b y K e S)
  | _, .block id body, K, e, S => execC C k id body (blockC id K) e S
  | b, .loop body, K, e, S =>
    (C.h.loops.lookup b).bind fun h =>
    (fzSlots h.fz (ownAll h.own (keepOnly h.live e) S).1 (ownAll h.own (keepOnly h.live e) S).2).bind fun r =>
    loopC (fun K e S => execC C k b body K e S) (normG h.live h.fz r.2.length) (afterC b r.2.length h.after K) k r.1 r.2
  | _, .exit id, K, e, S => K (.exit id) e S
  | _, .ret, K, e, S => K .ret e S
  | _, _, _, _, _ => none

theorem execC_sound {C : Ctx} {k : Nat} : ∀ (c : Code) (b : Nat) {K : Vs.X → Env → Store → Option R} {e : Env} {S : Store} {z : R}, execC C k b c K e S = some z → ∃ x e' S', exec C k b c e S = some (x, e', S') ∧ K x e' S' = some z := by
  intro c
  induction c with
  | skip => intro b K e S z h; exact ⟨_, _, _, rfl, h⟩
  | region id ops draw =>
    intro b K e S z h
    have fin : ∀ {K' : Env → Store → Option R}, runC C ops ops.toList e S K' = some z → K' = (fun e S => K .normal (trim C.h.keep e) S) → (runRegion C ops draw e S = runOps C ops ops.toList e S) → ∃ x e' S', exec C k b (.region id ops draw) e S = some (x, e', S') ∧ K x e' S' = some z := fun hr hK hreg => by
      subst hK
      obtain ⟨e', S', h1, h2⟩ := runC_sound _ hr
      exact ⟨.normal, _, _, by simp only [exec, hreg, h1, Option.map_some], h2⟩
    simp only [execC] at h
    cases draw with
    | false => simp only [Bool.false_eq_true, if_false] at h; exact fin h rfl (by simp [runRegion])
    | true =>
      simp only [if_true] at h
      split at h
      · rename_i hd; exact fin h rfl (by simp only [runRegion, if_true, hd])
      · cases h
  | seq p q ihp ihq =>
    intro b K e S z h
    simp only [execC] at h
    obtain ⟨x, e1, S1, h1, h2⟩ := ihp b h
    cases x with
    | normal =>
      obtain ⟨x, e2, S2, h3, h4⟩ := ihq b h2
      exact ⟨x, e2, S2, by simp only [exec, h1, Option.bind_some, h3], h4⟩
    | exit i => exact ⟨_, _, _, by simp only [exec, h1, Option.bind_some], h2⟩
    | ret => exact ⟨_, _, _, by simp only [exec, h1, Option.bind_some], h2⟩
  | cond o p q ihp ihq =>
    intro b K e S z h
    simp only [execC] at h
    unfold condC at h
    split at h
    · rename_i t ht
      split at h
      · rename_i hb
        obtain ⟨x, e1, S1, h1, h2⟩ := ihp b h
        exact ⟨x, e1, S1, by simp only [exec, condV, ht, hb, if_true, h1], h2⟩
      · rename_i hb
        have hb' : t = false := by simpa using hb
        obtain ⟨x, e1, S1, h1, h2⟩ := ihq b h
        exact ⟨x, e1, S1, by simp only [exec, condV, ht, hb', Bool.false_eq_true, if_false, h1], h2⟩
    · cases h
  | block id body ih =>
    intro b K e S z h
    simp only [execC] at h
    obtain ⟨x, e1, S1, h1, h2⟩ := ih id h
    refine ⟨if x = .exit id then .normal else x, e1, S1, by simp only [exec, h1, Option.map_some], ?_⟩
    cases x with
    | normal => exact h2
    | ret => exact h2
    | exit i =>
      simp only [blockC] at h2
      by_cases hi : i = id
      · subst hi; simpa using h2
      · rw [if_neg hi] at h2; simpa [hi] using h2
  | loop body ih =>
    intro b K e S z h
    simp only [execC] at h
    obtain ⟨hh, h1, h⟩ := bind_some h
    obtain ⟨r, h2, h⟩ := bind_some h
    have key : ∀ (n : Nat) {K : Vs.X → Env → Store → Option R} {e : Env} {S : Store}, loopC (fun K e S => execC C k b body K e S) (normG hh.live hh.fz r.2.length) K n e S = some z →
        ∃ x e' S', loopN (exec C k b body) (normG hh.live hh.fz r.2.length) n e S = some (x, e', S') ∧ K x e' S' = some z := by
      intro n
      induction n with
      | zero => intro K e S h; cases h
      | succ n ihn =>
        intro K e S h
        simp only [loopC] at h
        obtain ⟨x, e1, S1, h3, h4⟩ := ih b h
        cases x with
        | normal =>
          obtain ⟨q, h5, h6⟩ := bind_some h4
          obtain ⟨x, e2, S2, h7, h8⟩ := ihn h6
          exact ⟨x, e2, S2, by simp only [loopN, h3, Option.bind_some, h5, h7], h8⟩
        | exit i => exact ⟨_, _, _, by simp only [loopN, h3, Option.bind_some], h4⟩
        | ret => exact ⟨_, _, _, by simp only [loopN, h3, Option.bind_some], h4⟩
    obtain ⟨x, e1, S1, h3, h4⟩ := key k h
    cases x with
    | normal => exact ⟨_, _, _, by simp only [exec, h1, Option.bind_some, h2, h3, Option.map_some]; rfl, h4⟩
    | ret => exact ⟨_, _, _, by simp only [exec, h1, Option.bind_some, h2, h3, Option.map_some]; rfl, h4⟩
    | exit i =>
      simp only [afterC] at h4
      by_cases hi : i = b
      · subst hi
        rw [if_pos rfl] at h4
        exact ⟨_, _, _, by simp only [exec, h1, Option.bind_some, h2, h3, Option.map_some, afterG, if_true], h4⟩
      · rw [if_neg hi] at h4
        refine ⟨_, _, _, by simp only [exec, h1, Option.bind_some, h2, h3, Option.map_some, afterG, Vs.X.exit.injEq, hi, if_false], h4⟩
  | exit id => intro b K e S z h; exact ⟨_, _, _, rfl, h⟩
  | ret => intro b K e S z h; exact ⟨_, _, _, rfl, h⟩
  | _ => intro b K e S z h; simp [execC] at h
end

/-- What stands behind a function's body. -/
def endC (P : Program) (fn : Func) (x : Vs.X) (e : Env) (S : Store) : Option (PV × Store) := match x with
  | .exit _ => none
  | .normal => (evResults P fn e S).map fun v => (v, S)
  | .ret => (evResults P fn e S).map fun v => (v, S)
theorem callF_of {P : Program} {H : Hints} {k : Nat} {f : FuncId} {fn : Func} {c : Code} (hf : P.funcs[f]? = some fn) (hb : fn.body = some c) (hn : fn.name ≠ "runtime.NumGoroutine") (hc : codeOK fn.ntmps c = true) {args : List PV} (ha : args.length ≤ fn.ntmps) {S : Store} {r : PV × Store}
    (h : execC { P, H, cp := fun g as => (callF P H k g as []).bind fun (r, S) => fzPV S r, cr := callF P H k, base := S.length, h := H.of f } k 0 c (endC P fn) ((List.range args.length).zip args) S = some r) : callF P H (k + 1) f args S = some r := by
  obtain ⟨x, e', S', h1, h2⟩ := execC_sound c 0 h
  simp only [callF, hf, hb]
  rw [if_pos ⟨ha, hn, hc⟩, h1]
  simp only [Option.bind_some]
  cases x <;> exact h2
end Go.Vs

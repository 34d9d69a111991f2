
import Derived.Test.YtkaeejkajfinhaaGreatMI9
section
set_option linter.unusedVariables false
set_option linter.unusedSimpArgs false
namespace Go.Vs
open Go
section
variable {P : Program} {H : Hints} {base : Nat} {h : Hint} {k k' : Nat}
def MonoF (P : Program) (H : Hints) (k k' : Nat) : Prop := ∀ f args S z, callF P H k f args S = some z → callF P H k' f args S = some z
theorem MonoF.cp (m : MonoF P H k k') {f : FuncId} {args : List PV} {v : PV} (h : callP P H k f args = some v) : callP P H k' f args = some v := by
  obtain ⟨r, h1, h2⟩ := bind_some h
  simp only [callP, m _ _ _ _ h1, Option.bind_some]
  exact h2
theorem ev1_mono (m : MonoF P H k k') {o : Oper} {e : Env} {S : Store} {nid : Nat} {x : Out} (hx : ev1 P (ctxK P H base h k).cp o e S nid = some x) : ev1 P (ctxK P H base h k').cp o e S nid = some x := by
  obtain ⟨dst, op, type, pos, after, guard⟩ := o
  cases op
  case call c =>
    cases hc : c.callee with
    | value f =>
      simp only [ev1, hc] at hx ⊢
      split at hx
      · split at hx
        · rename_i hr
          simp only [hr, if_true]
          obtain ⟨as, h1, h2⟩ := bind_some hx
          obtain ⟨v, h3, rfl⟩ := map_some h2
          simp only [h1, Option.bind_some]
          have h3' : (ctxK P H base h k').cp _ as = some v := m.cp h3
          rw [h3']
          rfl
        · cases hx
      · cases hx
    | builtin b => simp only [ev1, hc] at hx ⊢; cases b <;> exact hx
    | invoke r m => simp only [ev1, hc] at hx; cases hx
  case makeFunc fn first caps => cases fn <;> exact hx
  all_goals exact hx
theorem ev2_mono (m : MonoF P H k k') {o : Oper} {e : Env} {S : Store} {x : Eff} (hx : ev2 (ctxK P H base h k) o e S = some x) : ev2 (ctxK P H base h k') o e S = some x := by
  obtain ⟨dst, op, type, pos, after, guard⟩ := o
  cases op
  case call c =>
    cases hc : c.callee with
    | value f =>
      cases hf : ev e f <;> simp only [ev2, hc, hf, reduceCtorEq] at hx ⊢
      case fn f first caps =>
        by_cases hr : H.refs f = true
        · have hK : ∀ k, (ctxK P H base h k).H.refs f = true := fun _ => hr
          simp only [hK, if_true] at hx ⊢
          obtain ⟨r, h1, h2⟩ := bind_some hx
          have h1' : (ctxK P H base h k').cr f (first ++ List.map (ev e) c.args.toList ++ caps) S = some r := m _ _ _ _ h1
          rw [h1']
          exact h2
        · have hK : ∀ k, ¬ (ctxK P H base h k).H.refs f = true := fun _ => hr
          simp only [hK, if_false, Bool.false_eq_true] at hx ⊢
          obtain ⟨as, h1, h2⟩ := bind_some hx
          obtain ⟨v, h3, rfl⟩ := map_some h2
          simp only [h1, Option.bind_some]
          have h3' : (ctxK P H base h k').cp _ as = some v := m.cp h3
          rw [h3']
          rfl
    | builtin b => simp only [ev2, hc] at hx ⊢; cases b <;> exact hx
    | invoke r m => simp only [ev2, hc] at hx; cases hx
  all_goals exact hx
theorem stepOp_mono (m : MonoF P H k k') {ops : Array Oper} {o : Oper} {e : Env} {S : Store} {x : Env × Store} (hx : stepOp (ctxK P H base h k) ops o e S = some x) : stepOp (ctxK P H base h k') ops o e S = some x := by
  unfold stepOp at hx ⊢
  obtain ⟨w, h1, h2⟩ := bind_some hx
  simp only [h1, Option.bind_some]
  cases w with
  | false => exact h2
  | true =>
    simp only [if_true] at h2 ⊢
    by_cases hf : isEff H o e = true
    · have hK : ∀ k, isEff (ctxK P H base h k).H o e = true := fun _ => hf
      simp only [hK, if_true] at h2 ⊢
      obtain ⟨r, h3, rfl⟩ := map_some h2
      rw [ev2_mono m h3]
      rfl
    · have hK : ∀ k, ¬ isEff (ctxK P H base h k).H o e = true := fun _ => hf
      simp only [hK, if_false, Bool.false_eq_true] at h2 ⊢
      obtain ⟨r, h3, rfl⟩ := map_some h2
      have h3' : ev1 (ctxK P H base h k').P (ctxK P H base h k').cp o e S S.length = some r := ev1_mono m h3
      rw [h3']
      rfl
theorem runOps_mono (m : MonoF P H k k') {ops : Array Oper} : ∀ (l : List Oper) {e : Env} {S : Store} {x : Env × Store}, runOps (ctxK P H base h k) ops l e S = some x → runOps (ctxK P H base h k') ops l e S = some x
  | [], e, S, x, hx => hx
  | o :: r, e, S, x, hx => by
    simp only [runOps] at hx ⊢
    obtain ⟨q, h1, h2⟩ := bind_some hx
    rw [stepOp_mono m h1]
    exact runOps_mono m r h2
theorem kindsOf_mono (m : MonoF P H k k') {ops : Array Oper} : ∀ (l : List Oper) {e : Env} {S : Store} {x : Env × Store}, runOps (ctxK P H base h k) ops l e S = some x → kindsOf (ctxK P H base h k') ops l e S = kindsOf (ctxK P H base h k) ops l e S
  | [], e, S, x, hx => rfl
  | o :: r, e, S, x, hx => by
    simp only [runOps] at hx
    obtain ⟨q, h1, h2⟩ := bind_some hx
    simp only [kindsOf, h1, stepOp_mono m h1, kindsOf_mono m r h2]
    rfl
theorem runRegion_mono (m : MonoF P H k k') {ops : Array Oper} {draw : Bool} {e : Env} {S : Store} {x : Env × Store} (hx : runRegion (ctxK P H base h k) ops draw e S = some x) : runRegion (ctxK P H base h k') ops draw e S = some x := by
  unfold runRegion at hx ⊢
  cases draw with
  | false => simp only [Bool.false_eq_true, if_false] at hx ⊢; exact runOps_mono m _ hx
  | true =>
    simp only [if_true] at hx ⊢
    split at hx
    case isFalse => cases hx
    rename_i hd
    rw [kindsOf_mono m _ hx, runOps_mono m _ hx]
    exact if_pos hd
theorem exec_mono (m : MonoF P H k k') (hk : k ≤ k') : ∀ (c : Code) (b : Nat) {e : Env} {S : Store} {x : X × Env × Store}, exec (ctxK P H base h k) k b c e S = some x → exec (ctxK P H base h k') k' b c e S = some x := by
  intro c
  induction c with
  | skip => intro b e S x hx; exact hx
  | region id ops draw =>
    intro b e S x hx
    simp only [exec] at hx ⊢
    obtain ⟨r, h1, rfl⟩ := map_some hx
    rw [runRegion_mono m h1]
    rfl
  | seq p q ihp ihq =>
    intro b e S x hx
    simp only [exec] at hx ⊢
    obtain ⟨⟨r, e1, S1⟩, h1, h2⟩ := bind_some hx
    rw [ihp b h1]
    cases r with
    | normal => exact ihq b h2
    | exit i => exact h2
    | ret => exact h2
  | cond o p q ihp ihq =>
    intro b e S x hx
    simp only [exec] at hx ⊢
    unfold condV at hx ⊢
    split at hx
    · rename_i t ht
      cases t with
      | true => exact ihp b hx
      | false => exact ihq b hx
    · cases hx
  | block id body ih =>
    intro b e S x hx
    simp only [exec] at hx ⊢
    obtain ⟨r, h1, rfl⟩ := map_some hx
    rw [ih id h1]
    rfl
  | loop body ih =>
    intro b e S x hx
    simp only [exec] at hx ⊢
    obtain ⟨hh, h1, hx⟩ := bind_some hx
    obtain ⟨r, h2, hx⟩ := bind_some hx
    obtain ⟨y, h3, rfl⟩ := map_some hx
    have h1' : (ctxK P H base h k').h.loops.lookup b = some hh := h1
    simp only [h1', Option.bind_some, h2]
    have key : ∀ (n n' : Nat), n ≤ n' → ∀ {e : Env} {S : Store} {y : X × Env × Store}, loopN (exec (ctxK P H base h k) k b body) (normG hh.live hh.fz r.2.length) n e S = some y → loopN (exec (ctxK P H base h k') k' b body) (normG hh.live hh.fz r.2.length) n' e S = some y := by
      intro n
      induction n with
      | zero => intro n' hn e S y hy; cases hy
      | succ n ihn =>
        intro n' hn e S y hy
        obtain ⟨n', rfl⟩ : ∃ i, n' = i + 1 := ⟨n' - 1, by omega⟩
        simp only [loopN] at hy ⊢
        obtain ⟨⟨q, e1, S1⟩, h4, h5⟩ := bind_some hy
        rw [ih b h4]
        cases q with
        | normal =>
          obtain ⟨w, h6, h7⟩ := bind_some h5
          simp only [Option.bind_some, h6]
          exact ihn n' (by omega) h7
        | exit i => exact h5
        | ret => exact h5
    rw [key k k' hk h3]
    rfl
  | exit id => intro b e S x hx; exact hx
  | ret => intro b e S x hx; exact hx
  | _ => intro b e S x hx; simp [exec] at hx
theorem callF_mono : ∀ (k k' : Nat), k ≤ k' → MonoF P H k k'
  | 0, _, _ => fun f args S z h => by cases h
  | k + 1, k', hk => fun f args S z hz => by
    obtain ⟨k', rfl⟩ : ∃ i, k' = i + 1 := ⟨k' - 1, by omega⟩
    have m := callF_mono k k' (by omega)
    simp only [callF] at hz ⊢
    cases ho : H.orc f with
    | some g => rw [ho] at hz; exact hz
    | none =>
    rw [ho] at hz
    simp only at hz ⊢
    split at hz
    · rename_i fn hf
      try rw [hf]
      try dsimp only
      split at hz
      · rename_i c hc
        try rw [hc]
        try dsimp only
        split at hz
        · rename_i hq
          rw [if_pos hq]
          obtain ⟨x, h1, h2⟩ := bind_some hz
          have h1' : exec (ctxK P H S.length (H.of f) k') k' 0 c ((List.range args.length).zip args) S = some x := exec_mono m (by omega) c 0 h1
          simp only [ctxK] at h1'
          rw [h1']
          exact h2
        · cases hz
      · cases hz
    · cases hz
theorem callL_run {n : Nat} {f : FuncId} {args : List PV} {v : PV} (hc : callP P H n f args = some v) : callL P H f args = some v := by
  obtain ⟨r, h1, h2⟩ := bind_some hc
  have h3 : callRL P H f args [] = some r := lim_of ⟨n, fun k hk => callF_mono n k hk _ _ _ _ h1⟩
  simp only [callL, h3, Option.bind_some, h2]
end
end Go.Vs
end
section
set_option linter.unusedVariables false
namespace Go.Vs
open Go
theorem nr {α : Sort _} {a b : α} (h : a = b) : a = b := h
section
variable {R : Type} {C : Ctx} {b : Nat} {c : Code} {K : Vs.X → Env → Store → Option R} {e : Env} {S : Store}
def at1 : Code → Code | .seq _ b => b | c => c
end
end Go.Vs
end

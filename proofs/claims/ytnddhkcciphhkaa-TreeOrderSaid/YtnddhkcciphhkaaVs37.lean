/- Rules by which printed proofs put pieces of code together. -/
import Derived.Test.YtnddhkcciphhkaaVs36
set_option linter.unusedVariables false
namespace Go.Vs
open Go
/-- So that simp keeps the step's proof (a proof by `rfl` it drops, and the kernel has to find it again). -/
theorem nr {α : Sort _} {a b : α} (h : a = b) : a = b := h
section
variable {R : Type} {C : Ctx} {b : Nat} {c : Code} {K : Vs.X → Env → Store → Option R} {e : Env} {S : Store}
theorem seqC_n (F : Env → Store → Option R) (K : Vs.X → Env → Store → Option R) (e : Env) (S : Store) : seqC F K .normal e S = F e S := rfl
theorem seqC_r (F : Env → Store → Option R) (K : Vs.X → Env → Store → Option R) (e : Env) (S : Store) : seqC F K .ret e S = K .ret e S := rfl
theorem seqC_x (F : Env → Store → Option R) (K : Vs.X → Env → Store → Option R) (i : Nat) (e : Env) (S : Store) : seqC F K (.exit i) e S = K (.exit i) e S := rfl
theorem blockC_n (i : Nat) (K : Vs.X → Env → Store → Option R) (e : Env) (S : Store) : blockC i K .normal e S = K .normal e S := rfl
theorem blockC_r (i : Nat) (K : Vs.X → Env → Store → Option R) (e : Env) (S : Store) : blockC i K .ret e S = K .ret e S := rfl
theorem blockC_x (i : Nat) (K : Vs.X → Env → Store → Option R) (j : Nat) (e : Env) (S : Store) : blockC i K (.exit j) e S = if j = i then K .normal e S else K (.exit j) e S := rfl
theorem stepC_r (norm : Env → Store → Option (Env × Store)) (K : Vs.X → Env → Store → Option R) (again : Env → Store → Option R) (e : Env) (S : Store) : stepC norm K again .ret e S = K .ret e S := rfl
theorem stepC_x (norm : Env → Store → Option (Env × Store)) (K : Vs.X → Env → Store → Option R) (again : Env → Store → Option R) (i : Nat) (e : Env) (S : Store) : stepC norm K again (.exit i) e S = K (.exit i) e S := rfl
theorem afterC_r (b n : Nat) (after : List Nat) (K : Vs.X → Env → Store → Option R) (e : Env) (S : Store) : afterC b n after K .ret e S = K .ret e S := rfl
theorem afterC_x (b n : Nat) (after : List Nat) (K : Vs.X → Env → Store → Option R) (i : Nat) (e : Env) (S : Store) : afterC b n after K (.exit i) e S = if i = b then K (.exit i) (keepOnly after e) (gc n (keepOnly after e) S) else K (.exit i) e S := rfl
theorem execL_seq {x y : Code} (h : c = .seq x y) : execL C b c K e S = execL C b x (seqC (fun e S => execL C b y K e S) K) e S := by subst h; rfl
theorem execL_skip (h : c = .skip) : execL C b c K e S = K .normal e S := by subst h; rfl
theorem execL_exit {i : Nat} (h : c = .exit i) : execL C b c K e S = K (.exit i) e S := by subst h; rfl
theorem execL_ret (h : c = .ret) : execL C b c K e S = K .ret e S := by subst h; rfl
theorem execL_block {i : Nat} {x : Code} (h : c = .block i x) : execL C b c K e S = execL C i x (blockC i K) e S := by subst h; rfl
theorem execL_cond {o : Operand} {x y : Code} (h : c = .cond o x y) {p q : Option R} (hp : execL C b x K e S = p) (hq : execL C b y K e S = q) {v : PV} (hv : ev e o = v) : execL C b c K e S = condC v p q := by subst h; subst hp; subst hq; subst hv; rfl
theorem link_seq {x y : Code} (h : c = .seq x y) {k : Vs.X → Env → Store → Option R} (l : seqC (fun e S => execL C b y K e S) K = k) : seqC (fun e S => execL C b c K e S) K = seqC (fun e S => execL C b x k e S) K := by
  subst h; subst l; rfl
theorem enter_seq {x y : Code} (h : c = .seq x y) {k : Vs.X → Env → Store → Option R} (l : seqC (fun e S => execL C b y K e S) K = k) : execL C b c K e S = execL C b x k e S := by
  subst h; subst l; rfl
end
end Go.Vs

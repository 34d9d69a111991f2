
import Derived.Test.YtkaeejkajfinhaaGreatMI19
import Derived.Test.YtkaeejkajfinhaaGreatMI23
section
set_option linter.unusedVariables false
set_option linter.unusedSimpArgs false
set_option maxRecDepth 100000
namespace Go.Vs
open Go Go.Proofs
mutual
def Node.has (p : Int → Bool) : Node → Bool
  | .mk o _ _ _ _ f => p o || Node.hass p f
def Node.hass (p : Int → Bool) : List Node → Bool
  | [] => false
  | n :: r => n.has p || Node.hass p r
end
theorem Node.has_eq (p : Int → Bool) (n : Node) : n.has p = (p n.op || Node.hass p n.kids) := by cases n; rfl
theorem Node.hass_any (p : Int → Bool) : ∀ l : List Node, Node.hass p l = l.any (Node.has p)
  | [] => rfl
  | n :: r => by rw [Node.hass, Node.hass_any p r, List.any_cons]
def isSym (o : Int) : Bool := decide (o = 10) || decide (o = 11) || decide (o = 37) || decide (o = 38) || decide (o = 61) || decide (o = 62) || decide (o = 56)
def isModal (o : Int) : Bool := decide (o = 33) || decide (o = 34) || decide (o = 35) || decide (o = 36) || decide (o = 39)
def isOp (q o : Int) : Bool := decide (o = q)
def inOps (ops : List Int) (o : Int) : Bool := ops.any fun q => decide (o = q)
def dotN : Node := .mk 13 ⟨#[]⟩ false [] [] []
def Node.sym (n : Node) : Node := if isSym n.op = true then .mk n.op n.name false [] [] (if (n.op = 10 ∨ n.op = 37) ∧ n.kids.length ≠ 0 then [dotN] else []) else nd0
section
attribute [local irreducible] Vs.callL Vs.callRL tyi callO callM callMV appendE storeE evLoad indexAddrO sliceO evFieldAddr evField buildO buildSliceO makeSliceO allocO boxed lenO copyE convertO indexO Vs.gc freezeAll
noncomputable def fx84_ : FX := ⟨Tryz.f84, hints.of 84, []⟩
theorem ok84_ : fx84_.ok 84 := ⟨by kernel_rfl, of_decide_eq_true (by kernel_rfl), by kernel_rfl, by kernel_rfl, by kernel_rfl, by kernel_rfl⟩
theorem sem84_ (b0 : Nat) (m : Md) (fs : List Fr) (e : Env) (S : Store) : sem b0 fx84_ m fs e S = run b0 fx84_ 1000 m fs e S := (sem_eq _ _ _ _ _ _).trans (run_sem b0 fx84_ ok84_.good 1000 m fs e S).symm
theorem call_Symbol (n : Node) : callL Tryz.prog hints 84 [.agg n.cells] = some (.bool (isSym n.op)) := by
  unfold isSym
  by_cases e10 : n.op = 10
  · have e : (decide (n.op = 10) || decide (n.op = 11) || decide (n.op = 37) || decide (n.op = 38) || decide (n.op = 61) || decide (n.op = 62) || decide (n.op = 56)) = true := by rw [e10]; rfl
    rw [e]
    apply FX.callB2 ok84_ 1000 rfl rfl
    ((repeat ((conv => lhs; whnf); simp only [go_sem, simprocAttr, sem84_, e10])); try (conv => lhs; whnf); try rfl)
  by_cases e11 : n.op = 11
  · have e : (decide (n.op = 10) || decide (n.op = 11) || decide (n.op = 37) || decide (n.op = 38) || decide (n.op = 61) || decide (n.op = 62) || decide (n.op = 56)) = true := by rw [e11]; rfl
    rw [e]
    apply FX.callB2 ok84_ 1000 rfl rfl
    ((repeat ((conv => lhs; whnf); simp only [go_sem, simprocAttr, sem84_, e11])); try (conv => lhs; whnf); try rfl)
  by_cases e37 : n.op = 37
  · have e : (decide (n.op = 10) || decide (n.op = 11) || decide (n.op = 37) || decide (n.op = 38) || decide (n.op = 61) || decide (n.op = 62) || decide (n.op = 56)) = true := by rw [e37]; rfl
    rw [e]
    apply FX.callB2 ok84_ 1000 rfl rfl
    ((repeat ((conv => lhs; whnf); simp only [go_sem, simprocAttr, sem84_, e37])); try (conv => lhs; whnf); try rfl)
  by_cases e38 : n.op = 38
  · have e : (decide (n.op = 10) || decide (n.op = 11) || decide (n.op = 37) || decide (n.op = 38) || decide (n.op = 61) || decide (n.op = 62) || decide (n.op = 56)) = true := by rw [e38]; rfl
    rw [e]
    apply FX.callB2 ok84_ 1000 rfl rfl
    ((repeat ((conv => lhs; whnf); simp only [go_sem, simprocAttr, sem84_, e38])); try (conv => lhs; whnf); try rfl)
  by_cases e61 : n.op = 61
  · have e : (decide (n.op = 10) || decide (n.op = 11) || decide (n.op = 37) || decide (n.op = 38) || decide (n.op = 61) || decide (n.op = 62) || decide (n.op = 56)) = true := by rw [e61]; rfl
    rw [e]
    apply FX.callB2 ok84_ 1000 rfl rfl
    ((repeat ((conv => lhs; whnf); simp only [go_sem, simprocAttr, sem84_, e61])); try (conv => lhs; whnf); try rfl)
  by_cases e62 : n.op = 62
  · have e : (decide (n.op = 10) || decide (n.op = 11) || decide (n.op = 37) || decide (n.op = 38) || decide (n.op = 61) || decide (n.op = 62) || decide (n.op = 56)) = true := by rw [e62]; rfl
    rw [e]
    apply FX.callB2 ok84_ 1000 rfl rfl
    ((repeat ((conv => lhs; whnf); simp only [go_sem, simprocAttr, sem84_, e62])); try (conv => lhs; whnf); try rfl)
  by_cases e56 : n.op = 56
  · have e : (decide (n.op = 10) || decide (n.op = 11) || decide (n.op = 37) || decide (n.op = 38) || decide (n.op = 61) || decide (n.op = 62) || decide (n.op = 56)) = true := by rw [e56]; rfl
    rw [e]
    apply FX.callB2 ok84_ 1000 rfl rfl
    ((repeat ((conv => lhs; whnf); simp only [go_sem, simprocAttr, sem84_, e56])); try (conv => lhs; whnf); try rfl)
  simp only [e10, e11, e37, e38, e61, e62, e56, decide_false, Bool.or_self]
  apply FX.callB2 ok84_ 1000 rfl rfl
  ((repeat ((conv => lhs; whnf); simp only [go_sem, simprocAttr, sem84_, e10, e11, e37, e38, e61, e62, e56])); try (conv => lhs; whnf); try rfl)
theorem Symbol_o (S : Store) (n : Node) : callO (callL Tryz.prog hints) S 84 [.agg n.cells] = some { v := .bool (isSym n.op) } := callN S (call_Symbol n)
noncomputable def fx46_ : FX := ⟨Tryz.f46, hints.of 46, []⟩
theorem ok46_ : fx46_.ok 46 := ⟨by kernel_rfl, of_decide_eq_true (by kernel_rfl), by kernel_rfl, by kernel_rfl, by kernel_rfl, by kernel_rfl⟩
theorem sem46_ (b0 : Nat) (m : Md) (fs : List Fr) (e : Env) (S : Store) : sem b0 fx46_ m fs e S = run b0 fx46_ 1000 m fs e S := (sem_eq _ _ _ _ _ _).trans (run_sem b0 fx46_ ok46_.good 1000 m fs e S).symm
theorem loop_symbols (n : Node) (hn : n.ok) (ih : ∀ k ∈ n.kids, callL Tryz.prog hints 46 [.agg k.cells] = some (.bool (k.has isSym))) : ∀ (m i : Nat), i + m = n.kids.length →
    ∃ S', loopAt 0 fx46_ 0 116 1 [.blk 0, .seq 0 15] [(1, .mp 0 0 0), (3, .int .i64 i)] [.arr [n.cells] none false] = some (.bool (Node.hass isSym (n.kids.drop i)), S') := by
  intro m
  induction m with
  | zero =>
    intro i hi
    have h1 : ¬ (i : Int) < (n.kids.length : Int) := by omega
    rw [List.drop_of_length_le (by omega)]
    apply Exists.intro
    refine loopAt_step ok46_.good 1000 ?_
    ((repeat ((conv => lhs; whnf); simp only [go_sem, simprocAttr, sem46_, h1])); try (conv => lhs; whnf); try rfl)
    refine exit_run ok46_.good 1000 ?_
    unfold Node.hass
    ((repeat ((conv => lhs; whnf); simp only [go_sem, simprocAttr, sem46_])); try (conv => lhs; whnf); try rfl)
  | succ m hm =>
    intro i hi
    have h1 : (i : Int) < (n.kids.length : Int) := by omega
    have h2 := wrap_succ (i := i) (n := n.kids.length) (by omega) hn.len
    have h4 : 0 ≤ (i : Int) ∧ (i : Int) < (n.kids.length : Int) := ⟨by omega, h1⟩
    have h5 := fun S => callN S (ih _ (kids_mem (l := n.kids) (i := i) (by omega)))
    obtain ⟨S', key⟩ := hm (i + 1) (by omega)
    have h7 : Node.hass isSym (n.kids.drop i) = ((n.kids.getD i nd0).has isSym || Node.hass isSym (n.kids.drop (i + 1))) := by rw [kids_drop (l := n.kids) (i := i) (by omega)]; rfl
    rw [h7]
    cases hd : (n.kids.getD i nd0).has isSym
    case true =>
      rw [hd] at h5
      rw [Bool.true_or]
      apply Exists.intro
      refine loopAt_step ok46_.good 1000 ?_
      ((repeat ((conv => lhs; whnf); simp only [go_sem, simprocAttr, sem46_, h1, h2, h4, h5])); try (conv => lhs; whnf); try rfl)
    case false =>
      rw [hd] at h5
      rw [Bool.false_or]
      refine ⟨S', ?_⟩
      refine loopAt_step ok46_.good 1000 ?_
      ((repeat ((conv => lhs; whnf); simp only [go_sem, simprocAttr, sem46_, h1, h2, h4, h5])); try (conv => lhs; whnf); try rfl)
      exact key
theorem call_symbols : ∀ n : Node, n.ok → callL Tryz.prog hints 46 [.agg n.cells] = some (.bool (n.has isSym)) := by
  refine Node.ind' fun n ih hn => ?_
  obtain ⟨S', h⟩ := loop_symbols n hn (fun k hk' => ih k hk' (hn.kids k hk')) n.kids.length 0 (by omega)
  rw [List.drop_zero] at h
  rw [Node.has_eq]
  cases e : isSym n.op
  · rw [Bool.false_or]
    apply FX.callB2 ok46_ 1000 rfl rfl
    ((repeat ((conv => lhs; whnf); simp only [go_sem, simprocAttr, sem46_, Symbol_o, e])); try (conv => lhs; whnf); try rfl)
    exact h
  · rw [Bool.true_or]
    apply FX.callB2 ok46_ 1000 rfl rfl
    ((repeat ((conv => lhs; whnf); simp only [go_sem, simprocAttr, sem46_, Symbol_o, e])); try (conv => lhs; whnf); try rfl)
theorem symbols_o (S : Store) (n : Node) (h : n.ok) : callO (callL Tryz.prog hints) S 46 [.agg n.cells] = some { v := .bool (n.has isSym) } := callN S (call_symbols n h)
noncomputable def fx45_ : FX := ⟨Tryz.f45, hints.of 45, []⟩
theorem ok45_ : fx45_.ok 45 := ⟨by kernel_rfl, of_decide_eq_true (by kernel_rfl), by kernel_rfl, by kernel_rfl, by kernel_rfl, by kernel_rfl⟩
theorem sem45_ (b0 : Nat) (m : Md) (fs : List Fr) (e : Env) (S : Store) : sem b0 fx45_ m fs e S = run b0 fx45_ 1000 m fs e S := (sem_eq _ _ _ _ _ _).trans (run_sem b0 fx45_ ok45_.good 1000 m fs e S).symm
theorem loop_Modal (n : Node) (hn : n.ok) (ih : ∀ k ∈ n.kids, callL Tryz.prog hints 45 [.agg k.cells] = some (.bool (k.has isModal))) : ∀ (m i : Nat), i + m = n.kids.length →
    ∃ S', loopAt 0 fx45_ 0 116 1 [.blk 0, .seq 0 15] [(1, .mp 0 0 0), (3, .int .i64 i)] [.arr [n.cells] none false] = some (.bool (Node.hass isModal (n.kids.drop i)), S') := by
  intro m
  induction m with
  | zero =>
    intro i hi
    have h1 : ¬ (i : Int) < (n.kids.length : Int) := by omega
    rw [List.drop_of_length_le (by omega)]
    apply Exists.intro
    refine loopAt_step ok45_.good 1000 ?_
    ((repeat ((conv => lhs; whnf); simp only [go_sem, simprocAttr, sem45_, h1])); try (conv => lhs; whnf); try rfl)
    refine exit_run ok45_.good 1000 ?_
    unfold Node.hass
    ((repeat ((conv => lhs; whnf); simp only [go_sem, simprocAttr, sem45_])); try (conv => lhs; whnf); try rfl)
  | succ m hm =>
    intro i hi
    have h1 : (i : Int) < (n.kids.length : Int) := by omega
    have h2 := wrap_succ (i := i) (n := n.kids.length) (by omega) hn.len
    have h4 : 0 ≤ (i : Int) ∧ (i : Int) < (n.kids.length : Int) := ⟨by omega, h1⟩
    have h5 := fun S => callN S (ih _ (kids_mem (l := n.kids) (i := i) (by omega)))
    obtain ⟨S', key⟩ := hm (i + 1) (by omega)
    have h7 : Node.hass isModal (n.kids.drop i) = ((n.kids.getD i nd0).has isModal || Node.hass isModal (n.kids.drop (i + 1))) := by rw [kids_drop (l := n.kids) (i := i) (by omega)]; rfl
    rw [h7]
    cases hd : (n.kids.getD i nd0).has isModal
    case true =>
      rw [hd] at h5
      rw [Bool.true_or]
      apply Exists.intro
      refine loopAt_step ok45_.good 1000 ?_
      ((repeat ((conv => lhs; whnf); simp only [go_sem, simprocAttr, sem45_, h1, h2, h4, h5])); try (conv => lhs; whnf); try rfl)
    case false =>
      rw [hd] at h5
      rw [Bool.false_or]
      refine ⟨S', ?_⟩
      refine loopAt_step ok45_.good 1000 ?_
      ((repeat ((conv => lhs; whnf); simp only [go_sem, simprocAttr, sem45_, h1, h2, h4, h5])); try (conv => lhs; whnf); try rfl)
      exact key
theorem call_Modal : ∀ n : Node, n.ok → callL Tryz.prog hints 45 [.agg n.cells] = some (.bool (n.has isModal)) := by
  refine Node.ind' fun n ih hn => ?_
  obtain ⟨S', h⟩ := loop_Modal n hn (fun k hk' => ih k hk' (hn.kids k hk')) n.kids.length 0 (by omega)
  rw [List.drop_zero] at h
  rw [Node.has_eq]
  by_cases e33 : n.op = 33
  · have e : isModal n.op = true := by rw [e33]; rfl
    rw [e, Bool.true_or]
    apply FX.callB2 ok45_ 1000 rfl rfl
    ((repeat ((conv => lhs; whnf); simp only [go_sem, simprocAttr, sem45_, e33])); try (conv => lhs; whnf); try rfl)
  by_cases e34 : n.op = 34
  · have e : isModal n.op = true := by rw [e34]; rfl
    rw [e, Bool.true_or]
    apply FX.callB2 ok45_ 1000 rfl rfl
    ((repeat ((conv => lhs; whnf); simp only [go_sem, simprocAttr, sem45_, e34])); try (conv => lhs; whnf); try rfl)
  by_cases e35 : n.op = 35
  · have e : isModal n.op = true := by rw [e35]; rfl
    rw [e, Bool.true_or]
    apply FX.callB2 ok45_ 1000 rfl rfl
    ((repeat ((conv => lhs; whnf); simp only [go_sem, simprocAttr, sem45_, e35])); try (conv => lhs; whnf); try rfl)
  by_cases e36 : n.op = 36
  · have e : isModal n.op = true := by rw [e36]; rfl
    rw [e, Bool.true_or]
    apply FX.callB2 ok45_ 1000 rfl rfl
    ((repeat ((conv => lhs; whnf); simp only [go_sem, simprocAttr, sem45_, e36])); try (conv => lhs; whnf); try rfl)
  by_cases e39 : n.op = 39
  · have e : isModal n.op = true := by rw [e39]; rfl
    rw [e, Bool.true_or]
    apply FX.callB2 ok45_ 1000 rfl rfl
    ((repeat ((conv => lhs; whnf); simp only [go_sem, simprocAttr, sem45_, e39])); try (conv => lhs; whnf); try rfl)
  have e : isModal n.op = false := by simp only [isModal, e33, e34, e35, e36, e39, decide_false, Bool.or_self]
  rw [e, Bool.false_or]
  apply FX.callB2 ok45_ 1000 rfl rfl
  ((repeat ((conv => lhs; whnf); simp only [go_sem, simprocAttr, sem45_, e33, e34, e35, e36, e39])); try (conv => lhs; whnf); try rfl)
  exact h
theorem Modal_o (S : Store) (n : Node) (h : n.ok) : callO (callL Tryz.prog hints) S 45 [.agg n.cells] = some { v := .bool (n.has isModal) } := callN S (call_Modal n h)
noncomputable def fx47_ : FX := ⟨Tryz.f47, hints.of 47, []⟩
theorem ok47_ : fx47_.ok 47 := ⟨by kernel_rfl, of_decide_eq_true (by kernel_rfl), by kernel_rfl, by kernel_rfl, by kernel_rfl, by kernel_rfl⟩
theorem sem47_ (b0 : Nat) (m : Md) (fs : List Fr) (e : Env) (S : Store) : sem b0 fx47_ m fs e S = run b0 fx47_ 1000 m fs e S := (sem_eq _ _ _ _ _ _).trans (run_sem b0 fx47_ ok47_.good 1000 m fs e S).symm
theorem loop_Occurs (n : Node) (hn : n.ok) (q : Int) (ih : ∀ k ∈ n.kids, callL Tryz.prog hints 47 [.agg k.cells, .int .i64 q] = some (.bool (k.has (isOp q)))) : ∀ (m i : Nat), i + m = n.kids.length →
    ∃ S', loopAt 0 fx47_ 0 116 1 [.blk 0, .seq 0 15] [(1, .int .i64 q), (2, .mp 0 0 0), (5, .int .i64 i)] [.arr [n.cells] none false] = some (.bool (Node.hass (isOp q) (n.kids.drop i)), S') := by
  intro m
  induction m with
  | zero =>
    intro i hi
    have h1 : ¬ (i : Int) < (n.kids.length : Int) := by omega
    rw [List.drop_of_length_le (by omega)]
    apply Exists.intro
    refine loopAt_step ok47_.good 1000 ?_
    ((repeat ((conv => lhs; whnf); simp only [go_sem, simprocAttr, sem47_, h1])); try (conv => lhs; whnf); try rfl)
    refine exit_run ok47_.good 1000 ?_
    unfold Node.hass
    ((repeat ((conv => lhs; whnf); simp only [go_sem, simprocAttr, sem47_])); try (conv => lhs; whnf); try rfl)
  | succ m hm =>
    intro i hi
    have h1 : (i : Int) < (n.kids.length : Int) := by omega
    have h2 := wrap_succ (i := i) (n := n.kids.length) (by omega) hn.len
    have h4 : 0 ≤ (i : Int) ∧ (i : Int) < (n.kids.length : Int) := ⟨by omega, h1⟩
    have h5 := fun S => callO_plain (S := S) (ih _ (kids_mem (l := n.kids) (i := i) (by omega))) (by simp [Node.plain, Plain.int])
    obtain ⟨S', key⟩ := hm (i + 1) (by omega)
    have h7 : Node.hass (isOp q) (n.kids.drop i) = ((n.kids.getD i nd0).has (isOp q) || Node.hass (isOp q) (n.kids.drop (i + 1))) := by rw [kids_drop (l := n.kids) (i := i) (by omega)]; rfl
    rw [h7]
    cases hd : (n.kids.getD i nd0).has (isOp q)
    case true =>
      rw [hd] at h5
      rw [Bool.true_or]
      apply Exists.intro
      refine loopAt_step ok47_.good 1000 ?_
      ((repeat ((conv => lhs; whnf); simp only [go_sem, simprocAttr, sem47_, h1, h2, h4, h5])); try (conv => lhs; whnf); try rfl)
    case false =>
      rw [hd] at h5
      rw [Bool.false_or]
      refine ⟨S', ?_⟩
      refine loopAt_step ok47_.good 1000 ?_
      ((repeat ((conv => lhs; whnf); simp only [go_sem, simprocAttr, sem47_, h1, h2, h4, h5])); try (conv => lhs; whnf); try rfl)
      exact key
theorem call_Occurs (q : Int) : ∀ n : Node, n.ok → callL Tryz.prog hints 47 [.agg n.cells, .int .i64 q] = some (.bool (n.has (isOp q))) := by
  refine Node.ind' fun n ih hn => ?_
  obtain ⟨S', h⟩ := loop_Occurs n hn q (fun k hk' => ih k hk' (hn.kids k hk')) n.kids.length 0 (by omega)
  rw [List.drop_zero] at h
  rw [Node.has_eq]
  unfold isOp at *
  by_cases e : n.op = q
  · rw [decide_eq_true e, Bool.true_or]
    apply FX.callB2 ok47_ 1000 rfl rfl
    ((repeat ((conv => lhs; whnf); simp only [go_sem, simprocAttr, sem47_, e])); try (conv => lhs; whnf); try rfl)
  · rw [decide_eq_false e, Bool.false_or]
    apply FX.callB2 ok47_ 1000 rfl rfl
    ((repeat ((conv => lhs; whnf); simp only [go_sem, simprocAttr, sem47_, e])); try (conv => lhs; whnf); try rfl)
    exact h
theorem Occurs_o (S : Store) (q : Int) (n : Node) (h : n.ok) : callO (callL Tryz.prog hints) S 47 [.agg n.cells, .int .i64 q] = some { v := .bool (n.has (isOp q)) } := callO_plain (call_Occurs q n h) (by simp [Node.plain, Plain.int])
noncomputable def fx40_ : FX := ⟨Tryz.f40, hints.of 40, []⟩
theorem ok40_ : fx40_.ok 40 := ⟨by kernel_rfl, of_decide_eq_true (by kernel_rfl), by kernel_rfl, by kernel_rfl, by kernel_rfl, by kernel_rfl⟩
theorem sem40_ (b0 : Nat) (m : Md) (fs : List Fr) (e : Env) (S : Store) : sem b0 fx40_ m fs e S = run b0 fx40_ 1000 m fs e S := (sem_eq _ _ _ _ _ _).trans (run_sem b0 fx40_ ok40_.good 1000 m fs e S).symm
theorem loop0_Uses (n : Node) (ops : List Int) (hl : ops.length ≤ 1000) : ∀ (m i : Nat), i + m = ops.length →
    (inOps (ops.drop i) n.op = true → ∃ S', loopAt 0 fx40_ 0 52 1 [.blk 0, .seq 0 7] [(1, .sl (kRows .i64 ops) false), (2, .mp 0 0 0), (9, .sl (kRows .i64 ops) false), (10, .int .i64 ops.length), (11, .int .i64 i)] [.arr [n.cells] none false] = some (.bool true, S')) ∧
    (inOps (ops.drop i) n.op = false → ∀ z, exitTo 0 fx40_ 0 [.blk 0, .seq 0 7] [(1, .sl (kRows .i64 ops) false), (2, .mp 0 0 0), (9, .undef), (10, .undef), (11, .undef), (12, .undef)] [.arr [n.cells] none false] = some z →
      loopAt 0 fx40_ 0 52 1 [.blk 0, .seq 0 7] [(1, .sl (kRows .i64 ops) false), (2, .mp 0 0 0), (9, .sl (kRows .i64 ops) false), (10, .int .i64 ops.length), (11, .int .i64 i)] [.arr [n.cells] none false] = some z) := by
  intro m
  induction m with
  | zero =>
    intro i hi
    have h1 : ¬ (i : Int) < (ops.length : Int) := by omega
    rw [List.drop_of_length_le (by omega)]
    refine ⟨fun h => (by cases h), fun _ z hz => ?_⟩
    refine loopAt_step ok40_.good 1000 ?_
    ((repeat ((conv => lhs; whnf); simp only [go_sem, simprocAttr, sem40_, h1])); try (conv => lhs; whnf); try rfl)
    exact hz
  | succ m hm =>
    intro i hi
    have h1 : (i : Int) < (ops.length : Int) := by omega
    have h2 := wrap_succ (i := i) (n := ops.length) (by omega) (by unfold maxLen; omega)
    have h4 : 0 ≤ (i : Int) ∧ (i : Int) < (ops.length : Int) := ⟨by omega, h1⟩
    have e : ops.drop i = ops.getD i 0 :: ops.drop (i + 1) := by
      rw [List.drop_eq_getElem_cons (by omega)]
      simp [List.getD_eq_getElem?_getD, show i < ops.length by omega]
    obtain ⟨k1, k2⟩ := hm (i + 1) (by omega)
    rw [e]
    unfold inOps at *
    rw [List.any_cons]
    by_cases c : n.op = ops.getD i 0
    · refine ⟨fun _ => ?_, fun h => by simp [c] at h⟩
      apply Exists.intro
      refine loopAt_step ok40_.good 1000 ?_
      ((repeat ((conv => lhs; whnf); simp only [go_sem, simprocAttr, sem40_, h1, h4, idx_i64, Int.toNat_natCast, c])); try (conv => lhs; whnf); try rfl)
    · rw [decide_eq_false c, Bool.false_or]
      refine ⟨fun h => ?_, fun h z hz => ?_⟩
      · obtain ⟨S', k⟩ := k1 h
        refine ⟨S', loopAt_step ok40_.good 1000 ?_⟩
        ((repeat ((conv => lhs; whnf); simp only [go_sem, simprocAttr, sem40_, h1, h2, h4, idx_i64, Int.toNat_natCast, c])); try (conv => lhs; whnf); try rfl)
        exact k
      · refine loopAt_step ok40_.good 1000 ?_
        ((repeat ((conv => lhs; whnf); simp only [go_sem, simprocAttr, sem40_, h1, h2, h4, idx_i64, Int.toNat_natCast, c])); try (conv => lhs; whnf); try rfl)
        exact k2 h z hz
theorem loop_Uses (n : Node) (hn : n.ok) (ops : List Int) (ih : ∀ k ∈ n.kids, callL Tryz.prog hints 40 [.agg k.cells, .sl (kRows .i64 ops) false] = some (.bool (k.has (inOps ops)))) : ∀ (m i : Nat), i + m = n.kids.length →
    ∃ S', loopAt 0 fx40_ 2 116 1 [.blk 2, .seq 0 15] [(1, .sl (kRows .i64 ops) false), (21, .sl (Node.rows n.kids) false), (22, .int .i64 n.kids.length), (23, .int .i64 i)] [.arr [n.cells] none false] = some (.bool (Node.hass (inOps ops) (n.kids.drop i)), S') := by
  intro m
  induction m with
  | zero =>
    intro i hi
    have h1 : ¬ (i : Int) < (n.kids.length : Int) := by omega
    rw [List.drop_of_length_le (by omega)]
    apply Exists.intro
    refine loopAt_step ok40_.good 1000 ?_
    ((repeat ((conv => lhs; whnf); simp only [go_sem, simprocAttr, sem40_, h1])); try (conv => lhs; whnf); try rfl)
    refine exit_run ok40_.good 1000 ?_
    unfold Node.hass
    ((repeat ((conv => lhs; whnf); simp only [go_sem, simprocAttr, sem40_])); try (conv => lhs; whnf); try rfl)
  | succ m hm =>
    intro i hi
    have h1 : (i : Int) < (n.kids.length : Int) := by omega
    have h2 := wrap_succ (i := i) (n := n.kids.length) (by omega) hn.len
    have h4 : 0 ≤ (i : Int) ∧ (i : Int) < (n.kids.length : Int) := ⟨by omega, h1⟩
    have h5 := fun S => callO_plain (S := S) (ih _ (kids_mem (l := n.kids) (i := i) (by omega))) (by simp [Node.plain, Plain.sl])
    obtain ⟨S', key⟩ := hm (i + 1) (by omega)
    have h7 : Node.hass (inOps ops) (n.kids.drop i) = ((n.kids.getD i nd0).has (inOps ops) || Node.hass (inOps ops) (n.kids.drop (i + 1))) := by rw [kids_drop (l := n.kids) (i := i) (by omega)]; rfl
    rw [h7]
    cases hd : (n.kids.getD i nd0).has (inOps ops)
    case true =>
      rw [hd] at h5
      rw [Bool.true_or]
      apply Exists.intro
      refine loopAt_step ok40_.good 1000 ?_
      ((repeat ((conv => lhs; whnf); simp only [go_sem, simprocAttr, sem40_, h1, h2, h4, h5])); try (conv => lhs; whnf); try rfl)
    case false =>
      rw [hd] at h5
      rw [Bool.false_or]
      refine ⟨S', ?_⟩
      refine loopAt_step ok40_.good 1000 ?_
      ((repeat ((conv => lhs; whnf); simp only [go_sem, simprocAttr, sem40_, h1, h2, h4, h5])); try (conv => lhs; whnf); try rfl)
      exact key
theorem call_Uses (ops : List Int) (hl : ops.length ≤ 1000) : ∀ n : Node, n.ok → callL Tryz.prog hints 40 [.agg n.cells, .sl (kRows .i64 ops) false] = some (.bool (n.has (inOps ops))) := by
  refine Node.ind' fun n ih hn => ?_
  obtain ⟨S', h⟩ := loop_Uses n hn ops (fun k hk' => ih k hk' (hn.kids k hk')) n.kids.length 0 (by omega)
  obtain ⟨k1, k2⟩ := loop0_Uses n ops hl ops.length 0 (by omega)
  rw [List.drop_zero] at h k1 k2
  rw [Node.has_eq]
  cases e : inOps ops n.op
  · rw [Bool.false_or]
    have : loopAt 0 fx40_ 0 52 1 [.blk 0, .seq 0 7] [(1, .sl (kRows .i64 ops) false), (2, .mp 0 0 0), (9, .sl (kRows .i64 ops) false), (10, .int .i64 ops.length), (11, .int .i64 (0 : Nat))] [.arr [n.cells] none false] = some (.bool (Node.hass (inOps ops) n.kids), S') := by
      refine k2 e _ ?_
      refine exit_run ok40_.good 1000 ?_
      ((repeat ((conv => lhs; whnf); simp only [go_sem, simprocAttr, sem40_])); try (conv => lhs; whnf); try rfl)
      exact h
    apply FX.callB2 ok40_ 1000 rfl rfl
    ((repeat ((conv => lhs; whnf); simp only [go_sem, simprocAttr, sem40_])); try (conv => lhs; whnf); try rfl)
    exact this
  · rw [Bool.true_or]
    obtain ⟨S2, k⟩ := k1 e
    apply FX.callB2 ok40_ 1000 rfl rfl
    ((repeat ((conv => lhs; whnf); simp only [go_sem, simprocAttr, sem40_])); try (conv => lhs; whnf); try rfl)
    exact k
end
end Go.Vs
end
section
set_option linter.unusedVariables false
set_option linter.unusedSimpArgs false
set_option maxRecDepth 100000
namespace Go.Vs
open Go Go.Proofs
theorem cmpI_self (a : Int) : cmpI a a = 0 := by simp [cmpI]
theorem cmpI_ne {a b : Int} (h : ¬ a = b) : cmpI a b = cmpB (decide (a < b)) := by
  unfold cmpI cmpB
  by_cases c : a < b
  · simp [c]
  · have : b < a := by omega
    simp [c, this]
theorem seqI_zero (x : Int) : seqI 0 x = x := by simp [seqI]
theorem seqI_ne {x : Int} (h : x ≠ 0) (y : Int) : seqI x y = x := by simp [seqI, h]
theorem cmpB_ne (b : Bool) : cmpB b ≠ 0 := by cases b <;> simp [cmpB]
theorem seqI_B (b : Bool) (y : Int) : seqI (cmpB b) y = cmpB b := seqI_ne (cmpB_ne b) y
theorem wrap_pred {m n : Nat} (h : m < n) (hn : n ≤ maxLen) : IntKind.i64.wrap ((m : Int) - 1) = (m : Int) - 1 := by
  have := maxLen_le
  rw [IntKind.wrap_i64]; omega
theorem cmps_drop {a b : List Node} {i : Nat} (ha : i < a.length) (hb : i < b.length) : Node.cmps (a.drop i) (b.drop i) = seqI ((a.getD i nd0).cmp (b.getD i nd0)) (Node.cmps (a.drop (i + 1)) (b.drop (i + 1))) := by
  rw [kids_drop ha, kids_drop hb]
  rfl
theorem cmpB_t : cmpB true = -1 := rfl
theorem cmpB_f : cmpB false = 1 := rfl
section
attribute [local irreducible] Vs.callL Vs.callRL tyi callO callM callMV appendE storeE evLoad indexAddrO sliceO evFieldAddr evField buildO buildSliceO makeSliceO allocO boxed lenO copyE convertO indexO Vs.gc freezeAll
noncomputable def fx125_ : FX := ⟨Tryz.f125, hints.of 125, []⟩
theorem ok125_ : fx125_.ok 125 := ⟨by kernel_rfl, of_decide_eq_true (by kernel_rfl), by kernel_rfl, by kernel_rfl, by kernel_rfl, by kernel_rfl⟩
theorem sem125_ (b0 : Nat) (m : Md) (fs : List Fr) (e : Env) (S : Store) : sem b0 fx125_ m fs e S = run b0 fx125_ 1000 m fs e S := (sem_eq _ _ _ _ _ _).trans (run_sem b0 fx125_ ok125_.good 1000 m fs e S).symm
theorem call_tless (b : Bool) : callL Tryz.prog hints 125 [.bool b] = some (.int .i64 (cmpB b)) := by
  refine FX.callL (r := (.int .i64 (cmpB b), [])) ok125_ 1000 rfl rfl ?_ rfl
  cases b
  · rw [cmpB_f]; ((repeat ((conv => lhs; whnf); simp only [go_sem, simprocAttr, sem125_])); try (conv => lhs; whnf); try rfl)
  · rw [cmpB_t]; ((repeat ((conv => lhs; whnf); simp only [go_sem, simprocAttr, sem125_])); try (conv => lhs; whnf); try rfl)
theorem tless_o (S : Store) (b : Bool) : callO (callL Tryz.prog hints) S 125 [.bool b] = some { v := .int .i64 (cmpB b) } := callO_plain (call_tless b) (by simp [Plain.bool])
noncomputable def fx127_ : FX := ⟨Tryz.f127, hints.of 127, []⟩
theorem ok127_ : fx127_.ok 127 := ⟨by kernel_rfl, of_decide_eq_true (by kernel_rfl), by kernel_rfl, by kernel_rfl, by kernel_rfl, by kernel_rfl⟩
theorem sem127_ (b0 : Nat) (m : Md) (fs : List Fr) (e : Env) (S : Store) : sem b0 fx127_ m fs e S = run b0 fx127_ 1000 m fs e S := (sem_eq _ _ _ _ _ _).trans (run_sem b0 fx127_ ok127_.good 1000 m fs e S).symm
theorem call_less8 (a b : Int) : callL Tryz.prog hints 127 [.int .i64 a, .int .i64 b] = some (.int .i64 (cmpI a b)) := by
  refine FX.callL (r := (.int .i64 (cmpI a b), [])) ok127_ 1000 rfl rfl ?_ rfl
  unfold cmpI
  by_cases h1 : a < b
  · simp only [h1, if_true]
    ((repeat ((conv => lhs; whnf); simp only [go_sem, simprocAttr, sem127_, h1])); try (conv => lhs; whnf); try rfl)
  · by_cases h2 : b < a
    · simp only [h1, h2, if_true, if_false]
      ((repeat ((conv => lhs; whnf); simp only [go_sem, simprocAttr, sem127_, h1, h2])); try (conv => lhs; whnf); try rfl)
    · simp only [h1, h2, if_false]
      ((repeat ((conv => lhs; whnf); simp only [go_sem, simprocAttr, sem127_, h1, h2])); try (conv => lhs; whnf); try rfl)
theorem less8_o (S : Store) (a b : Int) : callO (callL Tryz.prog hints) S 127 [.int .i64 a, .int .i64 b] = some { v := .int .i64 (cmpI a b) } := callO_plain (call_less8 a b) (by simp [Plain.int])
noncomputable def fx126_ : FX := ⟨Tryz.f126, hints.of 126, []⟩
theorem ok126_ : fx126_.ok 126 := ⟨by kernel_rfl, of_decide_eq_true (by kernel_rfl), by kernel_rfl, by kernel_rfl, by kernel_rfl, by kernel_rfl⟩
theorem sem126_ (b0 : Nat) (m : Md) (fs : List Fr) (e : Env) (S : Store) : sem b0 fx126_ m fs e S = run b0 fx126_ 1000 m fs e S := (sem_eq _ _ _ _ _ _).trans (run_sem b0 fx126_ ok126_.good 1000 m fs e S).symm
theorem loop_twords (a b : List Int) (hl : a.length = b.length) (ha : a.length ≤ maxLen) : ∀ m, m ≤ a.length →
    loopAt 0 fx126_ 0 116 0 [.blk 0, .seq 0 15] [(0, .sl (kRows .u32 a) false), (1, .sl (kRows .u32 b) false), (5, .int .i64 ((m : Int) - 1))] [] = some (.int .i64 (wordsTo a b m), []) := by
  intro m
  induction m with
  | zero =>
    intro hm
    have h1 : ¬ (0 : Int) ≤ ((0 : Nat) : Int) - 1 := by omega
    refine loopAt_step ok126_.good 1000 ?_
    ((repeat ((conv => lhs; whnf); simp only [go_sem, simprocAttr, sem126_, h1])); try (conv => lhs; whnf); try rfl)
    refine exit_run ok126_.good 1000 ?_
    unfold wordsTo
    ((repeat ((conv => lhs; whnf); simp only [go_sem, simprocAttr, sem126_])); try (conv => lhs; whnf); try rfl)
  | succ m ih =>
    intro hm
    have e1 : ((m + 1 : Nat) : Int) - 1 = (m : Int) := by omega
    have h1 : (0 : Int) ≤ (m : Int) := by omega
    have h2 : (m : Int) < (a.length : Int) := by omega
    have h3 : (m : Int) < (b.length : Int) := by omega
    have w := wrap_pred (m := m) (n := a.length) (by omega) ha
    have key := ih (by omega)
    rw [e1]
    refine loopAt_step ok126_.good 1000 ?_
    unfold wordsTo
    by_cases c : a.getD m 0 = b.getD m 0
    · rw [c, cmpI_self, seqI_zero]
      ((repeat ((conv => lhs; whnf); simp only [go_sem, simprocAttr, sem126_, h1, h2, h3, Int.toNat_natCast, c, w])); try (conv => lhs; whnf); try rfl)
      exact key
    · rw [cmpI_ne c, seqI_B]
      ((repeat ((conv => lhs; whnf); simp only [go_sem, simprocAttr, sem126_, h1, h2, h3, Int.toNat_natCast, c, tless_o])); try (conv => lhs; whnf); try rfl)
theorem call_twords (a b : List Int) (ha : a.length ≤ maxLen) (hb : b.length ≤ maxLen) : callL Tryz.prog hints 126 [.sl (kRows .u32 a) false, .sl (kRows .u32 b) false] = some (.int .i64 (cmpWords a b)) := by
  refine FX.callL (r := (.int .i64 (cmpWords a b), [])) ok126_ 1000 rfl rfl ?_ rfl
  unfold cmpWords
  by_cases hl : a.length = b.length
  · have h1 : (a.length : Int) = (b.length : Int) := by omega
    have h2 : IntKind.i64.wrap ((b.length : Int) - 1) = (b.length : Int) - 1 := by
      have := maxLen_le
      rw [IntKind.wrap_i64]; omega
    have h3 := loop_twords a b hl ha a.length (Nat.le_refl _)
    rw [h1] at h3
    rw [h1, cmpI_self, seqI_zero]
    ((repeat ((conv => lhs; whnf); simp only [go_sem, simprocAttr, sem126_, h1, h2])); try (conv => lhs; whnf); try rfl)
    exact h3
  · have h1 : ¬ (a.length : Int) = (b.length : Int) := by omega
    rw [cmpI_ne h1, seqI_B]
    ((repeat ((conv => lhs; whnf); simp only [go_sem, simprocAttr, sem126_, h1, tless_o])); try (conv => lhs; whnf); try rfl)
theorem twords_o (S : Store) (a b : List Int) (ha : a.length ≤ maxLen) (hb : b.length ≤ maxLen) : callO (callL Tryz.prog hints) S 126 [.sl (kRows .u32 a) false, .sl (kRows .u32 b) false] = some { v := .int .i64 (cmpWords a b) } := callO_plain (call_twords a b ha hb) (by simp [Plain.sl])
noncomputable def fx128_ : FX := ⟨Tryz.f128, hints.of 128, []⟩
theorem ok128_ : fx128_.ok 128 := ⟨by kernel_rfl, of_decide_eq_true (by kernel_rfl), by kernel_rfl, by kernel_rfl, by kernel_rfl, by kernel_rfl⟩
theorem sem128_ (b0 : Nat) (m : Md) (fs : List Fr) (e : Env) (S : Store) : sem b0 fx128_ m fs e S = run b0 fx128_ 1000 m fs e S := (sem_eq _ _ _ _ _ _).trans (run_sem b0 fx128_ ok128_.good 1000 m fs e S).symm
theorem loop_words8 (a b : List Int) (hl : a.length = b.length) (ha : a.length ≤ maxLen) : ∀ m, m ≤ a.length →
    loopAt 0 fx128_ 0 116 0 [.blk 0, .seq 0 15] [(0, .sl (kRows .u32 a) false), (1, .sl (kRows .u32 b) false), (5, .int .i64 ((m : Int) - 1))] [] = some (.int .i64 (wordsTo a b m), []) := by
  intro m
  induction m with
  | zero =>
    intro hm
    have h1 : ¬ (0 : Int) ≤ ((0 : Nat) : Int) - 1 := by omega
    refine loopAt_step ok128_.good 1000 ?_
    ((repeat ((conv => lhs; whnf); simp only [go_sem, simprocAttr, sem128_, h1])); try (conv => lhs; whnf); try rfl)
    refine exit_run ok128_.good 1000 ?_
    unfold wordsTo
    ((repeat ((conv => lhs; whnf); simp only [go_sem, simprocAttr, sem128_])); try (conv => lhs; whnf); try rfl)
  | succ m ih =>
    intro hm
    have e1 : ((m + 1 : Nat) : Int) - 1 = (m : Int) := by omega
    have h1 : (0 : Int) ≤ (m : Int) := by omega
    have h2 : (m : Int) < (a.length : Int) := by omega
    have h3 : (m : Int) < (b.length : Int) := by omega
    have w := wrap_pred (m := m) (n := a.length) (by omega) ha
    have key := ih (by omega)
    rw [e1]
    refine loopAt_step ok128_.good 1000 ?_
    unfold wordsTo
    by_cases c : a.getD m 0 = b.getD m 0
    · rw [c, cmpI_self, seqI_zero]
      ((repeat ((conv => lhs; whnf); simp only [go_sem, simprocAttr, sem128_, h1, h2, h3, Int.toNat_natCast, c, w])); try (conv => lhs; whnf); try rfl)
      exact key
    · rw [cmpI_ne c, seqI_B]
      by_cases d : a.getD m 0 < b.getD m 0
      · rw [decide_eq_true d, cmpB_t]
        ((repeat ((conv => lhs; whnf); simp only [go_sem, simprocAttr, sem128_, h1, h2, h3, Int.toNat_natCast, c, d])); try (conv => lhs; whnf); try rfl)
      · rw [decide_eq_false d, cmpB_f]
        ((repeat ((conv => lhs; whnf); simp only [go_sem, simprocAttr, sem128_, h1, h2, h3, Int.toNat_natCast, c, d])); try (conv => lhs; whnf); try rfl)
theorem call_words8 (a b : List Int) (ha : a.length ≤ maxLen) (hb : b.length ≤ maxLen) : callL Tryz.prog hints 128 [.sl (kRows .u32 a) false, .sl (kRows .u32 b) false] = some (.int .i64 (cmpWords a b)) := by
  refine FX.callL (r := (.int .i64 (cmpWords a b), [])) ok128_ 1000 rfl rfl ?_ rfl
  unfold cmpWords
  by_cases hl : a.length = b.length
  · have h1 : (a.length : Int) = (b.length : Int) := by omega
    have h2 : IntKind.i64.wrap ((b.length : Int) - 1) = (b.length : Int) - 1 := by
      have := maxLen_le
      rw [IntKind.wrap_i64]; omega
    have h3 := loop_words8 a b hl ha a.length (Nat.le_refl _)
    rw [h1] at h3
    rw [h1, cmpI_self, seqI_zero]
    ((repeat ((conv => lhs; whnf); simp only [go_sem, simprocAttr, sem128_, h1, h2])); try (conv => lhs; whnf); try rfl)
    exact h3
  · have h1 : ¬ (a.length : Int) = (b.length : Int) := by omega
    rw [cmpI_ne h1, seqI_B]
    by_cases d : (a.length : Int) < (b.length : Int)
    · rw [decide_eq_true d, cmpB_t]
      ((repeat ((conv => lhs; whnf); simp only [go_sem, simprocAttr, sem128_, h1, d])); try (conv => lhs; whnf); try rfl)
    · rw [decide_eq_false d, cmpB_f]
      ((repeat ((conv => lhs; whnf); simp only [go_sem, simprocAttr, sem128_, h1, d])); try (conv => lhs; whnf); try rfl)
theorem words8_o (S : Store) (a b : List Int) (ha : a.length ≤ maxLen) (hb : b.length ≤ maxLen) : callO (callL Tryz.prog hints) S 128 [.sl (kRows .u32 a) false, .sl (kRows .u32 b) false] = some { v := .int .i64 (cmpWords a b) } := callO_plain (call_words8 a b ha hb) (by simp [Plain.sl])
noncomputable def fx80_ : FX := ⟨Tryz.f80, hints.of 80, []⟩
theorem ok80_ : fx80_.ok 80 := ⟨by kernel_rfl, of_decide_eq_true (by kernel_rfl), by kernel_rfl, by kernel_rfl, by kernel_rfl, by kernel_rfl⟩
theorem sem80_ (b0 : Nat) (m : Md) (fs : List Fr) (e : Env) (S : Store) : sem b0 fx80_ m fs e S = run b0 fx80_ 1000 m fs e S := (sem_eq _ _ _ _ _ _).trans (run_sem b0 fx80_ ok80_.good 1000 m fs e S).symm
theorem loop_Compare (a b : Node) (ha : a.ok) (hl : a.kids.length = b.kids.length) (ih : ∀ k ∈ a.kids, ∀ m ∈ b.kids, callL Tryz.prog hints 80 [.agg k.cells, .agg m.cells] = some (.int .i64 (k.cmp m))) : ∀ (m i : Nat), i + m = a.kids.length →
    loopAt 0 fx80_ 1 1012 2 [.blk 1, .seq 0 127] [(2, .mp 0 0 0), (3, .mp 1 0 0), (82, .int .i64 a.kids.length), (83, .int .i64 i)] [.arr [a.cells] none false, .arr [b.cells] none false] =
      some (.int .i64 (Node.cmps (a.kids.drop i) (b.kids.drop i)), [.arr [a.cells] none false, .arr [b.cells] none false]) := by
  intro m
  induction m with
  | zero =>
    intro i hi
    have h1 : ¬ (i : Int) < (a.kids.length : Int) := by omega
    rw [List.drop_of_length_le (l := a.kids) (by omega)]
    refine loopAt_step ok80_.good 1000 ?_
    ((repeat ((conv => lhs; whnf); simp only [go_sem, simprocAttr, sem80_, h1])); try (conv => lhs; whnf); try rfl)
    refine exit_run ok80_.good 1000 ?_
    unfold Node.cmps
    ((repeat ((conv => lhs; whnf); simp only [go_sem, simprocAttr, sem80_])); try (conv => lhs; whnf); try rfl)
  | succ m hm =>
    intro i hi
    have h1 : (i : Int) < (a.kids.length : Int) := by omega
    have h1' : (i : Int) < (b.kids.length : Int) := by omega
    have h2 := wrap_succ (i := i) (n := a.kids.length) (by omega) ha.len
    have h4 : (0 : Int) ≤ (i : Int) := by omega
    have h5 := fun S => callN2 S (ih _ (kids_mem (l := a.kids) (i := i) (by omega)) _ (kids_mem (l := b.kids) (i := i) (by omega)))
    have key := hm (i + 1) (by omega)
    rw [cmps_drop (a := a.kids) (b := b.kids) (i := i) (by omega) (by omega)]
    refine loopAt_step ok80_.good 1000 ?_
    by_cases c : (a.kids.getD i nd0).cmp (b.kids.getD i nd0) = 0
    · rw [c] at h5
      rw [c, seqI_zero]
      ((repeat ((conv => lhs; whnf); simp only [go_sem, simprocAttr, sem80_, h1, h1', h2, h4, h5])); try (conv => lhs; whnf); try rfl)
      exact key
    · rw [seqI_ne c]
      ((repeat ((conv => lhs; whnf); simp only [go_sem, simprocAttr, sem80_, h1, h1', h2, h4, h5, c])); try (conv => lhs; whnf); try rfl)
theorem call_Compare : ∀ a : Node, a.ok → ∀ b : Node, b.ok → callL Tryz.prog hints 80 [.agg a.cells, .agg b.cells] = some (.int .i64 (a.cmp b)) := by
  refine Node.ind' fun a ih ha b hb => ?_
  refine FX.callL (r := (.int .i64 (a.cmp b), [.arr [a.cells] none false, .arr [b.cells] none false])) ok80_ 1000 rfl rfl ?_ rfl
  have hn := fun S => twords_o S a.num b.num ha.val.ln hb.val.ln
  have hd := fun S => twords_o S a.den b.den ha.val.ld hb.val.ld
  rw [Node.cmp_eq]
  by_cases c1 : a.op = b.op
  case neg =>
    rw [cmpI_ne c1, seqI_B]
    ((repeat ((conv => lhs; whnf); simp only [go_sem, simprocAttr, sem80_, c1, tless_o])); try (conv => lhs; whnf); try rfl)
  rw [c1, cmpI_self, seqI_zero]
  unfold cmpStr
  cases c2 : a.name.toList == b.name.toList
  · have c2' : a.name.toList ≠ b.name.toList := by simpa using c2
    rw [if_pos c2', seqI_B]
    ((repeat ((conv => lhs; whnf); simp only [go_sem, simprocAttr, sem80_, c1, c2, tless_o])); try (conv => lhs; whnf); try rfl)
  have c2' : ¬ a.name.toList ≠ b.name.toList := by simpa using c2
  rw [if_neg c2', seqI_zero]
  unfold cmpNeg
  cases c3 : a.neg == b.neg
  · have c3' : a.neg ≠ b.neg := by simpa using c3
    rw [if_pos c3', seqI_B]
    ((repeat ((conv => lhs; whnf); simp only [go_sem, simprocAttr, sem80_, c1, c2, c3, tless_o])); try (conv => lhs; whnf); try rfl)
  have c3' : ¬ a.neg ≠ b.neg := by simpa using c3
  rw [if_neg c3', seqI_zero]
  by_cases c4 : cmpWords a.num b.num = 0
  case neg =>
    rw [seqI_ne c4]
    ((repeat ((conv => lhs; whnf); simp only [go_sem, simprocAttr, sem80_, c1, c2, c3, tless_o, hn, c4])); try (conv => lhs; whnf); try rfl)
  rw [c4, seqI_zero]
  by_cases c5 : cmpWords a.den b.den = 0
  case neg =>
    rw [seqI_ne c5]
    ((repeat ((conv => lhs; whnf); simp only [go_sem, simprocAttr, sem80_, c1, c2, c3, tless_o, hn, c4, hd, c5])); try (conv => lhs; whnf); try rfl)
  rw [c5, seqI_zero]
  by_cases hl : a.kids.length = b.kids.length
  · have h := loop_Compare a b ha hl (fun k hk m hm => ih k hk (ha.kids k hk) m (hb.kids m hm)) a.kids.length 0 (by omega)
    simp only [List.drop_zero] at h
    have h1 : (a.kids.length : Int) = (b.kids.length : Int) := by omega
    rw [h1] at h
    rw [h1, cmpI_self, seqI_zero]
    ((repeat ((conv => lhs; whnf); simp only [go_sem, simprocAttr, sem80_, c1, c2, c3, hn, c4, hd, c5, h1])); try (conv => lhs; whnf); try rfl)
    exact h
  · have h1 : ¬ (a.kids.length : Int) = (b.kids.length : Int) := by omega
    rw [cmpI_ne h1, seqI_B]
    ((repeat ((conv => lhs; whnf); simp only [go_sem, simprocAttr, sem80_, c1, c2, c3, tless_o, hn, c4, hd, c5, h1])); try (conv => lhs; whnf); try rfl)
noncomputable def fx85_ : FX := ⟨Tryz.f85, hints.of 85, []⟩
theorem ok85_ : fx85_.ok 85 := ⟨by kernel_rfl, of_decide_eq_true (by kernel_rfl), by kernel_rfl, by kernel_rfl, by kernel_rfl, by kernel_rfl⟩
theorem sem85_ (b0 : Nat) (m : Md) (fs : List Fr) (e : Env) (S : Store) : sem b0 fx85_ m fs e S = run b0 fx85_ 1000 m fs e S := (sem_eq _ _ _ _ _ _).trans (run_sem b0 fx85_ ok85_.good 1000 m fs e S).symm
theorem loop_Compare8 (a b : Node) (ha : a.ok) (hl : a.kids.length = b.kids.length) (ih : ∀ k ∈ a.kids, ∀ m ∈ b.kids, callL Tryz.prog hints 85 [.agg k.cells, .agg m.cells] = some (.int .i64 (k.cmp m))) : ∀ (m i : Nat), i + m = a.kids.length →
    loopAt 0 fx85_ 0 4084 2 [.blk 0, .seq 0 511] [(2, .mp 0 0 0), (3, .mp 1 0 0), (9, .int .i64 i)] [.arr [a.cells] none false, .arr [b.cells] none false] =
      some (.int .i64 (Node.cmps (a.kids.drop i) (b.kids.drop i)), [.arr [a.cells] none false, .arr [b.cells] none false]) := by
  intro m
  induction m with
  | zero =>
    intro i hi
    have h1 : ¬ (i : Int) < (a.kids.length : Int) := by omega
    rw [List.drop_of_length_le (l := a.kids) (by omega)]
    refine loopAt_step ok85_.good 1000 ?_
    ((repeat ((conv => lhs; whnf); simp only [go_sem, simprocAttr, sem85_, h1])); try (conv => lhs; whnf); try rfl)
    refine exit_run ok85_.good 1000 ?_
    unfold Node.cmps
    ((repeat ((conv => lhs; whnf); simp only [go_sem, simprocAttr, sem85_])); try (conv => lhs; whnf); try rfl)
  | succ m hm =>
    intro i hi
    have h1 : (i : Int) < (a.kids.length : Int) := by omega
    have h1' : (i : Int) < (b.kids.length : Int) := by omega
    have h2 := wrap_succ (i := i) (n := a.kids.length) (by omega) ha.len
    have h4 : (0 : Int) ≤ (i : Int) := by omega
    have h5 := fun S => callN2 S (ih _ (kids_mem (l := a.kids) (i := i) (by omega)) _ (kids_mem (l := b.kids) (i := i) (by omega)))
    have key := hm (i + 1) (by omega)
    rw [cmps_drop (a := a.kids) (b := b.kids) (i := i) (by omega) (by omega)]
    refine loopAt_step ok85_.good 1000 ?_
    by_cases c : (a.kids.getD i nd0).cmp (b.kids.getD i nd0) = 0
    · rw [c] at h5
      rw [c, seqI_zero]
      ((repeat ((conv => lhs; whnf); simp only [go_sem, simprocAttr, sem85_, h1, h1', h2, h4, h5])); try (conv => lhs; whnf); try rfl)
      exact key
    · rw [seqI_ne c]
      ((repeat ((conv => lhs; whnf); simp only [go_sem, simprocAttr, sem85_, h1, h1', h2, h4, h5, c])); try (conv => lhs; whnf); try rfl)
theorem call_Compare8 : ∀ a : Node, a.ok → ∀ b : Node, b.ok → callL Tryz.prog hints 85 [.agg a.cells, .agg b.cells] = some (.int .i64 (a.cmp b)) := by
  refine Node.ind' fun a ih ha b hb => ?_
  refine FX.callL (r := (.int .i64 (a.cmp b), [.arr [a.cells] none false, .arr [b.cells] none false])) ok85_ 1000 rfl rfl ?_ rfl
  have hn := fun S => words8_o S a.num b.num ha.val.ln hb.val.ln
  have hd := fun S => words8_o S a.den b.den ha.val.ld hb.val.ld
  have z0 : ¬ (cmpB true = 0) := cmpB_ne true
  have z1 : ¬ (cmpB false = 0) := cmpB_ne false
  rw [Node.cmp_eq]
  by_cases c1 : cmpI a.op b.op = 0
  case neg =>
    rw [seqI_ne c1]
    ((repeat ((conv => lhs; whnf); simp only [go_sem, simprocAttr, sem85_, c1, less8_o])); try (conv => lhs; whnf); try rfl)
  rw [c1, seqI_zero]
  unfold cmpStr
  cases c2 : a.name.toList == b.name.toList
  · have c2' : a.name.toList ≠ b.name.toList := by simpa using c2
    rw [if_pos c2', seqI_B]
    cases d : Op.bytesLess a.name.toList b.name.toList
    · rw [cmpB_f]
      ((repeat ((conv => lhs; whnf); simp only [go_sem, simprocAttr, sem85_, c1, less8_o, c2, d])); try (conv => lhs; whnf); try rfl)
    · rw [cmpB_t]
      ((repeat ((conv => lhs; whnf); simp only [go_sem, simprocAttr, sem85_, c1, less8_o, c2, d])); try (conv => lhs; whnf); try rfl)
  have c2' : ¬ a.name.toList ≠ b.name.toList := by simpa using c2
  rw [if_neg c2', seqI_zero]
  unfold cmpNeg
  cases c3 : a.neg == b.neg
  · have c3' : a.neg ≠ b.neg := by simpa using c3
    rw [if_pos c3', seqI_B]
    cases da : a.neg <;> cases d : b.neg
    · exact absurd (by rw [da, d]) c3'
    · rw [da, d] at c3
      rw [cmpB_t]
      ((repeat ((conv => lhs; whnf); simp only [go_sem, simprocAttr, sem85_, c1, less8_o, c2, da, d, c3])); try (conv => lhs; whnf); try rfl)
    · rw [da, d] at c3
      rw [cmpB_f]
      ((repeat ((conv => lhs; whnf); simp only [go_sem, simprocAttr, sem85_, c1, less8_o, c2, da, d, c3])); try (conv => lhs; whnf); try rfl)
    · exact absurd (by rw [da, d]) c3'
  have c3' : ¬ a.neg ≠ b.neg := by simpa using c3
  rw [if_neg c3', seqI_zero]
  by_cases c4 : cmpWords a.num b.num = 0
  case neg =>
    rw [seqI_ne c4]
    ((repeat ((conv => lhs; whnf); simp only [go_sem, simprocAttr, sem85_, c1, less8_o, c2, c3, hn, c4])); try (conv => lhs; whnf); try rfl)
  rw [c4, seqI_zero]
  by_cases c5 : cmpWords a.den b.den = 0
  case neg =>
    rw [seqI_ne c5]
    ((repeat ((conv => lhs; whnf); simp only [go_sem, simprocAttr, sem85_, c1, less8_o, c2, c3, hn, c4, hd, c5])); try (conv => lhs; whnf); try rfl)
  rw [c5, seqI_zero]
  by_cases hl : a.kids.length = b.kids.length
  · have h := loop_Compare8 a b ha hl (fun k hk m hm => ih k hk (ha.kids k hk) m (hb.kids m hm)) a.kids.length 0 (by omega)
    simp only [List.drop_zero] at h
    have h1 : (a.kids.length : Int) = (b.kids.length : Int) := by omega
    have h2 : cmpI (a.kids.length : Int) (b.kids.length : Int) = 0 := by rw [h1, cmpI_self]
    rw [h2, seqI_zero]
    ((repeat ((conv => lhs; whnf); simp only [go_sem, simprocAttr, sem85_, c1, less8_o, c2, c3, hn, c4, hd, c5, h2])); try (conv => lhs; whnf); try rfl)
    exact h
  · have h1 : ¬ (a.kids.length : Int) = (b.kids.length : Int) := by omega
    have h2 : ¬ cmpI (a.kids.length : Int) (b.kids.length : Int) = 0 := by rw [cmpI_ne h1]; exact cmpB_ne _
    rw [seqI_ne h2]
    ((repeat ((conv => lhs; whnf); simp only [go_sem, simprocAttr, sem85_, c1, less8_o, c2, c3, hn, c4, hd, c5, h2])); try (conv => lhs; whnf); try rfl)
noncomputable def fx39_ : FX := ⟨Tryz.f39, hints.of 39, []⟩
theorem ok39_ : fx39_.ok 39 := ⟨by kernel_rfl, of_decide_eq_true (by kernel_rfl), by kernel_rfl, by kernel_rfl, by kernel_rfl, by kernel_rfl⟩
theorem sem39_ (b0 : Nat) (m : Md) (fs : List Fr) (e : Env) (S : Store) : sem b0 fx39_ m fs e S = run b0 fx39_ 1000 m fs e S := (sem_eq _ _ _ _ _ _).trans (run_sem b0 fx39_ ok39_.good 1000 m fs e S).symm
theorem call_tEqual (a b : Node) (ha : a.ok) (hb : b.ok) : callL Tryz.prog hints 39 [.agg a.cells, .agg b.cells] = some (.bool (decide (a.cmp b = 0))) := by
  refine FX.callL (r := (.bool (decide (a.cmp b = 0)), [.arr [a.cells] none false, .arr [b.cells] none false])) ok39_ 1000 rfl rfl ?_ rfl
  have h := fun S => callN2 S (call_Compare a ha b hb)
  ((repeat ((conv => lhs; whnf); simp only [go_sem, simprocAttr, sem39_, h])); try (conv => lhs; whnf); try rfl)
theorem tEqual_o (S : Store) (a b : Node) (ha : a.ok) (hb : b.ok) : callO (callL Tryz.prog hints) S 39 [.agg a.cells, .agg b.cells] = some { v := .bool (decide (a.cmp b = 0)) } := callN2 S (call_tEqual a b ha hb)
noncomputable def fx43_ : FX := ⟨Tryz.f43, hints.of 43, []⟩
theorem ok43_ : fx43_.ok 43 := ⟨by kernel_rfl, of_decide_eq_true (by kernel_rfl), by kernel_rfl, by kernel_rfl, by kernel_rfl, by kernel_rfl⟩
theorem sem43_ (b0 : Nat) (m : Md) (fs : List Fr) (e : Env) (S : Store) : sem b0 fx43_ m fs e S = run b0 fx43_ 1000 m fs e S := (sem_eq _ _ _ _ _ _).trans (run_sem b0 fx43_ ok43_.good 1000 m fs e S).symm
theorem call_Equal8 (a b : Node) (ha : a.ok) (hb : b.ok) : callL Tryz.prog hints 43 [.agg a.cells, .agg b.cells] = some (.bool (decide (a.cmp b = 0))) := by
  refine FX.callL (r := (.bool (decide (a.cmp b = 0)), [.arr [a.cells] none false, .arr [b.cells] none false])) ok43_ 1000 rfl rfl ?_ rfl
  have h := fun S => callN2 S (call_Compare8 a ha b hb)
  ((repeat ((conv => lhs; whnf); simp only [go_sem, simprocAttr, sem43_, h])); try (conv => lhs; whnf); try rfl)
theorem Equal8_o (S : Store) (a b : Node) (ha : a.ok) (hb : b.ok) : callO (callL Tryz.prog hints) S 43 [.agg a.cells, .agg b.cells] = some { v := .bool (decide (a.cmp b = 0)) } := callN2 S (call_Equal8 a b ha hb)
end
end Go.Vs
end

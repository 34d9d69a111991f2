
import Derived.Test.YtkaeejkajfinhaaGreatMI16
import Derived.Test.YtkaeejkajfinhaaGreatMI19
import Derived.Test.YtkaeejkajfinhaaGreatMI20
section
set_option linter.unusedVariables false
set_option linter.unusedSimpArgs false
set_option maxRecDepth 100000
namespace Go.Vs
open Go Go.Proofs
section
attribute [local irreducible] Vs.callL Vs.callRL tyi callO callM callMV appendE storeE evLoad indexAddrO sliceO evFieldAddr evField buildO buildSliceO makeSliceO allocO boxed lenO copyE convertO indexO Vs.gc freezeAll
noncomputable def fx124_ : FX := ⟨Tryz.f124, hints.of 124, []⟩
theorem ok124_ : fx124_.ok 124 := ⟨by kernel_rfl, of_decide_eq_true (by kernel_rfl), by kernel_rfl, by kernel_rfl, by kernel_rfl, by kernel_rfl⟩
theorem sem124_ (b0 : Nat) (m : Md) (fs : List Fr) (e : Env) (S : Store) : sem b0 fx124_ m fs e S = run b0 fx124_ 1000 m fs e S := (sem_eq _ _ _ _ _ _).trans (run_sem b0 fx124_ ok124_.good 1000 m fs e S).symm
theorem loop_diffable (n : Node) (hn : n.ok) (ih : ∀ k ∈ n.kids, callL Tryz.prog hints 124 [.agg k.cells] = some (.bool k.diff)) : ∀ (m i : Nat), i + m = n.kids.length →
    ∃ S', loopAt 0 fx124_ 1 6884 1 [.blk 1, .seq 0 861, .blk 0, .seq 0 7] [(22, .sl (Node.rows n.kids) false), (23, .int .i64 n.kids.length), (24, .int .i64 i)] [.arr [n.cells] none false] = some (.bool (Node.diffs (n.kids.drop i)), S') := by
  intro m
  induction m with
  | zero =>
    intro i hi
    have h1 : ¬ (i : Int) < (n.kids.length : Int) := by omega
    rw [List.drop_of_length_le (by omega)]
    apply Exists.intro
    refine loopAt_step ok124_.good 1000 ?_
    ((repeat ((conv => lhs; whnf); simp only [go_sem, simprocAttr, sem124_, h1])); try (conv => lhs; whnf); try rfl)
    refine exit_run ok124_.good 1000 ?_
    unfold Node.diffs
    ((repeat ((conv => lhs; whnf); simp only [go_sem, simprocAttr, sem124_])); try (conv => lhs; whnf); try rfl)
  | succ m hm =>
    intro i hi
    have h1 : (i : Int) < (n.kids.length : Int) := by omega
    have h2 := wrap_succ (i := i) (n := n.kids.length) (by omega) hn.len
    have h4 : 0 ≤ (i : Int) ∧ (i : Int) < (n.kids.length : Int) := ⟨by omega, h1⟩
    have h5 := fun S => callN S (ih _ (kids_mem (l := n.kids) (i := i) (by omega)))
    obtain ⟨S', key⟩ := hm (i + 1) (by omega)
    have h7 : Node.diffs (n.kids.drop i) = ((n.kids.getD i nd0).diff && Node.diffs (n.kids.drop (i + 1))) := by rw [kids_drop (l := n.kids) (i := i) (by omega)]; rfl
    rw [h7]
    cases hd : (n.kids.getD i nd0).diff
    case false =>
      rw [hd] at h5
      rw [Bool.false_and]
      apply Exists.intro
      refine loopAt_step ok124_.good 1000 ?_
      ((repeat ((conv => lhs; whnf); simp only [go_sem, simprocAttr, sem124_, h1, h2, h4, h5])); try (conv => lhs; whnf); try rfl)
    case true =>
      rw [hd] at h5
      rw [Bool.true_and]
      refine ⟨S', ?_⟩
      refine loopAt_step ok124_.good 1000 ?_
      ((repeat ((conv => lhs; whnf); simp only [go_sem, simprocAttr, sem124_, h1, h2, h4, h5])); try (conv => lhs; whnf); try rfl)
      exact key
theorem call_diffable : ∀ n : Node, n.ok → callL Tryz.prog hints 124 [.agg n.cells] = some (.bool n.diff) := by
  refine Node.ind' fun n ih hn => ?_
  obtain ⟨S', h⟩ := loop_diffable n hn (fun k hk' => ih k hk' (hn.kids k hk')) n.kids.length 0 (by omega)
  rw [List.drop_zero] at h
  rw [Node.diff_eq]
  unfold diffLeaf
  by_cases e20 : n.op = 20
  · rw [e20]
    apply FX.callB2 ok124_ 1000 rfl rfl
    ((repeat ((conv => lhs; whnf); simp only [go_sem, simprocAttr, sem124_, e20])); try (conv => lhs; whnf); try rfl)
  by_cases e21 : n.op = 21
  · rw [e21]
    apply FX.callB2 ok124_ 1000 rfl rfl
    ((repeat ((conv => lhs; whnf); simp only [go_sem, simprocAttr, sem124_, e21])); try (conv => lhs; whnf); try rfl)
  by_cases e22 : n.op = 22
  · rw [e22]
    apply FX.callB2 ok124_ 1000 rfl rfl
    ((repeat ((conv => lhs; whnf); simp only [go_sem, simprocAttr, sem124_, e22])); try (conv => lhs; whnf); try rfl)
  by_cases e23 : n.op = 23
  · rw [e23]
    apply FX.callB2 ok124_ 1000 rfl rfl
    ((repeat ((conv => lhs; whnf); simp only [go_sem, simprocAttr, sem124_, e23])); try (conv => lhs; whnf); try rfl)
  by_cases e24 : n.op = 24
  · rw [e24]
    apply FX.callB2 ok124_ 1000 rfl rfl
    ((repeat ((conv => lhs; whnf); simp only [go_sem, simprocAttr, sem124_, e24])); try (conv => lhs; whnf); try rfl)
  by_cases e25 : n.op = 25
  · rw [e25]
    apply FX.callB2 ok124_ 1000 rfl rfl
    ((repeat ((conv => lhs; whnf); simp only [go_sem, simprocAttr, sem124_, e25])); try (conv => lhs; whnf); try rfl)
  by_cases e26 : n.op = 26
  · rw [e26]
    apply FX.callB2 ok124_ 1000 rfl rfl
    ((repeat ((conv => lhs; whnf); simp only [go_sem, simprocAttr, sem124_, e26])); try (conv => lhs; whnf); try rfl)
  by_cases e27 : n.op = 27
  · rw [e27]
    apply FX.callB2 ok124_ 1000 rfl rfl
    ((repeat ((conv => lhs; whnf); simp only [go_sem, simprocAttr, sem124_, e27])); try (conv => lhs; whnf); try rfl)
  by_cases e37 : n.op = 37
  · rw [e37]
    apply FX.callB2 ok124_ 1000 rfl rfl
    ((repeat ((conv => lhs; whnf); simp only [go_sem, simprocAttr, sem124_, e37])); try (conv => lhs; whnf); try rfl)
  by_cases e38 : n.op = 38
  · rw [e38]
    apply FX.callB2 ok124_ 1000 rfl rfl
    ((repeat ((conv => lhs; whnf); simp only [go_sem, simprocAttr, sem124_, e38])); try (conv => lhs; whnf); try rfl)
  by_cases e29 : n.op = 29
  · rw [e29]
    apply FX.callB2 ok124_ 1000 rfl rfl
    ((repeat ((conv => lhs; whnf); simp only [go_sem, simprocAttr, sem124_, e29])); try (conv => lhs; whnf); try rfl)
    exact h
  by_cases e30 : n.op = 30
  · rw [e30]
    apply FX.callB2 ok124_ 1000 rfl rfl
    ((repeat ((conv => lhs; whnf); simp only [go_sem, simprocAttr, sem124_, e30])); try (conv => lhs; whnf); try rfl)
    exact h
  have hf : (decide (n.op = 20) || decide (n.op = 21) || decide (22 ≤ n.op ∧ n.op ≤ 27) || decide (n.op = 37) || decide (n.op = 38) || ((decide (n.op = 29) || decide (n.op = 30)) && Node.diffs n.kids)) = false := by
    have : ¬ (22 ≤ n.op ∧ n.op ≤ 27) := by omega
    simp only [e20, e21, e37, e38, e29, e30, this, decide_false, Bool.or_self, Bool.false_and]
  rw [hf]
  apply FX.callB2 ok124_ 1000 rfl rfl
  ((repeat ((conv => lhs; whnf); simp only [go_sem, simprocAttr, sem124_, e20, e21, e22, e23, e24, e25, e26, e27, e37, e38, e29, e30])); try (conv => lhs; whnf); try rfl)
theorem diffable_o (S : Store) (n : Node) (h : n.ok) : callO (callL Tryz.prog hints) S 124 [.agg n.cells] = some { v := .bool n.diff } := callN S (call_diffable n h)
noncomputable def fx133_ : FX := ⟨Tryz.f133, hints.of 133, []⟩
theorem ok133_ : fx133_.ok 133 := ⟨by kernel_rfl, of_decide_eq_true (by kernel_rfl), by kernel_rfl, by kernel_rfl, by kernel_rfl, by kernel_rfl⟩
theorem sem133_ (b0 : Nat) (m : Md) (fs : List Fr) (e : Env) (S : Store) : sem b0 fx133_ m fs e S = run b0 fx133_ 1000 m fs e S := (sem_eq _ _ _ _ _ _).trans (run_sem b0 fx133_ ok133_.good 1000 m fs e S).symm
theorem loop_diff8 (n : Node) (hn : n.ok) (ih : ∀ k ∈ n.kids, callL Tryz.prog hints 133 [.agg k.cells] = some (.bool k.diff)) : ∀ (m i : Nat), i + m = n.kids.length →
    ∃ S', loopAt 0 fx133_ 1 3300 1 [.blk 1, .seq 0 413, .blk 0, .seq 0 7] [(1, .mp 0 0 0), (3, .int .i64 i)] [.arr [n.cells] none false] = some (.bool (Node.diffs (n.kids.drop i)), S') := by
  intro m
  induction m with
  | zero =>
    intro i hi
    have h1 : ¬ (i : Int) < (n.kids.length : Int) := by omega
    rw [List.drop_of_length_le (by omega)]
    apply Exists.intro
    refine loopAt_step ok133_.good 1000 ?_
    ((repeat ((conv => lhs; whnf); simp only [go_sem, simprocAttr, sem133_, h1])); try (conv => lhs; whnf); try rfl)
    refine exit_run ok133_.good 1000 ?_
    unfold Node.diffs
    ((repeat ((conv => lhs; whnf); simp only [go_sem, simprocAttr, sem133_])); try (conv => lhs; whnf); try rfl)
  | succ m hm =>
    intro i hi
    have h1 : (i : Int) < (n.kids.length : Int) := by omega
    have h2 := wrap_succ (i := i) (n := n.kids.length) (by omega) hn.len
    have h4 : 0 ≤ (i : Int) ∧ (i : Int) < (n.kids.length : Int) := ⟨by omega, h1⟩
    have h5 := fun S => callN S (ih _ (kids_mem (l := n.kids) (i := i) (by omega)))
    obtain ⟨S', key⟩ := hm (i + 1) (by omega)
    have h7 : Node.diffs (n.kids.drop i) = ((n.kids.getD i nd0).diff && Node.diffs (n.kids.drop (i + 1))) := by rw [kids_drop (l := n.kids) (i := i) (by omega)]; rfl
    rw [h7]
    cases hd : (n.kids.getD i nd0).diff
    case false =>
      rw [hd] at h5
      rw [Bool.false_and]
      apply Exists.intro
      refine loopAt_step ok133_.good 1000 ?_
      ((repeat ((conv => lhs; whnf); simp only [go_sem, simprocAttr, sem133_, h1, h2, h4, h5])); try (conv => lhs; whnf); try rfl)
    case true =>
      rw [hd] at h5
      rw [Bool.true_and]
      refine ⟨S', ?_⟩
      refine loopAt_step ok133_.good 1000 ?_
      ((repeat ((conv => lhs; whnf); simp only [go_sem, simprocAttr, sem133_, h1, h2, h4, h5])); try (conv => lhs; whnf); try rfl)
      exact key
theorem call_diff8 : ∀ n : Node, n.ok → callL Tryz.prog hints 133 [.agg n.cells] = some (.bool n.diff) := by
  refine Node.ind' fun n ih hn => ?_
  obtain ⟨S', h⟩ := loop_diff8 n hn (fun k hk' => ih k hk' (hn.kids k hk')) n.kids.length 0 (by omega)
  rw [List.drop_zero] at h
  rw [Node.diff_eq]
  unfold diffLeaf
  by_cases e20 : n.op = 20
  · rw [e20]
    apply FX.callB2 ok133_ 1000 rfl rfl
    ((repeat ((conv => lhs; whnf); simp only [go_sem, simprocAttr, sem133_, e20])); try (conv => lhs; whnf); try rfl)
  by_cases e21 : n.op = 21
  · rw [e21]
    apply FX.callB2 ok133_ 1000 rfl rfl
    ((repeat ((conv => lhs; whnf); simp only [go_sem, simprocAttr, sem133_, e21])); try (conv => lhs; whnf); try rfl)
  by_cases e22 : n.op = 22
  · rw [e22]
    apply FX.callB2 ok133_ 1000 rfl rfl
    ((repeat ((conv => lhs; whnf); simp only [go_sem, simprocAttr, sem133_, e22])); try (conv => lhs; whnf); try rfl)
  by_cases e23 : n.op = 23
  · rw [e23]
    apply FX.callB2 ok133_ 1000 rfl rfl
    ((repeat ((conv => lhs; whnf); simp only [go_sem, simprocAttr, sem133_, e23])); try (conv => lhs; whnf); try rfl)
  by_cases e24 : n.op = 24
  · rw [e24]
    apply FX.callB2 ok133_ 1000 rfl rfl
    ((repeat ((conv => lhs; whnf); simp only [go_sem, simprocAttr, sem133_, e24])); try (conv => lhs; whnf); try rfl)
  by_cases e25 : n.op = 25
  · rw [e25]
    apply FX.callB2 ok133_ 1000 rfl rfl
    ((repeat ((conv => lhs; whnf); simp only [go_sem, simprocAttr, sem133_, e25])); try (conv => lhs; whnf); try rfl)
  by_cases e26 : n.op = 26
  · rw [e26]
    apply FX.callB2 ok133_ 1000 rfl rfl
    ((repeat ((conv => lhs; whnf); simp only [go_sem, simprocAttr, sem133_, e26])); try (conv => lhs; whnf); try rfl)
  by_cases e27 : n.op = 27
  · rw [e27]
    apply FX.callB2 ok133_ 1000 rfl rfl
    ((repeat ((conv => lhs; whnf); simp only [go_sem, simprocAttr, sem133_, e27])); try (conv => lhs; whnf); try rfl)
  by_cases e37 : n.op = 37
  · rw [e37]
    apply FX.callB2 ok133_ 1000 rfl rfl
    ((repeat ((conv => lhs; whnf); simp only [go_sem, simprocAttr, sem133_, e37])); try (conv => lhs; whnf); try rfl)
  by_cases e38 : n.op = 38
  · rw [e38]
    apply FX.callB2 ok133_ 1000 rfl rfl
    ((repeat ((conv => lhs; whnf); simp only [go_sem, simprocAttr, sem133_, e38])); try (conv => lhs; whnf); try rfl)
  by_cases e29 : n.op = 29
  · rw [e29]
    apply FX.callB2 ok133_ 1000 rfl rfl
    ((repeat ((conv => lhs; whnf); simp only [go_sem, simprocAttr, sem133_, e29])); try (conv => lhs; whnf); try rfl)
    exact h
  by_cases e30 : n.op = 30
  · rw [e30]
    apply FX.callB2 ok133_ 1000 rfl rfl
    ((repeat ((conv => lhs; whnf); simp only [go_sem, simprocAttr, sem133_, e30])); try (conv => lhs; whnf); try rfl)
    exact h
  have hf : (decide (n.op = 20) || decide (n.op = 21) || decide (22 ≤ n.op ∧ n.op ≤ 27) || decide (n.op = 37) || decide (n.op = 38) || ((decide (n.op = 29) || decide (n.op = 30)) && Node.diffs n.kids)) = false := by
    have : ¬ (22 ≤ n.op ∧ n.op ≤ 27) := by omega
    simp only [e20, e21, e37, e38, e29, e30, this, decide_false, Bool.or_self, Bool.false_and]
  rw [hf]
  apply FX.callB2 ok133_ 1000 rfl rfl
  by_cases c1 : 22 ≤ n.op
  · have c2 : ¬ n.op ≤ 27 := by omega
    ((repeat ((conv => lhs; whnf); simp only [go_sem, simprocAttr, sem133_, e20, e21, c1, c2, e37, e38, e29, e30])); try (conv => lhs; whnf); try rfl)
  · ((repeat ((conv => lhs; whnf); simp only [go_sem, simprocAttr, sem133_, e20, e21, c1, e37, e38, e29, e30])); try (conv => lhs; whnf); try rfl)
theorem diff8_o (S : Store) (n : Node) (h : n.ok) : callO (callL Tryz.prog hints) S 133 [.agg n.cells] = some { v := .bool n.diff } := callN S (call_diff8 n h)
noncomputable def fx159_ : FX := ⟨Tryz.f159, hints.of 159, []⟩
theorem ok159_ : fx159_.ok 159 := ⟨by kernel_rfl, of_decide_eq_true (by kernel_rfl), by kernel_rfl, by kernel_rfl, by kernel_rfl, by kernel_rfl⟩
theorem sem159_ (b0 : Nat) (m : Md) (fs : List Fr) (e : Env) (S : Store) : sem b0 fx159_ m fs e S = run b0 fx159_ 1000 m fs e S := (sem_eq _ _ _ _ _ _).trans (run_sem b0 fx159_ ok159_.good 1000 m fs e S).symm
theorem loop_primed8 (n : Node) (hn : n.ok) (ih : ∀ k ∈ n.kids, callL Tryz.prog hints 159 [.agg k.cells] = some (.bool k.primed)) : ∀ (m i : Nat), i + m = n.kids.length →
    ∃ S', loopAt 0 fx159_ 0 116 1 [.blk 0, .seq 0 15] [(1, .mp 0 0 0), (3, .int .i64 i)] [.arr [n.cells] none false] = some (.bool (Node.primeds (n.kids.drop i)), S') := by
  intro m
  induction m with
  | zero =>
    intro i hi
    have h1 : ¬ (i : Int) < (n.kids.length : Int) := by omega
    rw [List.drop_of_length_le (by omega)]
    apply Exists.intro
    refine loopAt_step ok159_.good 1000 ?_
    ((repeat ((conv => lhs; whnf); simp only [go_sem, simprocAttr, sem159_, h1])); try (conv => lhs; whnf); try rfl)
    refine exit_run ok159_.good 1000 ?_
    unfold Node.primeds
    ((repeat ((conv => lhs; whnf); simp only [go_sem, simprocAttr, sem159_])); try (conv => lhs; whnf); try rfl)
  | succ m hm =>
    intro i hi
    have h1 : (i : Int) < (n.kids.length : Int) := by omega
    have h2 := wrap_succ (i := i) (n := n.kids.length) (by omega) hn.len
    have h4 : 0 ≤ (i : Int) ∧ (i : Int) < (n.kids.length : Int) := ⟨by omega, h1⟩
    have h5 := fun S => callN S (ih _ (kids_mem (l := n.kids) (i := i) (by omega)))
    obtain ⟨S', key⟩ := hm (i + 1) (by omega)
    have h7 : Node.primeds (n.kids.drop i) = ((n.kids.getD i nd0).primed || Node.primeds (n.kids.drop (i + 1))) := by rw [kids_drop (l := n.kids) (i := i) (by omega)]; rfl
    rw [h7]
    cases hd : (n.kids.getD i nd0).primed
    case true =>
      rw [hd] at h5
      rw [Bool.true_or]
      apply Exists.intro
      refine loopAt_step ok159_.good 1000 ?_
      ((repeat ((conv => lhs; whnf); simp only [go_sem, simprocAttr, sem159_, h1, h2, h4, h5])); try (conv => lhs; whnf); try rfl)
    case false =>
      rw [hd] at h5
      rw [Bool.false_or]
      refine ⟨S', ?_⟩
      refine loopAt_step ok159_.good 1000 ?_
      ((repeat ((conv => lhs; whnf); simp only [go_sem, simprocAttr, sem159_, h1, h2, h4, h5])); try (conv => lhs; whnf); try rfl)
      exact key
theorem call_primed8 : ∀ n : Node, n.ok → callL Tryz.prog hints 159 [.agg n.cells] = some (.bool n.primed) := by
  refine Node.ind' fun n ih hn => ?_
  obtain ⟨S', h⟩ := loop_primed8 n hn (fun k hk' => ih k hk' (hn.kids k hk')) n.kids.length 0 (by omega)
  rw [List.drop_zero] at h
  rw [Node.primed_eq]
  by_cases e3 : n.op = 3
  · rw [e3]
    apply FX.callB2 ok159_ 1000 rfl rfl
    ((repeat ((conv => lhs; whnf); simp only [go_sem, simprocAttr, sem159_, e3])); try (conv => lhs; whnf); try rfl)
  by_cases e12 : n.op = 12
  · rw [e12]
    apply FX.callB2 ok159_ 1000 rfl rfl
    ((repeat ((conv => lhs; whnf); simp only [go_sem, simprocAttr, sem159_, e12])); try (conv => lhs; whnf); try rfl)
  by_cases e39 : n.op = 39
  · rw [e39]
    apply FX.callB2 ok159_ 1000 rfl rfl
    ((repeat ((conv => lhs; whnf); simp only [go_sem, simprocAttr, sem159_, e39])); try (conv => lhs; whnf); try rfl)
  have hf : ((decide (n.op = 3) || (decide (n.op = 12) || decide (n.op = 39))) || Node.primeds n.kids) = Node.primeds n.kids := by simp only [e3, e12, e39, decide_false, Bool.or_self, Bool.false_or]
  rw [hf]
  apply FX.callB2 ok159_ 1000 rfl rfl
  ((repeat ((conv => lhs; whnf); simp only [go_sem, simprocAttr, sem159_, e3, e12, e39])); try (conv => lhs; whnf); try rfl)
  exact h
theorem primed8_o (S : Store) (n : Node) (h : n.ok) : callO (callL Tryz.prog hints) S 159 [.agg n.cells] = some { v := .bool n.primed } := callN S (call_primed8 n h)
end
end Go.Vs
end
section
set_option linter.unusedVariables false
set_option linter.unusedSimpArgs false
set_option maxRecDepth 100000
namespace Go.Vs
open Go Go.Proofs
section
attribute [local irreducible] Vs.callL Vs.callRL tyi callO callM callMV appendE storeE evLoad indexAddrO sliceO evFieldAddr evField buildO buildSliceO makeSliceO allocO boxed lenO copyE convertO indexO Vs.gc freezeAll
noncomputable def fx77_ : FX := ⟨Tryz.f77, hints.of 77, []⟩
theorem ok77_ : fx77_.ok 77 := ⟨by kernel_rfl, of_decide_eq_true (by kernel_rfl), by kernel_rfl, by kernel_rfl, by kernel_rfl, by kernel_rfl⟩
theorem sem77_ (b0 : Nat) (m : Md) (fs : List Fr) (e : Env) (S : Store) : sem b0 fx77_ m fs e S = run b0 fx77_ 1000 m fs e S := (sem_eq _ _ _ _ _ _).trans (run_sem b0 fx77_ ok77_.good 1000 m fs e S).symm
theorem call_Sort (n : Int) : callL Tryz.prog hints 77 [.int .i64 n] = some (.int .i64 (sortOf n)) := by
  refine FX.callL (r := (.int .i64 (sortOf n), [])) ok77_ 1000 rfl rfl ?_ rfl
  by_cases h1 : 1 ≤ n <;> by_cases h2 : n ≤ 13 <;> by_cases h3 : 20 ≤ n <;> (try (exfalso; omega)) <;> by_cases h4 : n ≤ 39 <;> (try (exfalso; omega)) <;> by_cases h5 : n = 55 <;> (try (exfalso; omega)) <;> by_cases h6 : n = 56 <;> (try (exfalso; omega)) <;> by_cases h7 : 50 ≤ n <;> (try (exfalso; omega)) <;> by_cases h8 : n ≤ 62 <;> (try (exfalso; omega)) <;>
    (simp only [sortOf, h1, h2, h3, h4, h5, h6, h7, h8, and_self, and_true, true_and, and_false, false_and, or_self, or_true, true_or, or_false, false_or, if_true, if_false, Int.reduceLE, Int.reduceEq, Int.reduceLT, reduceCtorEq]; ((repeat ((conv => lhs; whnf); simp only [go_sem, simprocAttr, sem77_, h1, h2, h3, h4, h5, h6, h7, h8])); try (conv => lhs; whnf); try rfl))
noncomputable def fx12_ : FX := ⟨Tryz.f12, hints.of 12, []⟩
theorem ok12_ : fx12_.ok 12 := ⟨by kernel_rfl, of_decide_eq_true (by kernel_rfl), by kernel_rfl, by kernel_rfl, by kernel_rfl, by kernel_rfl⟩
theorem sem12_ (b0 : Nat) (m : Md) (fs : List Fr) (e : Env) (S : Store) : sem b0 fx12_ m fs e S = run b0 fx12_ 1000 m fs e S := (sem_eq _ _ _ _ _ _).trans (run_sem b0 fx12_ ok12_.good 1000 m fs e S).symm
theorem call_Sort8 (n : Int) : callL Tryz.prog hints 12 [.int .i64 n] = some (.int .i64 (sortOf n)) := by
  refine FX.callL (r := (.int .i64 (sortOf n), [])) ok12_ 1000 rfl rfl ?_ rfl
  by_cases h1 : 1 ≤ n <;> by_cases h2 : n ≤ 13 <;> by_cases h3 : 20 ≤ n <;> (try (exfalso; omega)) <;> by_cases h4 : n ≤ 39 <;> (try (exfalso; omega)) <;> by_cases h5 : n = 55 <;> (try (exfalso; omega)) <;> by_cases h6 : n = 56 <;> (try (exfalso; omega)) <;> by_cases h7 : 50 ≤ n <;> (try (exfalso; omega)) <;> by_cases h8 : n ≤ 62 <;> (try (exfalso; omega)) <;>
    (simp only [sortOf, h1, h2, h3, h4, h5, h6, h7, h8, and_self, and_true, true_and, and_false, false_and, or_self, or_true, true_or, or_false, false_or, if_true, if_false, Int.reduceLE, Int.reduceEq, Int.reduceLT, reduceCtorEq]; ((repeat ((conv => lhs; whnf); simp only [go_sem, simprocAttr, sem12_, h1, h2, h3, h4, h5, h6, h7, h8])); try (conv => lhs; whnf); try rfl))
theorem Sort_o (S : Store) (n : Int) : callO (callL Tryz.prog hints) S 77 [.int .i64 n] = some { v := .int .i64 (sortOf n) } := callO_plain (call_Sort n) (by simp [Plain.int])
theorem Sort8_o (S : Store) (n : Int) : callO (callL Tryz.prog hints) S 12 [.int .i64 n] = some { v := .int .i64 (sortOf n) } := callO_plain (call_Sort8 n) (by simp [Plain.int])
noncomputable def fx17_ : FX := ⟨Tryz.f17, hints.of 17, []⟩
theorem ok17_ : fx17_.ok 17 := ⟨by kernel_rfl, of_decide_eq_true (by kernel_rfl), by kernel_rfl, by kernel_rfl, by kernel_rfl, by kernel_rfl⟩
theorem sem17_ (b0 : Nat) (m : Md) (fs : List Fr) (e : Env) (S : Store) : sem b0 fx17_ m fs e S = run b0 fx17_ 1000 m fs e S := (sem_eq _ _ _ _ _ _).trans (run_sem b0 fx17_ ok17_.good 1000 m fs e S).symm
theorem loop_Size (n : Node) (hn : n.ok) (ih : ∀ k ∈ n.kids, callL Tryz.prog hints 17 [.agg k.cells] = some (.int .i64 k.size)) : ∀ (m i : Nat), i + m = n.kids.length → ∀ (a : Int),
    loopAt 0 fx17_ 0 116 1 [.blk 0, .seq 0 15] [(1, .mp 0 0 0), (3, .int .i64 a), (4, .int .i64 i)] [.arr [n.cells] none false] = some (.int .i64 (Node.sizes a (n.kids.drop i)), [.arr [n.cells] none false]) := by
  intro m
  induction m with
  | zero =>
    intro i hi a
    have h1 : ¬ (i : Int) < (n.kids.length : Int) := by omega
    rw [List.drop_of_length_le (by omega)]
    refine loopAt_step ok17_.good 1000 ?_
    ((repeat ((conv => lhs; whnf); simp only [go_sem, simprocAttr, sem17_, h1])); try (conv => lhs; whnf); try rfl)
    refine exit_run ok17_.good 1000 ?_
    unfold Node.sizes
    ((repeat ((conv => lhs; whnf); simp only [go_sem, simprocAttr, sem17_])); try (conv => lhs; whnf); try rfl)
  | succ m hm =>
    intro i hi a
    have h1 : (i : Int) < (n.kids.length : Int) := by omega
    have h2 := wrap_succ (i := i) (n := n.kids.length) (by omega) hn.len
    have h4 : 0 ≤ (i : Int) ∧ (i : Int) < (n.kids.length : Int) := ⟨by omega, h1⟩
    have h5 := fun S => callN S (ih _ (kids_mem (l := n.kids) (i := i) (by omega)))
    have key := hm (i + 1) (by omega) (IntKind.i64.wrap (a + (n.kids.getD i nd0).size))
    rw [kids_drop (l := n.kids) (i := i) (by omega)]
    refine loopAt_step ok17_.good 1000 ?_
    ((repeat ((conv => lhs; whnf); simp only [go_sem, simprocAttr, sem17_, h1, h2, h4, h5])); try (conv => lhs; whnf); try rfl)
    exact key
theorem call_Size : ∀ n : Node, n.ok → callL Tryz.prog hints 17 [.agg n.cells] = some (.int .i64 n.size) := by
  refine Node.ind' fun n ih hn => ?_
  have h := loop_Size n hn (fun k hk' => ih k hk' (hn.kids k hk')) n.kids.length 0 (by omega) 1
  rw [List.drop_zero, Node.size_eq] at h
  refine FX.callL (r := (.int .i64 n.size, [.arr [n.cells] none false])) ok17_ 1000 rfl rfl ?_ rfl
  ((repeat ((conv => lhs; whnf); simp only [go_sem, simprocAttr, sem17_])); try (conv => lhs; whnf); try rfl)
  exact h
noncomputable def fx86_ : FX := ⟨Tryz.f86, hints.of 86, []⟩
theorem ok86_ : fx86_.ok 86 := ⟨by kernel_rfl, of_decide_eq_true (by kernel_rfl), by kernel_rfl, by kernel_rfl, by kernel_rfl, by kernel_rfl⟩
theorem sem86_ (b0 : Nat) (m : Md) (fs : List Fr) (e : Env) (S : Store) : sem b0 fx86_ m fs e S = run b0 fx86_ 1000 m fs e S := (sem_eq _ _ _ _ _ _).trans (run_sem b0 fx86_ ok86_.good 1000 m fs e S).symm
theorem loop_Levels (n : Node) (hn : n.ok) (ih : ∀ k ∈ n.kids, callL Tryz.prog hints 86 [.agg k.cells] = some (.int .i64 k.levels)) : ∀ (m i : Nat), i + m = n.kids.length → ∀ (a : Int),
    loopAt 0 fx86_ 0 116 1 [.blk 0, .seq 0 15] [(1, .mp 0 0 0), (3, .int .i64 a), (4, .int .i64 i)] [.arr [n.cells] none false] = some (.int .i64 (IntKind.i64.wrap (Node.most a (n.kids.drop i) + 1)), [.arr [n.cells] none false]) := by
  intro m
  induction m with
  | zero =>
    intro i hi a
    have h1 : ¬ (i : Int) < (n.kids.length : Int) := by omega
    rw [List.drop_of_length_le (by omega)]
    refine loopAt_step ok86_.good 1000 ?_
    ((repeat ((conv => lhs; whnf); simp only [go_sem, simprocAttr, sem86_, h1])); try (conv => lhs; whnf); try rfl)
    refine exit_run ok86_.good 1000 ?_
    unfold Node.most
    ((repeat ((conv => lhs; whnf); simp only [go_sem, simprocAttr, sem86_])); try (conv => lhs; whnf); try rfl)
  | succ m hm =>
    intro i hi a
    have h1 : (i : Int) < (n.kids.length : Int) := by omega
    have h2 := wrap_succ (i := i) (n := n.kids.length) (by omega) hn.len
    have h4 : 0 ≤ (i : Int) ∧ (i : Int) < (n.kids.length : Int) := ⟨by omega, h1⟩
    have h5 := fun S => callN S (ih _ (kids_mem (l := n.kids) (i := i) (by omega)))
    have key := hm (i + 1) (by omega) (if a < (n.kids.getD i nd0).levels then (n.kids.getD i nd0).levels else a)
    rw [kids_drop (l := n.kids) (i := i) (by omega)]
    refine loopAt_step ok86_.good 1000 ?_
    ((repeat ((conv => lhs; whnf); simp only [go_sem, simprocAttr, sem86_, h1, h2, h4, h5])); try (conv => lhs; whnf); try rfl)
    exact key
theorem call_Levels : ∀ n : Node, n.ok → callL Tryz.prog hints 86 [.agg n.cells] = some (.int .i64 n.levels) := by
  refine Node.ind' fun n ih hn => ?_
  have h := loop_Levels n hn (fun k hk' => ih k hk' (hn.kids k hk')) n.kids.length 0 (by omega) 0
  rw [List.drop_zero, Node.levels_eq] at h
  refine FX.callL (r := (.int .i64 n.levels, [.arr [n.cells] none false])) ok86_ 1000 rfl rfl ?_ rfl
  ((repeat ((conv => lhs; whnf); simp only [go_sem, simprocAttr, sem86_])); try (conv => lhs; whnf); try rfl)
  exact h
end
end Go.Vs
end
section
set_option linter.unusedVariables false
set_option linter.unusedSimpArgs false
set_option maxRecDepth 100000
namespace Go.Vs
open Go Go.Proofs
def Flat (S : Store) : Prop := ∀ o ∈ S, ∃ rows g f, o = .arr rows g f ∧ rowsRefs rows = []
theorem Flat.held : ∀ {S : Store}, Flat S → ∀ n m, heldBelow n m S = true
  | [], _, n, m => by cases m <;> rfl
  | o :: S, h, n, 0 => rfl
  | o :: S, h, n, m + 1 => by
    obtain ⟨rows, g, f, rfl, h1⟩ := h o (by simp)
    simp only [heldBelow, h1, List.all_nil, Bool.true_and]
    exact Flat.held (fun x hx => h x (by simp [hx])) n m
theorem Flat.closed {S : Store} (h : Flat S) : closedS S = true := by
  simp only [closedS, List.all_eq_true]
  intro o ho
  obtain ⟨rows, g, f, rfl, h1⟩ := h o ho
  simp only [h1, List.all_nil]
theorem Flat.nil : Flat [] := fun o h => by cases h
theorem Flat.cons {rows : List (List PV)} {g : Option (Option Nat)} {f : Bool} {S : Store} (h : rowsRefs rows = []) (hS : Flat S) : Flat (.arr rows g f :: S) := fun o ho => by
  rcases List.mem_cons.1 ho with rfl | ho
  · exact ⟨_, _, _, rfl, h⟩
  · exact hS o ho
theorem Flat.app {S T : Store} (h : Flat S) (k : Flat T) : Flat (S ++ T) := fun o ho => by
  rcases List.mem_append.1 ho with ho | ho
  · exact h o ho
  · exact k o ho
theorem Flat.gc {S G : Store} (hS : Flat S) {n : Nat} (hn : n = S.length) {e : Env} (he : seenBelow n e = true) : Vs.gc n e (S ++ G) = S := by
  subst hn
  have e1 : Vs.gc S.length e (S ++ G) = if seenBelow S.length e = true ∧ heldBelow S.length S.length (S ++ G) = true then (S ++ G).take S.length else S ++ G := by
    rw [← seenBelow_eq, ← heldBelow_eq]; rfl
  have e2 : heldBelow S.length S.length (S ++ G) = true := by
    rw [← heldBelow_eq, List.take_left]
    simp only [List.all_eq_true]
    intro o ho
    obtain ⟨rows, g, f, rfl, h1⟩ := hS o ho
    simp only [h1, List.all_nil]
  rw [e1, if_pos ⟨he, e2⟩, List.take_left]
theorem node_flat (n : Node) : rowsRefs [n.cells] = [] := by
  show refsL n.cells ++ [] = []
  rw [Node.refs]; rfl
theorem rowsAt_tail (T U : Store) : rowsAt (T ++ U) T.length = rowsAt U 0 := by
  simp only [rowsAt]
  rw [List.getElem?_append_right (Nat.le_refl _), Nat.sub_self]
theorem nilCheck_mp (a b c : Nat) : nilCheckO (.mp a b c) = some (.mp a b c) := rfl
theorem alloc_int (id : Nat) : allocO (tyi Tryz.prog 3) id = some { v := .mp id 0 0, new := some ([[.int .i64 0]], none) } := by
  have e : (tyi Tryz.prog 3).zero = some [.int .i64 0] := by kernel_rfl
  simp [allocO, e, PV.cell]
def st2 (a b : Obj) (T : Store) : Store := a :: b :: T
theorem st2_len (a b : Obj) (T : Store) : (st2 a b T).length = T.length + 2 := rfl
theorem st2_app (a b : Obj) (T U : Store) : st2 a b T ++ U = st2 a b (T ++ U) := rfl
theorem st2_flat {ra rb : List (List PV)} {g g' : Option (Option Nat)} {f f' : Bool} (hr : rowsRefs ra = []) (hb : rowsRefs rb = []) {T : Store} (hT : Flat T) : Flat (st2 (.arr ra g f) (.arr rb g' f') T) := .cons hr (.cons hb hT)
theorem st2_at1 (a : Obj) (rb : List (List PV)) (g : Option (Option Nat)) (f : Bool) (T : Store) : rowsAt (st2 a (.arr rb g f) T) 1 = some rb := rfl
theorem st2_tail (a b : Obj) (T U : Store) : rowsAt (st2 a b (T ++ U)) (T.length + 2) = rowsAt U 0 := rowsAt_tail T U
theorem st2_evStore1 (n : Nat) (a : Obj) (row : List PV) (g : Option (Option Nat)) (T : Store) (off : Nat) (v : PV) (h : off + n ≤ row.length) (hv : v.cells.length = n) (hc : v.cells.all PV.cell = true) : evStore n (st2 a (.arr [row] g false) T) (.mp 1 0 off) v = some (st2 a (.arr [splice row off v.cells] g false) T) := by
  simp only [st2, evStore_succ, evStore_zero]
  simp [h, hv, hc]
theorem st2_store1 {ti : TI} (a : Obj) (row : List PV) (g : Option (Option Nat)) (T : Store) (off : Nat) (v : PV) (hk : ti.known = true) (h : off + ti.size ≤ row.length) (hv : v.cells.length = ti.size) (hc : v.cells.all PV.cell = true) : storeE ti (st2 a (.arr [row] g false) T) (.mp 1 0 off) v = some { v := .skip, S := st2 a (.arr [splice row off v.cells] g false) T } := by
  rw [storeE_eq, if_pos hk, st2_evStore1 _ _ _ _ _ _ _ h hv hc]
  rfl
theorem st2_storeT {ti : TI} (a b : Obj) (T : Store) (r : List PV) (v : PV) (hk : ti.known = true) (hs : ti.size = r.length) (hv : v.cells.length = r.length) (hc : v.cells.all PV.cell = true) (U : Store) : storeE ti (st2 a b (T ++ .arr [r] none false :: U)) (.mp (T.length + 2) 0 0) v = some { v := .skip, S := st2 a b (T ++ .arr [v.cells] none false :: U) } := by
  have key : ∀ T : Store, evStore ti.size (T ++ .arr [r] none false :: U) (.mp T.length 0 0) v = some (T ++ .arr [v.cells] none false :: U) := by
    intro T
    induction T with
    | nil =>
      rw [List.nil_append, hs]
      simp [evStore_zero, hv, hc, splice_if]
    | cons o T ih =>
      rw [List.cons_append, List.length_cons, evStore_succ, ih]
      rfl
  rw [storeE_eq, if_pos hk]
  have : evStore ti.size (st2 a b (T ++ .arr [r] none false :: U)) (.mp (T.length + 2) 0 0) v = (some (st2 a b (T ++ .arr [v.cells] none false :: U))) := by
    show evStore ti.size (_ :: _ :: (T ++ .arr [r] none false :: U)) (.mp (T.length + 1 + 1) 0 0) v = _
    rw [evStore_succ, evStore_succ, key]
    rfl
  rw [this]
  rfl
theorem st2_node (a b : Obj) (T : Store) (n : Node) : storeE (tyi Tryz.prog 30) (st2 a b (T ++ [.arr [[.int .i64 0, .str ⟨#[]⟩, .bool false, .sl [] true, .sl [] true, .sl [] true]] none false])) (.mp (T.length + 2) 0 0) (.agg n.cells) = some { v := .skip, S := st2 a b (T ++ [.arr [n.cells] none false]) } :=
  st2_storeT a b T [.int .i64 0, .str ⟨#[]⟩, .bool false, .sl [] true, .sl [] true, .sl [] true] (.agg n.cells) known_Nd size_Nd (Node.cells_length n) (Node.cells_cell n) []
theorem st2_gc {a b : Obj} {T G : Store} (h : Flat (st2 a b T)) {e : Env} (he : seenBelow (T.length + 2) e = true) : Vs.gc (T.length + 2) e (st2 a b (T ++ G)) = st2 a b T := h.gc rfl he
theorem st2_gc0 {a b : Obj} {T : Store} (e : Env) : Vs.gc (T.length + 2) e (st2 a b T) = st2 a b T := gc_le (Nat.le_refl _)
abbrev wSt (ra : List (List PV)) (left : Int) (T : Store) : Store := st2 (.arr ra none false) (.arr [[.int .i64 left]] none false) T
theorem wSt_store (ra : List (List PV)) (left x : Int) (T : Store) : storeE (tyi Tryz.prog 3) (st2 (.arr ra none false) (.arr [[.int .i64 left]] none false) T) (.mp 1 0 0) (.int .i64 x) = some { v := .skip, S := st2 (.arr ra none false) (.arr [[.int .i64 x]] none false) T } :=
  st2_store1 _ [.int .i64 left] none T 0 (.int .i64 x) kn_int (by rw [sz_int]; exact Nat.le_refl _) (by rw [sz_int]; rfl) rfl
theorem withins_nil (left lv : Int) : Node.withins [] left lv = (true, left) := rfl
theorem part_int1 (v : PV) (r : List PV) : part (tyi Tryz.prog 3) (v :: r) = some v := by
  have e : (tyi Tryz.prog 3).isAgg = false := by kernel_rfl
  simp [part, kn_int, e]
section
attribute [local irreducible] Vs.callL Vs.callRL tyi callO callM callMV appendE storeE evLoad indexAddrO sliceO evFieldAddr evField buildO buildSliceO makeSliceO allocO boxed lenO copyE convertO indexO Vs.gc freezeAll
noncomputable def fx76_ : FX := ⟨Tryz.f76, hints.of 76, []⟩
theorem ok76_ : fx76_.ok 76 := ⟨by kernel_rfl, of_decide_eq_true (by kernel_rfl), by kernel_rfl, by kernel_rfl, by kernel_rfl, by kernel_rfl⟩
theorem sem76_ (b0 : Nat) (m : Md) (fs : List Fr) (e : Env) (S : Store) : sem b0 fx76_ m fs e S = run b0 fx76_ 1000 m fs e S := (sem_eq _ _ _ _ _ _).trans (run_sem b0 fx76_ ok76_.good 1000 m fs e S).symm
theorem loop_within (n : Node) (hn : n.ok) (lv : Int) (hlv : 0 ≤ lv ∧ lv ≤ 1000) (b : Nat) (ra : List (List PV)) (hr : rowsRefs ra = []) (T : Store) (hT : Flat T)
    (ih : ∀ k ∈ n.kids, ∀ (left : Int), (0 ≤ left ∧ left ≤ 100000) → ∀ T : Store, Flat T → ∃ G, callRL Tryz.prog hints 76 [.agg k.cells, .mp 1 0 0, .int .i64 lv] (wSt ra left T) = some (.bool (k.within left lv).1, wSt ra (k.within left lv).2 (T ++ G))) :
    ∀ (m i : Nat), i + m = n.kids.length → ∀ (left : Int), (0 ≤ left ∧ left ≤ 100000) →
      ∃ G, loopAt b fx76_ 0 244 (T.length + 2) [.blk 0, .seq 0 31] [(1, .mp 1 0 0), (2, .int .i64 (lv + 1)), (23, .sl (Node.rows n.kids) false), (24, .int .i64 n.kids.length), (25, .int .i64 i)] (wSt ra left T) =
        some (.bool (Node.withins (n.kids.drop i) left lv).1, wSt ra (Node.withins (n.kids.drop i) left lv).2 (T ++ G)) := by
  have c1 : 1 < T.length + 2 := by omega
  intro m
  induction m with
  | zero =>
    intro i hi left hleft
    have h1 : ¬ (i : Int) < (n.kids.length : Int) := by omega
    rw [List.drop_of_length_le (by omega), withins_nil]
    refine ⟨[], ?_⟩
    rw [List.append_nil]
    refine loopAt_step ok76_.good 1000 ?_
    ((repeat ((conv => lhs; whnf); simp only [go_sem, simprocAttr, sem76_, h1, st2_gc0])); try (conv => lhs; whnf); try rfl)
    refine exit_run ok76_.good 1000 ?_
    ((repeat ((conv => lhs; whnf); simp only [go_sem, simprocAttr, sem76_])); try (conv => lhs; whnf); try rfl)
  | succ m hm =>
    intro i hi left hleft
    have h1 : (i : Int) < (n.kids.length : Int) := by omega
    have h2 := wrap_succ (i := i) (n := n.kids.length) (by omega) hn.len
    have h3 : IntKind.i64.wrap (lv + 1 - 1) = lv := by rw [IntKind.wrap_i64]; omega
    have h4 : 0 ≤ (i : Int) ∧ (i : Int) < (n.kids.length : Int) := ⟨by omega, h1⟩
    have hT' : Flat (T ++ [.arr [(n.kids.getD i nd0).cells] none false]) := hT.app (.cons (node_flat _) .nil)
    have hgc := fun left G e he => st2_gc (a := .arr ra none false) (b := .arr [[.int .i64 left]] none false) (T := T) (G := G) (st2_flat hr rfl hT) (e := e) he
    obtain ⟨G, hG⟩ := ih _ (kids_mem (l := n.kids) (i := i) (by omega)) left hleft _ hT'
    have hc := callM_eq (by kernel_rfl) hG (by rw [st2_len, st2_len]; simp) (st2_flat hr rfl hT').closed (by simp [belowL, refsL_cons, refsL_nil, refs_agg, Node.refs, refs_mp, refs_int, st2_len])
    rw [List.append_assoc] at hc
    have hrange := within_range (n.kids.getD i nd0) left lv hleft.1
    rw [withins_drop (by omega)]
    cases hok : ((n.kids.getD i nd0).within left lv).1 with
    | true =>
      rw [hok] at hc
      obtain ⟨G', hG'⟩ := hm (i + 1) (by omega) ((n.kids.getD i nd0).within left lv).2 ⟨hrange.2.2 hok, by omega⟩
      refine ⟨G', ?_⟩
      rw [if_pos rfl]
      refine loopAt_step ok76_.good 1000 ?_
      ((repeat ((conv => lhs; whnf); simp only [go_sem, simprocAttr, sem76_, h1, h2, h3, h4, hc, st2_gc0, hgc, st2_len, st2_app, nilCheck_mp, st2_tail, st2_at1, st2_node, c1])); try (conv => lhs; whnf); try rfl)
      exact hG'
    | false =>
      rw [hok] at hc
      refine ⟨.arr [(n.kids.getD i nd0).cells] none false :: G, ?_⟩
      rw [if_neg (by simp)]
      refine loopAt_step ok76_.good 1000 ?_
      ((repeat ((conv => lhs; whnf); simp only [go_sem, simprocAttr, sem76_, h1, h2, h3, h4, hc, st2_gc0, hgc, st2_len, st2_app, nilCheck_mp, st2_tail, st2_at1, st2_node, c1])); try (conv => lhs; whnf); try rfl)
theorem call_within : ∀ n : Node, n.ok → ∀ (lv left : Int), (0 ≤ lv ∧ lv ≤ 1000) → (0 ≤ left ∧ left ≤ 100000) → ∀ (ra : List (List PV)), rowsRefs ra = [] → ∀ (T : Store), Flat T →
    ∃ G, callRL Tryz.prog hints 76 [.agg n.cells, .mp 1 0 0, .int .i64 lv] (wSt ra left T) = some (.bool (n.within left lv).1, wSt ra (n.within left lv).2 (T ++ G)) := by
  refine Node.ind' fun n ih hn lv left hlv hleft ra hr T hT => ?_
  have hw : IntKind.i64.wrap (left - 1) = left - 1 := by rw [IntKind.wrap_i64]; omega
  have hT' : Flat (T ++ [.arr [n.cells] none false]) := hT.app (.cons (node_flat _) .nil)
  rw [Node.within_eq]
  by_cases h1 : left - 1 < 0
  · refine ⟨[.arr [n.cells] none false], ?_⟩
    rw [if_pos (.inl h1)]
    refine FX.callRL ok76_ 1000 rfl rfl ?_
    ((repeat ((conv => lhs; whnf); simp only [go_sem, simprocAttr, sem76_, hw, h1, st2_len, st2_app, st2_at1, wSt_store, nilCheck_mp, part_int1])); try (conv => lhs; whnf); try rfl)
  by_cases h2 : lv ≤ 0
  · refine ⟨[.arr [n.cells] none false], ?_⟩
    rw [if_pos (.inr h2)]
    refine FX.callRL ok76_ 1000 rfl rfl ?_
    ((repeat ((conv => lhs; whnf); simp only [go_sem, simprocAttr, sem76_, hw, h1, h2, st2_len, st2_app, st2_at1, wSt_store, nilCheck_mp, part_int1])); try (conv => lhs; whnf); try rfl)
  · obtain ⟨G, hG⟩ := loop_within n hn (lv - 1) (by omega) (T.length + 2) ra hr _ hT' (fun k hk left hl T hT => ih k hk (hn.kids k hk) (lv - 1) left (by omega) hl ra hr T hT) n.kids.length 0 (by omega) (left - 1) (by omega)
    have e1 : lv - 1 + 1 = lv := by omega
    rw [e1, List.append_assoc] at hG
    simp only [List.drop_zero] at hG
    refine ⟨.arr [n.cells] none false :: G, ?_⟩
    rw [if_neg (fun h => h.elim h1 h2)]
    refine FX.callRL ok76_ 1000 rfl rfl ?_
    ((repeat ((conv => lhs; whnf); simp only [go_sem, simprocAttr, sem76_, hw, h1, h2, st2_len, st2_app, st2_at1, wSt_store, nilCheck_mp, part_int1, st2_tail, st2_gc0])); try (conv => lhs; whnf); try rfl)
    exact hG
end
end Go.Vs
end
section
set_option linter.unusedVariables false
set_option linter.unusedSimpArgs false
set_option maxRecDepth 100000
namespace Go.Vs
open Go Go.Proofs
theorem d_Plc : (tyi Tryz.prog 112).d = .struct [(0, 1, false), (1, 1, false), (2, 1, false)] := by kernel_rfl
@[go_sem] theorem size_Plc : (tyi Tryz.prog 112).size = 3 := nr (by kernel_rfl)
@[go_sem] theorem known_Plc : (tyi Tryz.prog 112).known = true := nr (by kernel_rfl)
@[go_sem] theorem zero_Plc : (tyi Tryz.prog 112).zero = some [.bool false, .bool false, .bool false] := nr (by kernel_rfl)
@[go_sem] theorem alloc_Plc (n : Nat) : allocO (tyi Tryz.prog 112) n = some { v := .mp n 0 0, new := some ([[.bool false, .bool false, .bool false]], none) } := nr (by unfold allocO; rw [zero_Plc]; rfl)
@[go_sem] theorem build_Plc (l : List (Nat × PV)) : buildO (tyi Tryz.prog 112) l = (fillV [(0, 1, false), (1, 1, false), (2, 1, false)] [.bool false, .bool false, .bool false] l).map .agg := nr (by unfold buildO; rw [d_Plc, zero_Plc]; rfl)
@[go_sem] theorem fm_Plc_0 (id i off : Nat) : evFieldAddr (tyi Tryz.prog 112) 0 (.mp id i off) = some (.mp id i (off + 0)) := by simp [evFieldAddr, d_Plc]
@[go_sem] theorem fk_Plc_0 (r : List PV) : evFieldAddr (tyi Tryz.prog 112) 0 (.cp r) = some (.cp (r.drop 0)) := by simp [evFieldAddr, d_Plc]
@[go_sem] theorem fv_Plc_0 (cs : List PV) : evField (tyi Tryz.prog 112) 0 (.agg cs) = cs[0]? := by simp [evField, d_Plc]
@[go_sem] theorem fm_Plc_1 (id i off : Nat) : evFieldAddr (tyi Tryz.prog 112) 1 (.mp id i off) = some (.mp id i (off + 1)) := by simp [evFieldAddr, d_Plc]
@[go_sem] theorem fk_Plc_1 (r : List PV) : evFieldAddr (tyi Tryz.prog 112) 1 (.cp r) = some (.cp (r.drop 1)) := by simp [evFieldAddr, d_Plc]
@[go_sem] theorem fv_Plc_1 (cs : List PV) : evField (tyi Tryz.prog 112) 1 (.agg cs) = cs[1]? := by simp [evField, d_Plc]
@[go_sem] theorem fm_Plc_2 (id i off : Nat) : evFieldAddr (tyi Tryz.prog 112) 2 (.mp id i off) = some (.mp id i (off + 2)) := by simp [evFieldAddr, d_Plc]
@[go_sem] theorem fk_Plc_2 (r : List PV) : evFieldAddr (tyi Tryz.prog 112) 2 (.cp r) = some (.cp (r.drop 2)) := by simp [evFieldAddr, d_Plc]
@[go_sem] theorem fv_Plc_2 (cs : List PV) : evField (tyi Tryz.prog 112) 2 (.agg cs) = cs[2]? := by simp [evField, d_Plc]
def placeCells (a b c : Bool) : List PV := [.bool a, .bool b, .bool c]
theorem placeCells_plain (a b c : Bool) : Plain (.agg (placeCells a b c)) := ⟨rfl, fun _ => rfl⟩
@[go_sem] theorem part_Plc (x y z : PV) (r : List PV) : part (tyi Tryz.prog 112) (x :: y :: z :: r) = some (.agg [x, y, z]) := by simp [part, known_Plc, TI.isAgg, d_Plc, size_Plc]
theorem idx_i64 (S : Store) (L : List Int) (ex : Bool) (i : Int) : indexAddrO Tryz.prog 59 S (.sl (kRows .i64 L) ex) (.int .i64 i) = if 0 ≤ i ∧ i < L.length then some (.cp [.int .i64 (L.getD i.toNat 0)]) else none := sl_ints.idxk .i64 S L ex i
def f2 (n : Node) (a b c : Bool) (T : Store) : Store := st2 (.arr [n.cells] none false) (.arr [placeCells a b c] none false) T
theorem f2_flat (n : Node) (a b c : Bool) {T : Store} (hT : Flat T) : Flat (f2 n a b c T) := st2_flat (node_flat n) rfl hT
theorem f2_len (n : Node) (a b c : Bool) (T : Store) : (f2 n a b c T).length = T.length + 2 := rfl
theorem f2_app (n : Node) (a b c : Bool) (T U : Store) : f2 n a b c T ++ U = f2 n a b c (T ++ U) := rfl
theorem f2_at0 (n : Node) (a b c : Bool) (T : Store) : rowsAt (f2 n a b c T) 0 = some [n.cells] := rfl
theorem f2_at1 (n : Node) (a b c : Bool) (T : Store) : rowsAt (f2 n a b c T) 1 = some [[.bool a, .bool b, .bool c]] := rfl
theorem f2_tail (n : Node) (a b c : Bool) (T U : Store) : rowsAt (f2 n a b c (T ++ U)) (T.length + 2) = rowsAt U 0 := rowsAt_tail T U
theorem f2_node (n : Node) (a b c : Bool) (T : Store) (k : Node) : storeE (tyi Tryz.prog 30) (f2 n a b c (T ++ [.arr [[.int .i64 0, .str ⟨#[]⟩, .bool false, .sl [] true, .sl [] true, .sl [] true]] none false])) (.mp (T.length + 2) 0 0) (.agg k.cells) = some { v := .skip, S := f2 n a b c (T ++ [.arr [k.cells] none false]) } := st2_node _ _ T k
theorem f2_gc {n : Node} {a b c : Bool} {T : Store} (hT : Flat T) (G : Store) {e : Env} (he : seenBelow (T.length + 2) e = true) : Vs.gc (T.length + 2) e (f2 n a b c (T ++ G)) = f2 n a b c T := st2_gc (f2_flat n a b c hT) he
theorem f2_gc0 (n : Node) (a b c : Bool) (T : Store) (e : Env) : Vs.gc (T.length + 2) e (f2 n a b c T) = f2 n a b c T := st2_gc0 e
theorem formed_head (n : Node) (a b c : Bool) : n.formed a b c = (headOK n.op n.name n.neg n.num n.den && n.rest a b c) := by rw [Node.formed_eq]; rfl
section
attribute [local irreducible] Vs.callL Vs.callRL tyi callO callM callMV appendE storeE evLoad indexAddrO sliceO evFieldAddr evField buildO buildSliceO makeSliceO allocO boxed lenO copyE convertO indexO Vs.gc freezeAll
noncomputable def fx78_ : FX := ⟨Tryz.f78, hints.of 78, []⟩
theorem ok78_ : fx78_.ok 78 := ⟨by kernel_rfl, of_decide_eq_true (by kernel_rfl), by kernel_rfl, by kernel_rfl, by kernel_rfl, by kernel_rfl⟩
theorem sem78_ (b0 : Nat) (m : Md) (fs : List Fr) (e : Env) (S : Store) : sem b0 fx78_ m fs e S = run b0 fx78_ 1000 m fs e S := (sem_eq _ _ _ _ _ _).trans (run_sem b0 fx78_ ok78_.good 1000 m fs e S).symm
theorem tail_formed (n : Node) (a b c : Bool) (T : Store) (h2 : n.op = 8 ∨ n.op = 9 → n.kids.length = 2) :
    ∃ S', exitTo 0 fx78_ 7 [.blk 7, .seq 0 255] [(2, .mp 0 0 0), (3, .undef), (6, .undef), (208, .undef), (209, .undef), (210, .undef), (211, .undef)] (f2 n a b c T) = some (.bool (tailOK n.op n.kids), S') := by
  unfold tailOK
  by_cases h8 : n.op = 8
  · have h1 : (n.kids.length : Int) = 2 := by have := h2 (.inl h8); omega
    rw [if_pos h8]
    generalize hk : n.kids.getD 1 nd0 = k
    apply Exists.intro
    refine exit_run ok78_.good 1000 ?_
    by_cases e1 : k.op = 1
    · by_cases e2 : 0 < k.num.length
      · have e2' : 0 < (k.num.length : Int) := by omega
        rw [decide_eq_true e1, decide_eq_true e2, Bool.and_self]
        ((repeat ((conv => lhs; whnf); simp only [go_sem, simprocAttr, sem78_, f2_at0, h8, h1, hk, e1, e2'])); try (conv => lhs; whnf); try rfl)
      · have e2' : ¬ 0 < (k.num.length : Int) := by omega
        rw [decide_eq_true e1, decide_eq_false e2, Bool.and_false]
        ((repeat ((conv => lhs; whnf); simp only [go_sem, simprocAttr, sem78_, f2_at0, h8, h1, hk, e1, e2'])); try (conv => lhs; whnf); try rfl)
    · rw [decide_eq_false e1, Bool.false_and]
      ((repeat ((conv => lhs; whnf); simp only [go_sem, simprocAttr, sem78_, f2_at0, h8, h1, hk, e1])); try (conv => lhs; whnf); try rfl)
  by_cases h9 : n.op = 9
  · have h1 : (n.kids.length : Int) = 2 := by have := h2 (.inr h9); omega
    rw [if_neg h8, if_pos h9]
    generalize hk : n.kids.getD 1 nd0 = k
    generalize hw : k.num.getD 0 0 = w
    apply Exists.intro
    refine exit_run ok78_.good 1000 ?_
    by_cases e1 : k.op = 1
    · rw [decide_eq_true e1, Bool.true_and]
      by_cases e2 : k.num.length = 0
      · have e2' : (k.num.length : Int) = 0 := by omega
        rw [decide_eq_true e2, Bool.true_or]
        ((repeat ((conv => lhs; whnf); simp only [go_sem, simprocAttr, sem78_, f2_at0, h8, h9, h1, hk, e1, e2, e2', f2_len, f2_app, f2_node, f2_tail])); try (conv => lhs; whnf); try rfl)
      · have e2' : ¬ (k.num.length : Int) = 0 := by omega
        rw [decide_eq_false e2, Bool.false_or]
        by_cases e3 : k.num.length = 1
        · have e3' : (k.num.length : Int) = 1 := by omega
          rw [decide_eq_true e3, Bool.true_and]
          by_cases e5 : w ≤ 20
          · rw [decide_eq_true e5]
            ((repeat ((conv => lhs; whnf); simp only [go_sem, simprocAttr, sem78_, f2_at0, h8, h9, h1, hk, e1, e2, e2', e3, e3', hw, e5, f2_len, f2_app, f2_node, f2_tail])); try (conv => lhs; whnf); try rfl)
          · rw [decide_eq_false e5]
            ((repeat ((conv => lhs; whnf); simp only [go_sem, simprocAttr, sem78_, f2_at0, h8, h9, h1, hk, e1, e2, e2', e3, e3', hw, e5, f2_len, f2_app, f2_node, f2_tail])); try (conv => lhs; whnf); try rfl)
        · have e3' : ¬ (k.num.length : Int) = 1 := by omega
          rw [decide_eq_false e3, Bool.false_and]
          ((repeat ((conv => lhs; whnf); simp only [go_sem, simprocAttr, sem78_, f2_at0, h8, h9, h1, hk, e1, e2, e2', e3, e3', f2_len, f2_app, f2_node, f2_tail])); try (conv => lhs; whnf); try rfl)
    · rw [decide_eq_false e1, Bool.false_and]
      ((repeat ((conv => lhs; whnf); simp only [go_sem, simprocAttr, sem78_, f2_at0, h8, h9, h1, hk, e1, f2_len, f2_app, f2_node, f2_tail])); try (conv => lhs; whnf); try rfl)
  · rw [if_neg h8, if_neg h9]
    apply Exists.intro
    refine exit_run ok78_.good 1000 ?_
    ((repeat ((conv => lhs; whnf); simp only [go_sem, simprocAttr, sem78_, f2_at0, h8, h9])); try (conv => lhs; whnf); try rfl)
theorem callFormed {k : Node} {a b c v : Bool} (S : Store) (h : callL Tryz.prog hints 78 [.agg k.cells, .agg (placeCells a b c)] = some (.bool v)) : callO (callL Tryz.prog hints) S 78 [.agg k.cells, .agg [.bool a, .bool b, .bool c]] = some { v := .bool v } := callO_plain h (by simp [Node.plain]; exact placeCells_plain a b c)
theorem loop_formed (n : Node) (hn : n.ok) (a b c : Bool) (s : List Int) (hs : s.length = n.kids.length) (e : Bool) (he : e = false ∨ s = []) (h2 : n.op = 8 ∨ n.op = 9 → n.kids.length = 2)
    (ih : ∀ k ∈ n.kids, callL Tryz.prog hints 78 [.agg k.cells, .agg (placeCells a b c)] = some (.bool (k.formed a b c))) (T : Store) (hT : Flat T) :
    ∀ (m i : Nat), i + m = n.kids.length → ∃ S', loopAt 0 fx78_ 7 2036 (T.length + 2) [.blk 7, .seq 0 255] [(2, .mp 0 0 0), (3, .mp 1 0 0), (6, .sl (kRows .i64 s) e), (208, .sl (Node.rows n.kids) false), (209, .int .i64 n.kids.length), (210, .int .i64 i)] (f2 n a b c T) =
      some (.bool (Node.formeds (n.kids.drop i) (s.drop i) a b c && tailOK n.op n.kids), S') := by
  have d0 : 0 < T.length + 2 := by omega
  have d1 : 1 < T.length + 2 := by omega
  have hz : ∀ S, fzPV S (.sl (kRows .i64 s) e) = some (.sl (kRows .i64 s) e) := fun S => by
    rcases he with rfl | rfl
    · simp only [go_sem]
    · cases e <;> simp only [kRows_nil, go_sem]
  intro m
  induction m with
  | zero =>
    intro i hi
    have h1 : ¬ (i : Int) < (n.kids.length : Int) := by omega
    obtain ⟨S', hS'⟩ := tail_formed n a b c T h2
    rw [List.drop_of_length_le (by omega)]
    refine ⟨S', ?_⟩
    refine loopAt_step ok78_.good 1000 ?_
    unfold Node.formeds
    rw [Bool.true_and]
    ((repeat ((conv => lhs; whnf); simp only [go_sem, simprocAttr, sem78_, h1, f2_gc0, hz])); try (conv => lhs; whnf); try rfl)
    exact hS'
  | succ m hm =>
    intro i hi
    have h1 : (i : Int) < (n.kids.length : Int) := by omega
    have h1' : (i : Int) < (s.length : Int) := by omega
    have h4 : (0 : Int) ≤ (i : Int) := by omega
    have h3 := wrap_succ (i := i) (n := n.kids.length) (by omega) hn.len
    have h5 := fun S => callFormed S (ih _ (kids_mem (l := n.kids) (i := i) (by omega)))
    have hgc := fun G e he => f2_gc (n := n) (a := a) (b := b) (c := c) hT G (e := e) he
    rw [formeds_drop (by omega)]
    obtain ⟨S', h6⟩ := hm (i + 1) (by omega)
    by_cases c1 : sortOf (n.kids.getD i nd0).op = s.getD i 0
    · cases c2 : (n.kids.getD i nd0).formed a b c with
      | true =>
        rw [c2] at h5
        rw [decide_eq_true c1, Bool.true_and, Bool.true_and]
        refine ⟨S', ?_⟩
        refine loopAt_step ok78_.good 1000 ?_
        ((repeat ((conv => lhs; whnf); simp only [go_sem, simprocAttr, sem78_, h1, h1', h3, h4, f2_gc0, hgc, hz, f2_len, f2_app, f2_node, f2_tail, f2_at1, f2_at0, Sort_o, c1, idx_i64, Int.toNat_natCast, h5, d0, d1])); try (conv => lhs; whnf); try rfl)
        exact h6
      | false =>
        rw [c2] at h5
        rw [decide_eq_true c1, Bool.false_and, Bool.and_false, Bool.false_and]
        apply Exists.intro
        refine loopAt_step ok78_.good 1000 ?_
        ((repeat ((conv => lhs; whnf); simp only [go_sem, simprocAttr, sem78_, h1, h1', h3, h4, f2_gc0, hgc, hz, f2_len, f2_app, f2_node, f2_tail, f2_at1, f2_at0, Sort_o, c1, idx_i64, Int.toNat_natCast, h5, d0, d1])); try (conv => lhs; whnf); try rfl)
    · rw [decide_eq_false c1, Bool.false_and, Bool.false_and]
      apply Exists.intro
      refine loopAt_step ok78_.good 1000 ?_
      ((repeat ((conv => lhs; whnf); simp only [go_sem, simprocAttr, sem78_, h1, h1', h3, h4, f2_gc0, hgc, hz, f2_len, f2_app, f2_node, f2_tail, f2_at1, f2_at0, Sort_o, c1, idx_i64, Int.toNat_natCast, d0, d1])); try (conv => lhs; whnf); try rfl)
end
end Go.Vs
end
section
set_option linter.unusedVariables false
set_option linter.unusedSimpArgs false
set_option maxRecDepth 100000
namespace Go.Vs
open Go Go.Proofs
def StOk (L : List Bd) : Prop := ∀ b ∈ L, b.ok
theorem StOk.at {L : List Bd} (h : StOk L) {i : Nat} (hi : i < L.length) : (L.getD i bd0).ok := by
  rw [List.getD_eq_getElem?_getD, List.getElem?_eq_getElem hi]
  exact h _ (List.getElem_mem hi)
section
attribute [local irreducible] Vs.callL Vs.callRL tyi callO callM callMV appendE storeE evLoad indexAddrO sliceO evFieldAddr evField buildO buildSliceO makeSliceO allocO boxed lenO copyE convertO indexO Vs.gc freezeAll
end
end Go.Vs
end
section
set_option linter.unusedVariables false
set_option linter.unusedSimpArgs false
set_option maxRecDepth 100000
namespace Go.Vs
open Go Go.Proofs
section
attribute [local irreducible] Vs.callL Vs.callRL tyi callO callM callMV appendE storeE evLoad indexAddrO sliceO evFieldAddr evField buildO buildSliceO makeSliceO allocO boxed lenO copyE convertO indexO Vs.gc freezeAll
end
end Go.Vs
end
section
set_option linter.unusedVariables false
set_option linter.unusedSimpArgs false
set_option maxRecDepth 100000
namespace Go.Vs
open Go Go.Proofs
@[go_sem] theorem cv_uint_int (S : Store) (k : IntKind) (n : Int) : convertO Tryz.prog 143 3 S (.int k n) = some (.int .i64 (IntKind.i64.wrap n)) := by
  simp [convertO, show (tyi Tryz.prog 143).known = true by kernel_rfl, evConvert, show (tyi Tryz.prog 3).d = .int .i64 by kernel_rfl]
theorem callMV_fn {S : Store} {f : FuncId} {a b xs : List PV} : callMV Tryz.prog hints S (.fn f a b) xs = callM Tryz.prog hints S f (a ++ xs ++ b) := rfl
section
attribute [local irreducible] Vs.callL Vs.callRL tyi callO callM callMV appendE storeE evLoad indexAddrO sliceO evFieldAddr evField buildO buildSliceO makeSliceO allocO boxed lenO copyE convertO indexO Vs.gc freezeAll
noncomputable def fx82_ : FX := ⟨Tryz.f82, hints.of 82, []⟩
theorem ok82_ : fx82_.ok 82 := ⟨by kernel_rfl, of_decide_eq_true (by kernel_rfl), by kernel_rfl, by kernel_rfl, by kernel_rfl, by kernel_rfl⟩
theorem sem82_ (b0 : Nat) (m : Md) (fs : List Fr) (e : Env) (S : Store) : sem b0 fx82_ m fs e S = run b0 fx82_ 1000 m fs e S := (sem_eq _ _ _ _ _ _).trans (run_sem b0 fx82_ ok82_.good 1000 m fs e S).symm
end
end Go.Vs
end
section
set_option linter.unusedVariables false
set_option linter.unusedSimpArgs false
set_option maxRecDepth 100000
namespace Go.Vs
open Go Go.Proofs
section
attribute [local irreducible] Vs.callL Vs.callRL tyi callO callM callMV appendE storeE evLoad indexAddrO sliceO evFieldAddr evField buildO buildSliceO makeSliceO allocO boxed lenO copyE convertO indexO Vs.gc freezeAll
end
end Go.Vs
end
section
set_option linter.unusedVariables false
set_option linter.unusedSimpArgs false
set_option maxRecDepth 100000
namespace Go.Vs
open Go Go.Proofs
theorem bytesLess_irrefl : ∀ a, Op.bytesLess a a = false
  | [] => rfl
  | a :: r => by simp [Op.bytesLess, bytesLess_irrefl r]
theorem bytesLess_trans : ∀ a b c, Op.bytesLess a b = true → Op.bytesLess b c = true → Op.bytesLess a c = true
  | _, [], _, h, _ => by simp [Op.bytesLess] at h
  | _, _ :: _, [], _, h => by simp [Op.bytesLess] at h
  | [], _ :: _, _ :: _, _, _ => rfl
  | a :: x, b :: y, c :: z, h, k => by
    simp only [Op.bytesLess, Bool.or_eq_true, Bool.and_eq_true, beq_iff_eq, decide_eq_true_eq, UInt8.lt_iff_toNat_lt] at h k ⊢
    rcases h with h | ⟨rfl, h⟩
    · rcases k with k | ⟨rfl, k⟩
      · left; omega
      · left; exact h
    · rcases k with k | ⟨rfl, k⟩
      · left; exact k
      · right; exact ⟨rfl, bytesLess_trans x y z h k⟩
def before (a b : ByteArray) : Prop := Op.bytesLess a.toList b.toList = true
theorem before.trans {a b c : ByteArray} (h : before a b) (k : before b c) : before a c := bytesLess_trans _ _ _ h k
theorem before.ne {a b : ByteArray} (h : before a b) : a.toList ≠ b.toList := fun e => by
  unfold before at h
  rw [e, bytesLess_irrefl] at h
  cases h
structure Bd.good (b : Bd) : Prop where
  var : varOK b.name = true
  some : b.val.num.length ≠ 0
  fit : b.val.fit = true
theorem getD_lt {α : Type} {L : List α} {d : α} {i : Nat} (h : i < L.length) : L.getD i d = L[i] := by
  rw [List.getD_eq_getElem?_getD, List.getElem?_eq_getElem h, Option.getD_some]
end Go.Vs
end
section
set_option linter.unusedVariables false
set_option linter.unusedSimpArgs false
set_option maxRecDepth 100000
namespace Go.Vs
open Go Go.Proofs
section
attribute [local irreducible] Vs.callL Vs.callRL tyi callO callM callMV appendE storeE evLoad indexAddrO sliceO evFieldAddr evField buildO buildSliceO makeSliceO allocO boxed lenO copyE convertO indexO Vs.gc freezeAll
end
end Go.Vs
end
section
set_option linter.unusedVariables false
set_option linter.unusedSimpArgs false
set_option maxRecDepth 100000
namespace Go.Vs
open Go Go.Proofs
section
attribute [local irreducible] Vs.callL Vs.callRL tyi callO callM callMV appendE storeE evLoad indexAddrO sliceO evFieldAddr evField buildO buildSliceO makeSliceO allocO boxed lenO copyE convertO indexO Vs.gc freezeAll
end
end Go.Vs
end
section
set_option linter.unusedVariables false
set_option linter.unusedSimpArgs false
set_option maxRecDepth 100000
namespace Go.Vs
open Go Go.Proofs
@[go_sem] theorem build_st (id n : Nat) (is : List Nat) (rows : List (List PV)) : buildSliceO Tryz.prog 35 id n is rows = if is = List.range n ∧ rowsOK 4 rows = true ∧ (rows.all fun r => r.all PV.cell) = true ∧ n * 4 ≤ 16777216 then some { v := .msl id 0 n true, new := some (rows, some (some 4)) } else none := sl_st.buildSlice (by decide) id n is rows
theorem Bd.refs (b : Bd) : rowsRefs [b.cells] = [] := rfl
theorem RV.refs (v : RV) : rowsRefs [v.cells] = [] := rfl
theorem killObj_flat {rows : List (List PV)} {g : Option (Option Nat)} {f : Bool} {l : List Nat} (h : rowsRefs rows = []) : killObj l (.arr rows g f) = .arr rows g f := by
  simp only [killObj, killRows, h, List.any_nil, Bool.false_eq_true, if_false]
end Go.Vs
end

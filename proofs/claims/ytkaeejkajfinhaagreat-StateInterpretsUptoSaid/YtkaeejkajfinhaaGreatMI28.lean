import Derived.Shelf.Strings.Builder1
import Derived.Test.YtkaeejkajfinhaaGreatChecked
import Derived.Test.YtkaeejkajfinhaaGreatMI12
import Derived.Test.YtkaeejkajfinhaaGreatMI21
import Derived.Test.YtkaeejkajfinhaaGreatMI27
section
set_option linter.unusedVariables false
set_option linter.unusedSimpArgs false
set_option maxRecDepth 100000
namespace Go.Vs
open Go Go.Proofs
def twiceR (I : List Pr) (i : Nat) (p : Pr) : Bool := (I.take i).any fun q => decide (p.what.cmp q.what = 0)
def withR (p : Pr) : Bool := if p.what.op = 10 ∨ p.what.op = 11 then decide (p.wth.check 1 = 0) else if p.what.op = 37 ∨ p.what.op = 38 then decide (p.wth.check 2 = 0) && !p.wth.has isModal else false
def okR (I : List Pr) (i : Nat) (p : Pr) : Bool :=
  p.what.isSymbol && (decide (p.rates.length = 0) && (!twiceR I i p && (withR p && (!p.wth.has isSym && (!p.wth.has (isOp 12) && (!p.wth.has (isOp 3) && !(decide (p.what.kids.length = 0) && p.wth.has (isOp 13))))))))
def okRs (I : List Pr) : Nat → Nat → Bool
  | 0, _ => true
  | m + 1, i => okR I i (I.getD i pr0) && okRs I m (i + 1)
section
attribute [local irreducible] Vs.callL Vs.callRL tyi callO callM callMV appendE storeE evLoad indexAddrO sliceO evFieldAddr evField buildO buildSliceO makeSliceO allocO boxed lenO copyE convertO indexO Vs.gc freezeAll
noncomputable def fx11_ : FX := ⟨Tryz.f11, hints.of 11, []⟩
theorem ok11_ : fx11_.ok 11 := ⟨by kernel_rfl, of_decide_eq_true (by kernel_rfl), by kernel_rfl, by kernel_rfl, by kernel_rfl, by kernel_rfl⟩
theorem sem11_ (b0 : Nat) (m : Md) (fs : List Fr) (e : Env) (S : Store) : sem b0 fx11_ m fs e S = run b0 fx11_ 1000 m fs e S := (sem_eq _ _ _ _ _ _).trans (run_sem b0 fx11_ ok11_.good 1000 m fs e S).symm
theorem loop2_CheckR (I : List Pr) (hI : ∀ p ∈ I, p.ok) (hl : I.length ≤ 60) (i : Nat) (hi : i < I.length) (fs : List Fr) : ∀ (m j : Nat), j + m = i →
    ((((I.take i).drop j).any fun q => decide ((I.getD i pr0).what.cmp q.what = 0)) = false → ∀ z, exitTo 0 fx11_ 2 fs [(0, .sl (prRows I) false), (3, .int .i64 i), (4, .mp 0 0 0), (5, .mp 1 0 0), (6, .undef), (33, .undef)] [.arr [(I.getD i pr0).cells] none false, .arr [(I.getD i pr0).what.cells] none false] = some z →
      loopAt 0 fx11_ 2 119412 2 fs [(0, .sl (prRows I) false), (3, .int .i64 i), (4, .mp 0 0 0), (5, .mp 1 0 0), (6, .int .i64 j)] [.arr [(I.getD i pr0).cells] none false, .arr [(I.getD i pr0).what.cells] none false] = some z) ∧
    ((((I.take i).drop j).any fun q => decide ((I.getD i pr0).what.cmp q.what = 0)) = true → ∃ S',
      loopAt 0 fx11_ 2 119412 2 fs [(0, .sl (prRows I) false), (3, .int .i64 i), (4, .mp 0 0 0), (5, .mp 1 0 0), (6, .int .i64 j)] [.arr [(I.getD i pr0).cells] none false, .arr [(I.getD i pr0).what.cells] none false] = some (.int .i64 3, S')) := by
  intro m
  induction m with
  | zero =>
    intro j hj
    have h1 : ¬ (j : Int) < (i : Int) := by omega
    have e0 : ((I.take i).drop j) = [] := List.drop_of_length_le (by simp; omega)
    rw [e0]
    refine ⟨fun _ z hz => ?_, fun h => by simp at h⟩
    refine loopAt_step ok11_.good 1000 ?_
    ((repeat ((conv => lhs; whnf); simp only [go_sem, simprocAttr, sem11_, h1])); try (conv => lhs; whnf); try rfl)
    exact hz
  | succ m hm =>
    intro j hj
    have h1 : (j : Int) < (i : Int) := by omega
    have h2 := wrap_succ (i := j) (n := I.length) (by omega) (by unfold maxLen; omega)
    have h3 : 0 ≤ (j : Int) ∧ (j : Int) < (I.length : Int) := ⟨by omega, by omega⟩
    have hp := hI _ (prs_mem (I := I) (i := i) hi)
    have hq := hI _ (prs_mem (I := I) (i := j) (by omega))
    have hE := fun S => Equal8_o S _ _ hp.what hq.what
    obtain ⟨k1, k2⟩ := hm (j + 1) (by omega)
    rw [prs_take_drop (I := I) (i := i) (j := j) (by omega) (by omega), List.any_cons]
    generalize hK : I.getD i pr0 = K at *
    by_cases c : K.what.cmp (I.getD j pr0).what = 0
    · refine ⟨fun h => by (rw [decide_eq_true c, Bool.true_or] at h; cases h), fun _ => ?_⟩
      apply Exists.intro
      refine loopAt_step ok11_.good 1000 ?_
      ((repeat ((conv => lhs; whnf); simp only [go_sem, simprocAttr, sem11_, h1, h2, h3, Int.toNat_natCast, hE, c])); try (conv => lhs; whnf); try rfl)
    · rw [decide_eq_false c, Bool.false_or]
      refine ⟨fun h z hz => ?_, fun h => ?_⟩
      · refine loopAt_step ok11_.good 1000 ?_
        ((repeat ((conv => lhs; whnf); simp only [go_sem, simprocAttr, sem11_, h1, h2, h3, Int.toNat_natCast, hE, c])); try (conv => lhs; whnf); try rfl)
        exact k1 h z hz
      · obtain ⟨S', k⟩ := k2 h
        refine ⟨S', loopAt_step ok11_.good 1000 ?_⟩
        ((repeat ((conv => lhs; whnf); simp only [go_sem, simprocAttr, sem11_, h1, h2, h3, Int.toNat_natCast, hE, c])); try (conv => lhs; whnf); try rfl)
        exact k
theorem pre_CheckR (I : List Pr) (hI : ∀ p ∈ I, p.ok) (hl : I.length ≤ 60) (i : Nat) (hi : i < I.length) (K : Pr) (hK : I.getD i pr0 = K) :
    (K.what.isSymbol && (decide (K.rates.length = 0) && !twiceR I i K)) = false ∧ (∃ S', loopAt 0 fx11_ 0 116 0 [.blk 0, .seq 0 15] [(0, .sl (prRows I) false), (3, .int .i64 i)] [] = some (.int .i64 3, S')) ∨
    (K.what.isSymbol && (decide (K.rates.length = 0) && !twiceR I i K)) = true ∧ ∀ z, (∀ fs, fs = [Fr.blk 2, .seq 1 14927, .blk 1, .seq 0 467, .lop 0 116 0, .blk 0, .seq 0 15] → exitTo 0 fx11_ 2 fs [(0, .sl (prRows I) false), (3, .int .i64 i), (4, .mp 0 0 0), (5, .mp 1 0 0), (6, .undef), (33, .undef)] [.arr [K.cells] none false, .arr [K.what.cells] none false] = some z) → loopAt 0 fx11_ 0 116 0 [.blk 0, .seq 0 15] [(0, .sl (prRows I) false), (3, .int .i64 i)] [] = some z := by
  have h1 : (i : Int) < (I.length : Int) := by omega
  have h4 : 0 ≤ (i : Int) ∧ (i : Int) < (I.length : Int) := ⟨by omega, h1⟩
  have hp : K.ok := hK ▸ hI _ (prs_mem (I := I) (i := i) (by omega))
  have L2 := fun fs => loop2_CheckR I hI hl i (by omega) fs i 0 (by omega)
  simp only [List.drop_zero, hK] at L2
  have hS := fun S => IsSymbol_o S K.what hp.what
  cases c1 : K.what.isSymbol
  · rw [c1] at hS
    left
    refine ⟨by simp, ?_⟩
    apply Exists.intro
    refine loopAt_step ok11_.good 1000 ?_
    ((repeat ((conv => lhs; whnf); simp only [go_sem, simprocAttr, sem11_, h1, h4, Int.toNat_natCast, hK, alloc_Pair, alloc_Nd, hS])); try (conv => lhs; whnf); try rfl)
  rw [c1] at hS
  by_cases c2 : K.rates.length = 0
  case neg =>
    have c2' : 0 < (K.rates.length : Int) := by omega
    left
    refine ⟨by simp [c2], ?_⟩
    apply Exists.intro
    refine loopAt_step ok11_.good 1000 ?_
    ((repeat ((conv => lhs; whnf); simp only [go_sem, simprocAttr, sem11_, h1, h4, Int.toNat_natCast, hK, alloc_Pair, alloc_Nd, hS, c2'])); try (conv => lhs; whnf); try rfl)
  have c2' : ¬ 0 < (K.rates.length : Int) := by omega
  cases c3 : twiceR I i K
  case true =>
    left
    obtain ⟨S', k⟩ := (L2 _).2 c3
    refine ⟨by simp, S', ?_⟩
    refine loopAt_step ok11_.good 1000 ?_
    ((repeat ((conv => lhs; whnf); simp only [go_sem, simprocAttr, sem11_, h1, h4, Int.toNat_natCast, hK, alloc_Pair, alloc_Nd, hS, c2'])); try (conv => lhs; whnf); try rfl)
    exact k
  right
  refine ⟨by simp [c2], fun z hz => ?_⟩
  refine loopAt_step ok11_.good 1000 ?_
  ((repeat ((conv => lhs; whnf); simp only [go_sem, simprocAttr, sem11_, h1, h4, Int.toNat_natCast, hK, alloc_Pair, alloc_Nd, hS, c2'])); try (conv => lhs; whnf); try rfl)
  exact (L2 _).1 c3 z (hz _ rfl)
theorem tail_10 (I : List Pr) (hl : I.length ≤ 60) (i : Nat) (hi : i < I.length) (K : Pr) (hp : K.ok) (hwc : K.wth.count ≤ 1000) (R : Bool) (Sn : Store) (key : loopAt 0 fx11_ 0 116 0 [.blk 0, .seq 0 15] [(0, .sl (prRows I) false), (3, .int .i64 ((i + 1 : Nat) : Int))] [] = some (.int .i64 (if R = true then 0 else 3), Sn)) (ho : K.what.op = 10) :
    ∃ S', exitTo 0 fx11_ 2 [Fr.blk 2, .seq 1 14927, .blk 1, .seq 0 467, .lop 0 116 0, .blk 0, .seq 0 15] [(0, .sl (prRows I) false), (3, .int .i64 i), (4, .mp 0 0 0), (5, .mp 1 0 0), (6, .undef), (33, .undef)] [.arr [K.cells] none false, .arr [K.what.cells] none false] = some (.int .i64 (if ((withR K && (!K.wth.has isSym && (!K.wth.has (isOp 12) && (!K.wth.has (isOp 3) && !(decide (K.what.kids.length = 0) && K.wth.has (isOp 13)))))) && R) = true then 0 else 3), S') := by
  have h2 := wrap_succ (i := i) (n := I.length) (by omega) (by unfold maxLen; omega)
  have wch := fun S s => Check8_o S K.wth hp.wth (by omega) s
  have hsy := fun S => symbols_o S K.wth hp.wth
  have hM := fun S => Modal_o S K.wth hp.wth
  have o12 := fun S => Occurs_o S 12 K.wth hp.wth
  have o3 := fun S => Occurs_o S 3 K.wth hp.wth
  have o13 := fun S => Occurs_o S 13 K.wth hp.wth
  have e : withR K = decide (K.wth.check 1 = 0) := by unfold withR; rw [if_pos (by omega)]
  rw [e]
  clear e
  by_cases c5 : K.wth.check 1 = 0
  case neg =>
    rw [decide_eq_false c5, Bool.false_and, Bool.false_and, if_neg (by simp)]
    apply Exists.intro
    refine exit_run ok11_.good 1000 ?_
    ((repeat ((conv => lhs; whnf); simp only [go_sem, simprocAttr, sem11_, ho, Int.reduceEq, wch, c5])); try (conv => lhs; whnf); try rfl)
  rw [decide_eq_true c5, Bool.true_and]
  cases c_hsy : K.wth.has isSym
  case true =>
    rw [c_hsy] at hsy
    rw [Bool.not_true, Bool.false_and, Bool.false_and, if_neg (by simp)]
    apply Exists.intro
    refine exit_run ok11_.good 1000 ?_
    ((repeat ((conv => lhs; whnf); simp only [go_sem, simprocAttr, sem11_, ho, Int.reduceEq, wch, c5, hsy])); try (conv => lhs; whnf); try rfl)
  rw [c_hsy] at hsy
  rw [Bool.not_false, Bool.true_and]
  cases c_o12 : K.wth.has (isOp 12)
  case true =>
    rw [c_o12] at o12
    rw [Bool.not_true, Bool.false_and, Bool.false_and, if_neg (by simp)]
    apply Exists.intro
    refine exit_run ok11_.good 1000 ?_
    ((repeat ((conv => lhs; whnf); simp only [go_sem, simprocAttr, sem11_, ho, Int.reduceEq, wch, c5, hsy, o12])); try (conv => lhs; whnf); try rfl)
  rw [c_o12] at o12
  rw [Bool.not_false, Bool.true_and]
  cases c_o3 : K.wth.has (isOp 3)
  case true =>
    rw [c_o3] at o3
    rw [Bool.not_true, Bool.false_and, Bool.false_and, if_neg (by simp)]
    apply Exists.intro
    refine exit_run ok11_.good 1000 ?_
    ((repeat ((conv => lhs; whnf); simp only [go_sem, simprocAttr, sem11_, ho, Int.reduceEq, wch, c5, hsy, o12, o3])); try (conv => lhs; whnf); try rfl)
  rw [c_o3] at o3
  rw [Bool.not_false, Bool.true_and]
  by_cases c8 : K.what.kids.length = 0
  · have c8' : (K.what.kids.length : Int) = 0 := by omega
    rw [decide_eq_true c8, Bool.true_and]
    cases c9 : K.wth.has (isOp 13)
    case true =>
      rw [c9] at o13
      rw [Bool.not_true, Bool.false_and, if_neg (by simp)]
      apply Exists.intro
      refine exit_run ok11_.good 1000 ?_
      ((repeat ((conv => lhs; whnf); simp only [go_sem, simprocAttr, sem11_, ho, Int.reduceEq, wch, c5, hsy, o12, o3, c8', o13])); try (conv => lhs; whnf); try rfl)
    rw [c9] at o13
    rw [Bool.not_false, Bool.true_and]
    refine ⟨Sn, ?_⟩
    refine exit_run ok11_.good 1000 ?_
    ((repeat ((conv => lhs; whnf); simp only [go_sem, simprocAttr, sem11_, ho, Int.reduceEq, wch, c5, hsy, o12, o3, c8', o13, h2])); try (conv => lhs; whnf); try rfl)
    exact key
  · have c8' : ¬ (K.what.kids.length : Int) = 0 := by omega
    rw [decide_eq_false c8, Bool.false_and, Bool.not_false, Bool.true_and]
    refine ⟨Sn, ?_⟩
    refine exit_run ok11_.good 1000 ?_
    ((repeat ((conv => lhs; whnf); simp only [go_sem, simprocAttr, sem11_, ho, Int.reduceEq, wch, c5, hsy, o12, o3, c8', h2])); try (conv => lhs; whnf); try rfl)
    exact key
theorem tail_11 (I : List Pr) (hl : I.length ≤ 60) (i : Nat) (hi : i < I.length) (K : Pr) (hp : K.ok) (hwc : K.wth.count ≤ 1000) (R : Bool) (Sn : Store) (key : loopAt 0 fx11_ 0 116 0 [.blk 0, .seq 0 15] [(0, .sl (prRows I) false), (3, .int .i64 ((i + 1 : Nat) : Int))] [] = some (.int .i64 (if R = true then 0 else 3), Sn)) (ho : K.what.op = 11) :
    ∃ S', exitTo 0 fx11_ 2 [Fr.blk 2, .seq 1 14927, .blk 1, .seq 0 467, .lop 0 116 0, .blk 0, .seq 0 15] [(0, .sl (prRows I) false), (3, .int .i64 i), (4, .mp 0 0 0), (5, .mp 1 0 0), (6, .undef), (33, .undef)] [.arr [K.cells] none false, .arr [K.what.cells] none false] = some (.int .i64 (if ((withR K && (!K.wth.has isSym && (!K.wth.has (isOp 12) && (!K.wth.has (isOp 3) && !(decide (K.what.kids.length = 0) && K.wth.has (isOp 13)))))) && R) = true then 0 else 3), S') := by
  have h2 := wrap_succ (i := i) (n := I.length) (by omega) (by unfold maxLen; omega)
  have wch := fun S s => Check8_o S K.wth hp.wth (by omega) s
  have hsy := fun S => symbols_o S K.wth hp.wth
  have hM := fun S => Modal_o S K.wth hp.wth
  have o12 := fun S => Occurs_o S 12 K.wth hp.wth
  have o3 := fun S => Occurs_o S 3 K.wth hp.wth
  have o13 := fun S => Occurs_o S 13 K.wth hp.wth
  have e : withR K = decide (K.wth.check 1 = 0) := by unfold withR; rw [if_pos (by omega)]
  rw [e]
  clear e
  by_cases c5 : K.wth.check 1 = 0
  case neg =>
    rw [decide_eq_false c5, Bool.false_and, Bool.false_and, if_neg (by simp)]
    apply Exists.intro
    refine exit_run ok11_.good 1000 ?_
    ((repeat ((conv => lhs; whnf); simp only [go_sem, simprocAttr, sem11_, ho, Int.reduceEq, wch, c5])); try (conv => lhs; whnf); try rfl)
  rw [decide_eq_true c5, Bool.true_and]
  cases c_hsy : K.wth.has isSym
  case true =>
    rw [c_hsy] at hsy
    rw [Bool.not_true, Bool.false_and, Bool.false_and, if_neg (by simp)]
    apply Exists.intro
    refine exit_run ok11_.good 1000 ?_
    ((repeat ((conv => lhs; whnf); simp only [go_sem, simprocAttr, sem11_, ho, Int.reduceEq, wch, c5, hsy])); try (conv => lhs; whnf); try rfl)
  rw [c_hsy] at hsy
  rw [Bool.not_false, Bool.true_and]
  cases c_o12 : K.wth.has (isOp 12)
  case true =>
    rw [c_o12] at o12
    rw [Bool.not_true, Bool.false_and, Bool.false_and, if_neg (by simp)]
    apply Exists.intro
    refine exit_run ok11_.good 1000 ?_
    ((repeat ((conv => lhs; whnf); simp only [go_sem, simprocAttr, sem11_, ho, Int.reduceEq, wch, c5, hsy, o12])); try (conv => lhs; whnf); try rfl)
  rw [c_o12] at o12
  rw [Bool.not_false, Bool.true_and]
  cases c_o3 : K.wth.has (isOp 3)
  case true =>
    rw [c_o3] at o3
    rw [Bool.not_true, Bool.false_and, Bool.false_and, if_neg (by simp)]
    apply Exists.intro
    refine exit_run ok11_.good 1000 ?_
    ((repeat ((conv => lhs; whnf); simp only [go_sem, simprocAttr, sem11_, ho, Int.reduceEq, wch, c5, hsy, o12, o3])); try (conv => lhs; whnf); try rfl)
  rw [c_o3] at o3
  rw [Bool.not_false, Bool.true_and]
  by_cases c8 : K.what.kids.length = 0
  · have c8' : (K.what.kids.length : Int) = 0 := by omega
    rw [decide_eq_true c8, Bool.true_and]
    cases c9 : K.wth.has (isOp 13)
    case true =>
      rw [c9] at o13
      rw [Bool.not_true, Bool.false_and, if_neg (by simp)]
      apply Exists.intro
      refine exit_run ok11_.good 1000 ?_
      ((repeat ((conv => lhs; whnf); simp only [go_sem, simprocAttr, sem11_, ho, Int.reduceEq, wch, c5, hsy, o12, o3, c8', o13])); try (conv => lhs; whnf); try rfl)
    rw [c9] at o13
    rw [Bool.not_false, Bool.true_and]
    refine ⟨Sn, ?_⟩
    refine exit_run ok11_.good 1000 ?_
    ((repeat ((conv => lhs; whnf); simp only [go_sem, simprocAttr, sem11_, ho, Int.reduceEq, wch, c5, hsy, o12, o3, c8', o13, h2])); try (conv => lhs; whnf); try rfl)
    exact key
  · have c8' : ¬ (K.what.kids.length : Int) = 0 := by omega
    rw [decide_eq_false c8, Bool.false_and, Bool.not_false, Bool.true_and]
    refine ⟨Sn, ?_⟩
    refine exit_run ok11_.good 1000 ?_
    ((repeat ((conv => lhs; whnf); simp only [go_sem, simprocAttr, sem11_, ho, Int.reduceEq, wch, c5, hsy, o12, o3, c8', h2])); try (conv => lhs; whnf); try rfl)
    exact key
theorem tail_37 (I : List Pr) (hl : I.length ≤ 60) (i : Nat) (hi : i < I.length) (K : Pr) (hp : K.ok) (hwc : K.wth.count ≤ 1000) (R : Bool) (Sn : Store) (key : loopAt 0 fx11_ 0 116 0 [.blk 0, .seq 0 15] [(0, .sl (prRows I) false), (3, .int .i64 ((i + 1 : Nat) : Int))] [] = some (.int .i64 (if R = true then 0 else 3), Sn)) (ho : K.what.op = 37) :
    ∃ S', exitTo 0 fx11_ 2 [Fr.blk 2, .seq 1 14927, .blk 1, .seq 0 467, .lop 0 116 0, .blk 0, .seq 0 15] [(0, .sl (prRows I) false), (3, .int .i64 i), (4, .mp 0 0 0), (5, .mp 1 0 0), (6, .undef), (33, .undef)] [.arr [K.cells] none false, .arr [K.what.cells] none false] = some (.int .i64 (if ((withR K && (!K.wth.has isSym && (!K.wth.has (isOp 12) && (!K.wth.has (isOp 3) && !(decide (K.what.kids.length = 0) && K.wth.has (isOp 13)))))) && R) = true then 0 else 3), S') := by
  have h2 := wrap_succ (i := i) (n := I.length) (by omega) (by unfold maxLen; omega)
  have wch := fun S s => Check8_o S K.wth hp.wth (by omega) s
  have hsy := fun S => symbols_o S K.wth hp.wth
  have hM := fun S => Modal_o S K.wth hp.wth
  have o12 := fun S => Occurs_o S 12 K.wth hp.wth
  have o3 := fun S => Occurs_o S 3 K.wth hp.wth
  have o13 := fun S => Occurs_o S 13 K.wth hp.wth
  have e : withR K = (decide (K.wth.check 2 = 0) && !K.wth.has isModal) := by unfold withR; rw [if_neg (by omega), if_pos (by omega)]
  rw [e]
  clear e
  by_cases c5 : K.wth.check 2 = 0
  case neg =>
    rw [decide_eq_false c5, Bool.false_and, Bool.false_and, Bool.false_and, if_neg (by simp)]
    apply Exists.intro
    refine exit_run ok11_.good 1000 ?_
    ((repeat ((conv => lhs; whnf); simp only [go_sem, simprocAttr, sem11_, ho, Int.reduceEq, wch, c5])); try (conv => lhs; whnf); try rfl)
  rw [decide_eq_true c5, Bool.true_and]
  cases cm : K.wth.has isModal
  case true =>
    rw [cm] at hM
    rw [Bool.not_true, Bool.false_and, Bool.false_and, if_neg (by simp)]
    apply Exists.intro
    refine exit_run ok11_.good 1000 ?_
    ((repeat ((conv => lhs; whnf); simp only [go_sem, simprocAttr, sem11_, ho, Int.reduceEq, wch, c5, hM])); try (conv => lhs; whnf); try rfl)
  rw [cm] at hM
  rw [Bool.not_false, Bool.true_and]
  cases c_hsy : K.wth.has isSym
  case true =>
    rw [c_hsy] at hsy
    rw [Bool.not_true, Bool.false_and, Bool.false_and, if_neg (by simp)]
    apply Exists.intro
    refine exit_run ok11_.good 1000 ?_
    ((repeat ((conv => lhs; whnf); simp only [go_sem, simprocAttr, sem11_, ho, Int.reduceEq, wch, c5, hM, hsy])); try (conv => lhs; whnf); try rfl)
  rw [c_hsy] at hsy
  rw [Bool.not_false, Bool.true_and]
  cases c_o12 : K.wth.has (isOp 12)
  case true =>
    rw [c_o12] at o12
    rw [Bool.not_true, Bool.false_and, Bool.false_and, if_neg (by simp)]
    apply Exists.intro
    refine exit_run ok11_.good 1000 ?_
    ((repeat ((conv => lhs; whnf); simp only [go_sem, simprocAttr, sem11_, ho, Int.reduceEq, wch, c5, hM, hsy, o12])); try (conv => lhs; whnf); try rfl)
  rw [c_o12] at o12
  rw [Bool.not_false, Bool.true_and]
  cases c_o3 : K.wth.has (isOp 3)
  case true =>
    rw [c_o3] at o3
    rw [Bool.not_true, Bool.false_and, Bool.false_and, if_neg (by simp)]
    apply Exists.intro
    refine exit_run ok11_.good 1000 ?_
    ((repeat ((conv => lhs; whnf); simp only [go_sem, simprocAttr, sem11_, ho, Int.reduceEq, wch, c5, hM, hsy, o12, o3])); try (conv => lhs; whnf); try rfl)
  rw [c_o3] at o3
  rw [Bool.not_false, Bool.true_and]
  by_cases c8 : K.what.kids.length = 0
  · have c8' : (K.what.kids.length : Int) = 0 := by omega
    rw [decide_eq_true c8, Bool.true_and]
    cases c9 : K.wth.has (isOp 13)
    case true =>
      rw [c9] at o13
      rw [Bool.not_true, Bool.false_and, if_neg (by simp)]
      apply Exists.intro
      refine exit_run ok11_.good 1000 ?_
      ((repeat ((conv => lhs; whnf); simp only [go_sem, simprocAttr, sem11_, ho, Int.reduceEq, wch, c5, hM, hsy, o12, o3, c8', o13])); try (conv => lhs; whnf); try rfl)
    rw [c9] at o13
    rw [Bool.not_false, Bool.true_and]
    refine ⟨Sn, ?_⟩
    refine exit_run ok11_.good 1000 ?_
    ((repeat ((conv => lhs; whnf); simp only [go_sem, simprocAttr, sem11_, ho, Int.reduceEq, wch, c5, hM, hsy, o12, o3, c8', o13, h2])); try (conv => lhs; whnf); try rfl)
    exact key
  · have c8' : ¬ (K.what.kids.length : Int) = 0 := by omega
    rw [decide_eq_false c8, Bool.false_and, Bool.not_false, Bool.true_and]
    refine ⟨Sn, ?_⟩
    refine exit_run ok11_.good 1000 ?_
    ((repeat ((conv => lhs; whnf); simp only [go_sem, simprocAttr, sem11_, ho, Int.reduceEq, wch, c5, hM, hsy, o12, o3, c8', h2])); try (conv => lhs; whnf); try rfl)
    exact key
theorem tail_38 (I : List Pr) (hl : I.length ≤ 60) (i : Nat) (hi : i < I.length) (K : Pr) (hp : K.ok) (hwc : K.wth.count ≤ 1000) (R : Bool) (Sn : Store) (key : loopAt 0 fx11_ 0 116 0 [.blk 0, .seq 0 15] [(0, .sl (prRows I) false), (3, .int .i64 ((i + 1 : Nat) : Int))] [] = some (.int .i64 (if R = true then 0 else 3), Sn)) (ho : K.what.op = 38) :
    ∃ S', exitTo 0 fx11_ 2 [Fr.blk 2, .seq 1 14927, .blk 1, .seq 0 467, .lop 0 116 0, .blk 0, .seq 0 15] [(0, .sl (prRows I) false), (3, .int .i64 i), (4, .mp 0 0 0), (5, .mp 1 0 0), (6, .undef), (33, .undef)] [.arr [K.cells] none false, .arr [K.what.cells] none false] = some (.int .i64 (if ((withR K && (!K.wth.has isSym && (!K.wth.has (isOp 12) && (!K.wth.has (isOp 3) && !(decide (K.what.kids.length = 0) && K.wth.has (isOp 13)))))) && R) = true then 0 else 3), S') := by
  have h2 := wrap_succ (i := i) (n := I.length) (by omega) (by unfold maxLen; omega)
  have wch := fun S s => Check8_o S K.wth hp.wth (by omega) s
  have hsy := fun S => symbols_o S K.wth hp.wth
  have hM := fun S => Modal_o S K.wth hp.wth
  have o12 := fun S => Occurs_o S 12 K.wth hp.wth
  have o3 := fun S => Occurs_o S 3 K.wth hp.wth
  have o13 := fun S => Occurs_o S 13 K.wth hp.wth
  have e : withR K = (decide (K.wth.check 2 = 0) && !K.wth.has isModal) := by unfold withR; rw [if_neg (by omega), if_pos (by omega)]
  rw [e]
  clear e
  by_cases c5 : K.wth.check 2 = 0
  case neg =>
    rw [decide_eq_false c5, Bool.false_and, Bool.false_and, Bool.false_and, if_neg (by simp)]
    apply Exists.intro
    refine exit_run ok11_.good 1000 ?_
    ((repeat ((conv => lhs; whnf); simp only [go_sem, simprocAttr, sem11_, ho, Int.reduceEq, wch, c5])); try (conv => lhs; whnf); try rfl)
  rw [decide_eq_true c5, Bool.true_and]
  cases cm : K.wth.has isModal
  case true =>
    rw [cm] at hM
    rw [Bool.not_true, Bool.false_and, Bool.false_and, if_neg (by simp)]
    apply Exists.intro
    refine exit_run ok11_.good 1000 ?_
    ((repeat ((conv => lhs; whnf); simp only [go_sem, simprocAttr, sem11_, ho, Int.reduceEq, wch, c5, hM])); try (conv => lhs; whnf); try rfl)
  rw [cm] at hM
  rw [Bool.not_false, Bool.true_and]
  cases c_hsy : K.wth.has isSym
  case true =>
    rw [c_hsy] at hsy
    rw [Bool.not_true, Bool.false_and, Bool.false_and, if_neg (by simp)]
    apply Exists.intro
    refine exit_run ok11_.good 1000 ?_
    ((repeat ((conv => lhs; whnf); simp only [go_sem, simprocAttr, sem11_, ho, Int.reduceEq, wch, c5, hM, hsy])); try (conv => lhs; whnf); try rfl)
  rw [c_hsy] at hsy
  rw [Bool.not_false, Bool.true_and]
  cases c_o12 : K.wth.has (isOp 12)
  case true =>
    rw [c_o12] at o12
    rw [Bool.not_true, Bool.false_and, Bool.false_and, if_neg (by simp)]
    apply Exists.intro
    refine exit_run ok11_.good 1000 ?_
    ((repeat ((conv => lhs; whnf); simp only [go_sem, simprocAttr, sem11_, ho, Int.reduceEq, wch, c5, hM, hsy, o12])); try (conv => lhs; whnf); try rfl)
  rw [c_o12] at o12
  rw [Bool.not_false, Bool.true_and]
  cases c_o3 : K.wth.has (isOp 3)
  case true =>
    rw [c_o3] at o3
    rw [Bool.not_true, Bool.false_and, Bool.false_and, if_neg (by simp)]
    apply Exists.intro
    refine exit_run ok11_.good 1000 ?_
    ((repeat ((conv => lhs; whnf); simp only [go_sem, simprocAttr, sem11_, ho, Int.reduceEq, wch, c5, hM, hsy, o12, o3])); try (conv => lhs; whnf); try rfl)
  rw [c_o3] at o3
  rw [Bool.not_false, Bool.true_and]
  by_cases c8 : K.what.kids.length = 0
  · have c8' : (K.what.kids.length : Int) = 0 := by omega
    rw [decide_eq_true c8, Bool.true_and]
    cases c9 : K.wth.has (isOp 13)
    case true =>
      rw [c9] at o13
      rw [Bool.not_true, Bool.false_and, if_neg (by simp)]
      apply Exists.intro
      refine exit_run ok11_.good 1000 ?_
      ((repeat ((conv => lhs; whnf); simp only [go_sem, simprocAttr, sem11_, ho, Int.reduceEq, wch, c5, hM, hsy, o12, o3, c8', o13])); try (conv => lhs; whnf); try rfl)
    rw [c9] at o13
    rw [Bool.not_false, Bool.true_and]
    refine ⟨Sn, ?_⟩
    refine exit_run ok11_.good 1000 ?_
    ((repeat ((conv => lhs; whnf); simp only [go_sem, simprocAttr, sem11_, ho, Int.reduceEq, wch, c5, hM, hsy, o12, o3, c8', o13, h2])); try (conv => lhs; whnf); try rfl)
    exact key
  · have c8' : ¬ (K.what.kids.length : Int) = 0 := by omega
    rw [decide_eq_false c8, Bool.false_and, Bool.not_false, Bool.true_and]
    refine ⟨Sn, ?_⟩
    refine exit_run ok11_.good 1000 ?_
    ((repeat ((conv => lhs; whnf); simp only [go_sem, simprocAttr, sem11_, ho, Int.reduceEq, wch, c5, hM, hsy, o12, o3, c8', h2])); try (conv => lhs; whnf); try rfl)
    exact key
theorem loop_CheckR (I : List Pr) (hI : ∀ p ∈ I, p.ok) (hl : I.length ≤ 60) (hc : ∀ p ∈ I, p.wth.count ≤ 1000 ∧ p.what.count ≤ 1000) : ∀ (m i : Nat), i + m = I.length →
    ∃ S', loopAt 0 fx11_ 0 116 0 [.blk 0, .seq 0 15] [(0, .sl (prRows I) false), (3, .int .i64 i)] [] = some (.int .i64 (if okRs I m i = true then 0 else 3), S') := by
  intro m
  induction m with
  | zero =>
    intro i hi
    have h1 : ¬ (i : Int) < (I.length : Int) := by omega
    apply Exists.intro
    refine loopAt_step ok11_.good 1000 ?_
    unfold okRs
    rw [if_pos rfl]
    ((repeat ((conv => lhs; whnf); simp only [go_sem, simprocAttr, sem11_, h1])); try (conv => lhs; whnf); try rfl)
    refine exit_run ok11_.good 1000 ?_
    ((repeat ((conv => lhs; whnf); simp only [go_sem, simprocAttr, sem11_])); try (conv => lhs; whnf); try rfl)
  | succ m hm =>
    intro i hi
    have hpc := hc _ (prs_mem (I := I) (i := i) (by omega))
    obtain ⟨Sn, key⟩ := hm (i + 1) (by omega)
    have hpk := hI _ (prs_mem (I := I) (i := i) (by omega))
    have pre := pre_CheckR I hI hl i (by omega) _ rfl
    unfold okRs okR
    generalize hK : I.getD i pr0 = K at *
    have asoc : (K.what.isSymbol && (decide (K.rates.length = 0) && (!twiceR I i K && (withR K && (!K.wth.has isSym && (!K.wth.has (isOp 12) && (!K.wth.has (isOp 3) && !(decide (K.what.kids.length = 0) && K.wth.has (isOp 13)))))))) && okRs I m (i + 1)) =
        ((K.what.isSymbol && (decide (K.rates.length = 0) && !twiceR I i K)) && ((withR K && (!K.wth.has isSym && (!K.wth.has (isOp 12) && (!K.wth.has (isOp 3) && !(decide (K.what.kids.length = 0) && K.wth.has (isOp 13)))))) && okRs I m (i + 1))) := by simp only [Bool.and_assoc]
    rw [asoc]
    rcases pre with ⟨p1, S', p2⟩ | ⟨p1, p2⟩
    · rw [p1, Bool.false_and, if_neg (by simp)]
      exact ⟨S', p2⟩
    rw [p1, Bool.true_and]
    by_cases g10 : K.what.op = 10
    · obtain ⟨S', k⟩ := tail_10 I hl i (by omega) K hpk hpc.1 _ Sn key g10
      exact ⟨S', p2 _ fun fs hfs => hfs ▸ k⟩
    by_cases g11 : K.what.op = 11
    · obtain ⟨S', k⟩ := tail_11 I hl i (by omega) K hpk hpc.1 _ Sn key g11
      exact ⟨S', p2 _ fun fs hfs => hfs ▸ k⟩
    by_cases g37 : K.what.op = 37
    · obtain ⟨S', k⟩ := tail_37 I hl i (by omega) K hpk hpc.1 _ Sn key g37
      exact ⟨S', p2 _ fun fs hfs => hfs ▸ k⟩
    by_cases g38 : K.what.op = 38
    · obtain ⟨S', k⟩ := tail_38 I hl i (by omega) K hpk hpc.1 _ Sn key g38
      exact ⟨S', p2 _ fun fs hfs => hfs ▸ k⟩
    have e : withR K = false := by unfold withR; rw [if_neg (by omega), if_neg (by omega)]
    rw [e, Bool.false_and, Bool.false_and, if_neg (by simp)]
    apply Exists.intro
    refine p2 _ fun fs hfs => ?_
    subst hfs
    refine exit_run ok11_.good 1000 ?_
    ((repeat ((conv => lhs; whnf); simp only [go_sem, simprocAttr, sem11_, g10, g11, g37, g38])); try (conv => lhs; whnf); try rfl)
def checkR (I : List Pr) : Int := if I.length ≤ 40 ∧ okRs I I.length 0 = true then 0 else 3
theorem call_CheckR (I : List Pr) (hI : ∀ p ∈ I, p.ok) (hl : I.length ≤ 60) (hc : ∀ p ∈ I, p.wth.count ≤ 1000 ∧ p.what.count ≤ 1000) : callL Tryz.prog hints 11 [.sl (prRows I) false] = some (.int .i64 (checkR I)) := by
  unfold checkR
  by_cases h : I.length ≤ 40
  · have h' : ¬ 40 < (I.length : Int) := by omega
    obtain ⟨S', k⟩ := loop_CheckR I hI hl hc I.length 0 (by omega)
    have e : (I.length ≤ 40 ∧ okRs I I.length 0 = true) ↔ okRs I I.length 0 = true := ⟨fun x => x.2, fun x => ⟨h, x⟩⟩
    simp only [e]
    apply FX.callV ok11_ 1000 rfl rfl
    · ((repeat ((conv => lhs; whnf); simp only [go_sem, simprocAttr, sem11_, h'])); try (conv => lhs; whnf); try rfl)
      exact k
    · rfl
  · have h' : 40 < (I.length : Int) := by omega
    rw [if_neg (fun x => h x.1)]
    apply FX.callV ok11_ 1000 rfl rfl
    · ((repeat ((conv => lhs; whnf); simp only [go_sem, simprocAttr, sem11_, h'])); try (conv => lhs; whnf); try rfl)
    · rfl
theorem CheckR_o (S : Store) (I : List Pr) (hI : ∀ p ∈ I, p.ok) (hl : I.length ≤ 60) (hc : ∀ p ∈ I, p.wth.count ≤ 1000 ∧ p.what.count ≤ 1000) : callO (callL Tryz.prog hints) S 11 [.sl (prRows I) false] = some { v := .int .i64 (checkR I) } := callO_plain (call_CheckR I hI hl hc) (by simp [Plain.sl])
end
end Go.Vs
end
section
set_option linter.unusedVariables false
set_option linter.unusedSimpArgs false
namespace Go.Vs
open Go Go.Proofs
mutual
theorem has_or (p q : Int → Bool) : ∀ n : Node, n.has (fun o => p o || q o) = (n.has p || n.has q)
  | .mk o nm ng nu de f => by
    have h := hass_or p q f
    simp only [Node.has, h]
    cases p o <;> cases q o <;> cases Node.hass p f <;> simp
theorem hass_or (p q : Int → Bool) : ∀ l : List Node, Node.hass (fun o => p o || q o) l = (Node.hass p l || Node.hass q l)
  | [] => rfl
  | n :: r => by
    have h1 := has_or p q n
    have h2 := hass_or p q r
    simp only [Node.hass, h1, h2]
    cases n.has p <;> cases n.has q <;> cases Node.hass p r <;> simp
end
theorem has_bad (n : Node) : n.has (inOps badOps) = (n.has isModal || (n.has (isOp 12) || n.has (isOp 3))) := by
  rw [← has_or, ← has_or]
  congr 1
  funext o
  simp [inOps, badOps, isModal, isOp, Bool.or_assoc]
theorem has_dot (n : Node) : n.has (inOps [13]) = n.has (isOp 13) := by
  congr 1
  funext o
  simp [inOps, isOp]
theorem formeds_all : ∀ (l : List Node) (s : List Int) (a b c : Bool), Node.formeds l s a b c = true → l.length = s.length → (∀ d ∈ s, d = 1) → ∀ k ∈ l, sortOf k.op = 1 ∧ k.formed a b c = true
  | [], s, a, b, c, _, _, _ => by simp
  | n :: r, [], a, b, c, h, hl, _ => by simp at hl
  | n :: r, d :: s, a, b, c, h, hl, hs => by
    simp only [Node.formeds, Bool.and_eq_true, decide_eq_true_eq, List.getD_cons_zero, List.tail_cons] at h
    obtain ⟨h1, h2, h3⟩ := h
    intro k hk
    rcases List.mem_cons.1 hk with rfl | hk
    · exact ⟨by rw [h1]; exact hs d (by simp), h2⟩
    · exact formeds_all r s a b c h3 (by simpa using hl) (fun x hx => hs x (by simp [hx])) k hk
theorem sortsFor_term {o : Int} (h : 1 ≤ o ∧ o ≤ 13) (m : Nat) : ∀ d ∈ sortsFor o m, d = 1 := by
  unfold sortsFor
  by_cases h10 : o = 10 ∨ o = 37
  · rw [if_pos h10]
    intro d hd
    exact List.eq_of_mem_replicate hd
  · rw [if_neg h10, if_neg (by omega)]
    unfold kidSorts
    by_cases h1 : o = 4 ∨ o = 12
    · rw [if_pos h1]; simp
    · rw [if_neg h1, if_neg (by omega), if_neg (by omega)]
      by_cases h2 : (5 ≤ o ∧ o ≤ 9) ∨ (22 ≤ o ∧ o ≤ 27)
      · rw [if_pos h2]; simp
      · rw [if_neg h2, if_neg (by omega), if_neg (by omega), if_neg (by omega), if_neg (by omega), if_neg (by omega)]; simp
theorem sortOf_term {o : Int} (h : sortOf o = 1) : 1 ≤ o ∧ o ≤ 13 := by
  unfold sortOf at h
  by_cases h1 : 1 ≤ o ∧ o ≤ 13
  · exact h1
  · rw [if_neg h1] at h
    repeat' split at h
    all_goals omega
theorem term_plain : ∀ n : Node, ∀ a b c, n.formed a b c = true → sortOf n.op = 1 → n.has isModal = false := by
  refine Node.ind' fun n ih a b c h hs => ?_
  have ho := sortOf_term hs
  rw [Node.formed_eq] at h
  simp only [Bool.and_eq_true, decide_eq_true_eq] at h
  obtain ⟨_, _, hl, hf, _⟩ := h
  have hk := formeds_all _ _ _ _ _ hf hl (sortsFor_term ho _)
  rw [Node.has_eq, Node.hass_any]
  have e : isModal n.op = false := by
    unfold isModal
    rw [decide_eq_false (by omega), decide_eq_false (by omega), decide_eq_false (by omega), decide_eq_false (by omega), decide_eq_false (by omega)]; rfl
  rw [e, Bool.false_or, List.any_eq_false]
  intro k hk'
  have := hk k hk'
  rw [ih k hk' _ _ _ this.2 this.1]
  simp
theorem check_zero {n : Node} {w : Int} (h : n.check w = 0) : n.small = true ∧ sortOf n.op = w ∧ n.formed false false false = true := by
  unfold Node.check at h
  by_cases h1 : w < 1 ∨ 3 < w
  · rw [if_pos h1] at h; cases h
  rw [if_neg h1] at h
  cases h2 : n.small
  · rw [if_pos h2] at h; cases h
  rw [if_neg (by rw [h2]; simp)] at h
  by_cases h3 : sortOf n.op = w
  · rw [if_neg (by simpa using h3)] at h
    cases h4 : n.formed false false false
    · rw [if_pos h4] at h; cases h
    · exact ⟨rfl, h3, rfl⟩
  · rw [if_pos h3] at h; cases h
theorem check_eq {n : Node} {w : Int} (hw : 1 ≤ w ∧ w ≤ 3) (h1 : n.small = true) (h2 : sortOf n.op = w) : decide (n.check w = 0) = n.formed false false false := by
  unfold Node.check
  rw [if_neg (by omega), if_neg (by rw [h1]; simp), if_neg (by simpa using h2)]
  cases n.formed false false false <;> simp
theorem formed_sym0 {o : Int} (nm : ByteArray) (h : o = 10 ∨ o = 11 ∨ o = 37 ∨ o = 38) : (sym0 o nm).formed false false false = nameOK nm := by
  rcases h with rfl | rfl | rfl | rfl <;> simp [sym0, Node.formed, headOK, switchOK, sortsFor, kidSorts, Node.formeds, tailOK, hasName]
theorem formed_sym1 {o : Int} (nm : ByteArray) (h : o = 10 ∨ o = 37) : (sym1 o nm).formed false false false = nameOK nm := by
  have e0 : noName ⟨#[]⟩ = true := by unfold noName; simp
  rcases h with rfl | rfl <;> simp [sym1, dotN, Node.formed, headOK, switchOK, sortsFor, kidSorts, Node.formeds, tailOK, hasName, sortOf, Node.op, e0]
theorem isSymbol_sym0 {o : Int} (nm : ByteArray) (h : isSym o = true) : (sym0 o nm).isSymbol = nameOK nm := by
  simp [sym0, Node.isSymbol, Node.op, Node.name, Node.neg, Node.num, Node.den, Node.kids, h]
theorem isSymbol_sym1 {o : Int} (nm : ByteArray) (h : o = 10 ∨ o = 37) : (sym1 o nm).isSymbol = nameOK nm := by
  have e : dotN.cmp dotN = 0 := (cmp_eq _ _).2 rfl
  have : isSym o = true := by rcases h with h | h <;> rw [h] <;> rfl
  rcases h with rfl | rfl <;> simp [sym1, Node.isSymbol, Node.op, Node.name, Node.neg, Node.num, Node.den, Node.kids, this, e]
theorem isSymbol_form {n : Node} (h : n.isSymbol = true) : n.sym = n := by
  obtain ⟨o, nm, ng, nu, de, ks⟩ := n
  simp only [Node.isSymbol, Node.op, Node.name, Node.neg, Node.num, Node.den, Node.kids, Bool.and_eq_true, Bool.or_eq_true, Bool.not_eq_true', decide_eq_true_eq] at h
  obtain ⟨⟨h1, h2, h3, h4, h5⟩, h6⟩ := h
  obtain rfl := List.eq_nil_of_length_eq_zero (of_decide_eq_true h4)
  obtain rfl := List.eq_nil_of_length_eq_zero (of_decide_eq_true h5)
  subst h3
  unfold Node.sym
  simp only [Node.op, Node.name, Node.kids, h1, if_true]
  rcases h6 with h6 | ⟨h6, h7, h8⟩
  · obtain rfl := List.eq_nil_of_length_eq_zero (of_decide_eq_true h6)
    simp
  · obtain ⟨k, rfl⟩ := List.length_eq_one_iff.1 (of_decide_eq_true h6)
    have := (cmp_eq _ _).1 (of_decide_eq_true h8)
    simp only [List.getD_cons_zero] at this
    subst this
    have h9 : (o = 10 ∨ o = 37) ∧ [dotN].length ≠ 0 := ⟨h7.imp of_decide_eq_true of_decide_eq_true, by simp⟩
    exact congrArg _ (if_pos h9)
theorem symbol_same {n : Node} (h : n.op = 10 ∨ n.op = 11 ∨ n.op = 37 ∨ n.op = 38) : (decide (n.check (wantOf n.op) = 0) && decide (n.sym.cmp n = 0)) = n.isSymbol := by
  have hw : 1 ≤ wantOf n.op ∧ wantOf n.op ≤ 3 := by
    rcases h with h | h | h | h <;> rw [h] <;> decide
  have hso : sortOf n.op = wantOf n.op := by
    rcases h with h | h | h | h <;> rw [h] <;> rfl
  have hsy : isSym n.op = true := by
    rcases h with h | h | h | h <;> rw [h] <;> rfl
  by_cases e : n.sym = n
  · rw [decide_eq_true ((cmp_eq _ _).2 e), Bool.and_true]
    have form : n = sym0 n.op n.name ∨ (n = sym1 n.op n.name ∧ (n.op = 10 ∨ n.op = 37)) := by
      by_cases hf : n.op = 10 ∨ n.op = 37
      · rw [sym_fun hf] at e
        unfold Node.head at e
        split at e
        · exact .inr ⟨e.symm, hf⟩
        · exact .inl e.symm
      · rw [sym_any (by omega)] at e
        exact .inl e.symm
    rcases form with f | ⟨f, hf⟩
    · have sm : n.small = true := by rw [f]; simp [Node.small, sym0, Node.count, Node.counts, Node.depth, Node.depths]
      rw [check_eq hw sm hso]
      rw [show n.formed false false false = nameOK n.name by conv => lhs; rw [f]
                                                             exact formed_sym0 _ h]
      rw [show n.isSymbol = nameOK n.name by conv => lhs; rw [f]
                                             exact isSymbol_sym0 _ hsy]
    · have sm : n.small = true := by rw [f]; simp [Node.small, sym1, dotN, Node.count, Node.counts, Node.depth, Node.depths]
      rw [check_eq hw sm hso]
      rw [show n.formed false false false = nameOK n.name by conv => lhs; rw [f]
                                                             exact formed_sym1 _ hf]
      rw [show n.isSymbol = nameOK n.name by conv => lhs; rw [f]
                                             exact isSymbol_sym1 _ hf]
  · rw [decide_eq_false (fun h => e ((cmp_eq _ _).1 h)), Bool.and_false]
    cases hq : n.isSymbol
    · rfl
    · exact absurd (isSymbol_form hq) e
theorem ok_same (I : List Pr) (i : Nat) (p : Pr) : okP I i p = okR I i p := by
  have ht : twice I i p = twiceR I i p := by
    unfold twice twiceR
    congr 1
    funext q
    have : q.what.cmp p.what = 0 ↔ p.what.cmp q.what = 0 := by rw [cmp_eq, cmp_eq]; exact eq_comm
    by_cases h : q.what.cmp p.what = 0
    · rw [decide_eq_true h, decide_eq_true (this.1 h)]
    · rw [decide_eq_false h, decide_eq_false (fun x => h (this.2 x))]
  unfold okP okR
  rw [ht, has_bad, has_dot]
  by_cases hop : p.what.op = 10 ∨ p.what.op = 11 ∨ p.what.op = 37 ∨ p.what.op = 38
  case neg =>
    have h1 : wantOf p.what.op = 0 := by unfold wantOf; rw [if_neg (by omega), if_neg (by omega)]
    have h2 : withR p = false := by unfold withR; rw [if_neg (by omega), if_neg (by omega)]
    rw [h1, h2]
    simp
  have hs := symbol_same hop
  have h1 : decide (wantOf p.what.op ≠ 0) = true := by
    rcases hop with h | h | h | h <;> rw [h] <;> rfl
  rw [h1, ← hs]
  have hwith : (decide (p.wth.check (wantOf p.what.op) = 0) && !(p.wth.has isModal || (p.wth.has (isOp 12) || p.wth.has (isOp 3)))) = (withR p && (!p.wth.has (isOp 12) && !p.wth.has (isOp 3))) := by
    unfold withR
    by_cases h10 : p.what.op = 10 ∨ p.what.op = 11
    · have hw : wantOf p.what.op = 1 := by unfold wantOf; rw [if_pos h10]
      rw [hw, if_pos h10]
      by_cases hc : p.wth.check 1 = 0
      · obtain ⟨_, c1, c2⟩ := check_zero hc
        rw [term_plain _ _ _ _ c2 c1]
        simp
      · simp [hc]
    · have hw : wantOf p.what.op = 2 := by unfold wantOf; rw [if_neg h10, if_pos (by omega)]
      rw [hw, if_neg h10, if_pos (by omega)]
      cases p.wth.has isModal <;> cases p.wth.has (isOp 12) <;> simp
  generalize decide (p.what.check (wantOf p.what.op) = 0) = a1 at *
  generalize decide (p.what.sym.cmp p.what = 0) = a2 at *
  generalize decide (p.wth.check (wantOf p.what.op) = 0) = a3 at *
  generalize p.wth.has isModal = a4 at *
  generalize p.wth.has (isOp 12) = a5 at *
  generalize p.wth.has (isOp 3) = a6 at *
  generalize p.wth.has isSym = a7 at *
  generalize withR p = a8 at *
  generalize decide (p.rates.length = 0) = a9 at *
  generalize (!twiceR I i p) = a10 at *
  generalize (!(decide (p.what.kids.length = 0) && p.wth.has (isOp 13))) = a11 at *
  clear hs h1 ht hop
  revert hwith
  cases a1 <;> cases a2 <;> cases a9 <;> cases a10 <;> simp
  cases a3 <;> cases a4 <;> cases a5 <;> cases a6 <;> cases a7 <;> cases a8 <;> cases a11 <;> simp
theorem oks_same (I : List Pr) : ∀ (m i : Nat), okPs I m i = okRs I m i
  | 0, _ => rfl
  | m + 1, i => by rw [okPs, okRs, ok_same, oks_same I m (i + 1)]
theorem check_same2 (I : List Pr) : checkI I = checkR I := by unfold checkI checkR; rw [oks_same]
end Go.Vs
end
section
set_option linter.unusedVariables false
set_option linter.unusedSimpArgs false
set_option maxRecDepth 100000
namespace Go.Vs
open Go Go.Proofs
section
attribute [local irreducible] Vs.callL Vs.callRL tyi callO callM callMV appendE storeE evLoad indexAddrO sliceO evFieldAddr evField buildO buildSliceO makeSliceO allocO boxed lenO copyE convertO indexO Vs.gc freezeAll
end
end Go.Vs
end
section
set_option linter.unusedVariables false
set_option linter.unusedSimpArgs false
set_option maxRecDepth 100000
namespace Go.Vs
open Go Go.Proofs
section
attribute [local irreducible] Vs.callL Vs.callRL tyi callO callM callMV appendE storeE evLoad indexAddrO sliceO evFieldAddr evField buildO buildSliceO makeSliceO allocO boxed lenO copyE convertO indexO Vs.gc freezeAll
end
end Go.Vs
end
section
set_option linter.unusedVariables false
set_option linter.unusedSimpArgs false
set_option maxRecDepth 100000
namespace Go.Vs
open Go Go.Proofs
section
attribute [local irreducible] Vs.callL Vs.callRL tyi callO callM callMV appendE storeE evLoad indexAddrO sliceO evFieldAddr evField buildO buildSliceO makeSliceO allocO boxed lenO copyE convertO indexO Vs.gc freezeAll
end
end Go.Vs
end
section
set_option linter.unusedVariables false
set_option linter.unusedSimpArgs false
set_option maxRecDepth 100000
namespace Go.Vs
open Go Go.Proofs
section
attribute [local irreducible] Vs.callL Vs.callRL tyi callO callM callMV appendE storeE evLoad indexAddrO sliceO evFieldAddr evField buildO buildSliceO makeSliceO allocO boxed lenO copyE convertO indexO Vs.gc freezeAll
end
end Go.Vs
end
section
set_option linter.unusedVariables false
set_option linter.unusedSimpArgs false
set_option maxRecDepth 100000
namespace Go.Vs
open Go Go.Proofs
section
attribute [local irreducible] Vs.callL Vs.callRL tyi callO callM callMV appendE storeE evLoad indexAddrO sliceO evFieldAddr evField buildO buildSliceO makeSliceO allocO boxed lenO copyE convertO indexO Vs.gc freezeAll
end
end Go.Vs
end
section
set_option linter.unusedVariables false
set_option linter.unusedSimpArgs false
set_option maxRecDepth 100000
namespace Go.Vs
open Go Go.Proofs
def s0 : ByteArray := ⟨#[]⟩
def ssRows (l : List ByteArray) : List (List PV) := l.map fun s => [.str s]
@[go_sem] theorem ssRows_length (l : List ByteArray) : (ssRows l).length = l.length := nr (by simp [ssRows])
@[go_sem] theorem idx_ss (S : Store) (l : List ByteArray) (ex : Bool) (i : Int) : indexAddrO Tryz.prog 45 S (.sl (ssRows l) ex) (.int .i64 i) = if 0 ≤ i ∧ i < l.length then some (.cp [.str (l.getD i.toNat s0)]) else none := nr (sl_ss.idx (enc := fun s => [PV.str s]) (fun _ => rfl) s0 S l ex i)
def NmsOk (l : List ByteArray) : Prop := ∀ s ∈ l, s.size ≤ maxLen
theorem NmsOk.at {l : List ByteArray} (h : NmsOk l) {i : Nat} (hi : i < l.length) : (l.getD i s0).size ≤ maxLen := by
  rw [getD_lt hi]; exact h _ (List.getElem_mem hi)
section
attribute [local irreducible] Vs.callL Vs.callRL tyi callO callM callMV appendE storeE evLoad indexAddrO sliceO evFieldAddr evField buildO buildSliceO makeSliceO allocO boxed lenO copyE convertO indexO Vs.gc freezeAll
end
end Go.Vs
end
section
set_option linter.unusedVariables false
set_option linter.unusedSimpArgs false
set_option maxRecDepth 100000
namespace Go.Vs
open Go Go.Proofs
section
attribute [local irreducible] Vs.callL Vs.callRL tyi callO callM callMV appendE storeE evLoad indexAddrO sliceO evFieldAddr evField buildO buildSliceO makeSliceO allocO boxed lenO copyE convertO indexO Vs.gc freezeAll
end
end Go.Vs
end
section
set_option linter.unusedVariables false
set_option linter.unusedSimpArgs false
set_option maxRecDepth 100000
namespace Go.Vs
open Go Go.Proofs
section
attribute [local irreducible] Vs.callL Vs.callRL tyi callO callM callMV appendE storeE evLoad indexAddrO sliceO evFieldAddr evField buildO buildSliceO makeSliceO allocO boxed lenO copyE convertO indexO Vs.gc freezeAll
end
end Go.Vs
end
section
set_option linter.unusedVariables false
set_option linter.unusedSimpArgs false
set_option maxRecDepth 100000
namespace Go.Vs
open Go Go.Proofs
theorem sl_sts : SlT 102 35 1 24 := ⟨by kernel_rfl, by kernel_rfl, by kernel_rfl, by kernel_rfl, by kernel_rfl⟩
@[go_sem] theorem lenm_sts (i o l : Nat) (ex : Bool) : lenO (tyi Tryz.prog 102) (.msl i o l ex) = some (.int .i64 l) := nr (sl_sts.lenm i o l ex)
@[go_sem] theorem build_sts (id n : Nat) (is : List Nat) (rows : List (List PV)) : buildSliceO Tryz.prog 102 id n is rows = if is = List.range n ∧ rowsOK 1 rows = true ∧ (rows.all fun r => r.all PV.cell) = true ∧ n * 1 ≤ 16777216 then some { v := .msl id 0 n true, new := some (rows, some (some 1)) } else none := nr (sl_sts.buildSlice (by decide) id n is rows)
section
attribute [local irreducible] Vs.callL Vs.callRL tyi callO callM callMV appendE storeE evLoad indexAddrO sliceO evFieldAddr evField buildO buildSliceO makeSliceO allocO boxed lenO copyE convertO indexO Vs.gc freezeAll
end
end Go.Vs
end
section
set_option linter.unusedVariables false
set_option linter.unusedSimpArgs false
set_option maxRecDepth 100000
namespace Go.Vs
open Go Go.Proofs
section
attribute [local irreducible] Vs.callL Vs.callRL tyi callO callM callMV appendE storeE evLoad indexAddrO sliceO evFieldAddr evField buildO buildSliceO makeSliceO allocO boxed lenO copyE convertO indexO Vs.gc freezeAll
end
end Go.Vs
end
section
set_option linter.unusedVariables false
set_option linter.unusedSimpArgs false
set_option maxRecDepth 100000
namespace Go.Vs
open Go Go.Proofs
end Go.Vs
end
section
set_option linter.unusedVariables false
namespace Go.Vs
open Go Go.Proofs
theorem awake_run : callP Tryz.prog hints 60 8 [] = some (.bool true) := by kernel_rfl
theorem awake_L : callL Tryz.prog hints 8 [] = some (.bool true) := callL_run awake_run
end Go.Vs
end
section
set_option linter.unusedVariables false
set_option linter.unusedSimpArgs false
set_option maxRecDepth 100000
namespace Go.Vs
open Go Go.Proofs
section
attribute [local irreducible] Vs.callL Vs.callRL tyi callO callM callMV appendE storeE evLoad indexAddrO sliceO evFieldAddr evField buildO buildSliceO makeSliceO allocO boxed lenO copyE convertO indexO Vs.gc freezeAll
end
end Go.Vs
end
section
set_option linter.unusedVariables false
set_option linter.unusedSimpArgs false
namespace Go.Proofs
open Go.RowKit
theorem Tryz.sizeBuilder : (Tryz.prog.info? 166).map (·.size) = some 2 := by kernel_rfl
theorem Tryz.liesBuilder : liesAt Tryz.prog Tryz.prog.depth 166 (2 / Tryz.prog.cellsOf 166) 0 166 1 = true := by kernel_rfl
theorem Tryz.infoByte : (Tryz.prog.info? 5).map (fun i => (i.zero, i.size, i.bytes)) = some (some (.int .u8 0), 1, 1) := by kernel_rfl
theorem Tryz.cellsByte : Tryz.prog.cellsOf 5 = 1 := by kernel_rfl
set_option maxHeartbeats 1000000 in
set_option maxRecDepth 100000 in
theorem Tryz.Builder_String (B b : Nat) (l : List UInt8) (w : World) (h : Lib.IsBuilder 166 5 B b (Lib.byteCells l) w) (h0 : l ≠ []) :
    Calls Tryz.prog 158 #[.pointer (some ⟨b, 0, none⟩)] w fun e w' => e = .returned (.string ⟨l.toArray⟩) ∧ Below B w w' := by
  obtain ⟨p, hB, v, hbk, hown, hne⟩ : ∃ p, Lib.BuilderAt 166 5 B b p (Lib.byteCells l) w := by
    rcases h with h | h
    · exact ⟨_, h⟩
    · exact ⟨_, h⟩
  have hl0 : l.length ≠ 0 := by simpa using h0
  rw [Lib.byteCells_length] at hown
  obtain ⟨g, cap, cur, rfl, hbg, hg, hnc, hcm, hcs, htake⟩ : ∃ g cap cur, v = .slice (some ⟨g, 0, none⟩) l.length cap ∧ B ≤ g ∧ w.heap[g]? = some (.cells cur 5 (0, 0)) ∧ l.length ≤ cap ∧ cap ≤ maxLen ∧ cur.size = cap * 1 ∧ cur.toList.take (l.length * 1) = Lib.byteCells l := by
    rcases hown.2 with ⟨_, hz⟩ | ⟨g, cap, cur, hv, r⟩
    · exact absurd hz hl0
    · exact ⟨g, cap, cur, hv, r⟩
  have c1 : w.drew.cell? ⟨b, 1, none⟩ = some (.slice (some ⟨g, 0, none⟩) l.length cap) := by
    have : w.drew.heap[b]? = some (.cells #[p, .slice (some ⟨g, 0, none⟩) l.length cap] 166 (0, 0)) := hbk
    rw [Lib.cell_of_heap this]; rfl
  have hSD : (Builtin.unsafeSliceData_ #[144] 188 #[.slice (some ⟨g, 0, none⟩) l.length cap]).run Tryz.prog w.drew = .ok (.pointer (some ⟨g, 0, none⟩)) w.drew :=
    Lib.run_unsafeSliceData_row _ _ _ _ _ _ (by omega)
  have hUS : (Builtin.unsafeString_ #[188, 3] 9 #[.pointer (some ⟨g, 0, none⟩), .int .i64 l.length]).run Tryz.prog w.drew = .ok (.string ⟨l.toArray⟩) (w.drew.freeze ⟨g, 0, none⟩ l.length) := by
    refine Lib.run_unsafeString_row w.drew 188 3 9 5 Tryz.underlying188 Tryz.cellsByte g cur.size (by have hg' : w.drew.heap[g]? = some (.cells cur 5 (0, 0)) := hg; simp [World.shape?, hg']) l h0 (by omega) (by unfold maxLen at hcm; omega) ?_
    intro j x hx
    have := hown.cells (g := g) rfl j (.int .u8 x.toNat) (by simp [Lib.byteCells, hx])
    exact this
  go_enter Tryz.func158, Tryz.ntmps158
  go_wp2
  go_region
  all_goals (go_wp2; go_ret; exact ⟨rfl, Lib.below_freeze (Below.drew (Below.refl B w)) (p := ⟨g, 0, none⟩) hbg _⟩)
set_option maxHeartbeats 1000000 in
set_option maxRecDepth 100000 in
theorem Tryz.copyCheck_fresh (b : Nat) (w : World) (h0 : w.cell? ⟨b, 0, none⟩ = some (.pointer none)) (hsh : w.shape? b = some (166, 2)) (hfz : w.frozen? ⟨b, 0, none⟩ = false) :
    Calls Tryz.prog 174 #[.pointer (some ⟨b, 0, none⟩)] w fun e w' => e = .returned (.tuple #[]) ∧ w' = w.setCell ⟨b, 0, none⟩ (.pointer (some ⟨b, 0, none⟩)) := by
  obtain ⟨j, hj, hjs⟩ := Option.map_eq_some_iff.1 Tryz.sizeBuilder
  go_enter Tryz.func174, Tryz.ntmps174
  go_wp2
  rw [Lib.run_to_unsafe w ⟨b, 0, none⟩ Tryz.underlying164 Tryz.underlying197 hj (by rw [hjs]; decide) hsh (Nat.zero_lt_succ 1)]
  simp only [Result.andThen]
  rw [Oper.upon_value]
  go_wp2
  rw [run_callFunc_extern Tryz.func188 (by kernel_rfl) (by kernel_rfl) (by kernel_rfl) (e := Extern.AbiNoEscape.same) (by kernel_rfl)]
  rw [Lib.run_noEscape]
  simp only [Result.andThen]
  rw [Oper.upon_value]
  go_wp2
  rw [Lib.run_from_unsafe w ⟨b, 0, none⟩ Tryz.underlying197 Tryz.underlying164 hj hsh Tryz.liesBuilder]
  simp only [Result.andThen]
  rw [Oper.upon_value]
  go_wp2
  go_end0
  exact ⟨rfl, rfl⟩
set_option maxHeartbeats 2000000 in
set_option maxRecDepth 100000 in
theorem Tryz.WriteString_fresh (B b : Nat) (bs : List Value) (s : ByteArray) (w : World) (h : Lib.BuilderAt 166 5 B b (.pointer none) bs w) (hlen : bs.length + s.size ≤ 140737488355328) (hBw : B ≤ w.heap.size) :
    Calls Tryz.prog 156 #[.pointer (some ⟨b, 0, none⟩), .string s] w fun e w' => e = .returned (.tuple #[.int .i64 s.size, .nilIface]) ∧ (Lib.BuilderAt 166 5 B b (.pointer (some ⟨b, 0, none⟩)) (bs ++ Lib.strCells s) w' ∧ Below B w w') := by
  obtain ⟨i0, hi, hz0, hz1, hz2⟩ := info_parts Tryz.infoByte
  go_enter Tryz.func156, Tryz.ntmps156
  go_wp2_with (go_at_call 174; refine (Tryz.copyCheck_fresh b _ h.cell0 h.shape h.frozen0).mono ?_)
  rintro e w1 ⟨rfl, rfl⟩
  have h1 := h.used (.pointer (some ⟨b, 0, none⟩))
  have hb1 : Below B w (w.setCell ⟨b, 0, none⟩ (.pointer (some ⟨b, 0, none⟩))) := (Below.refl B w).setCell (p := ⟨b, 0, none⟩) h.1 _
  generalize w.setCell ⟨b, 0, none⟩ (.pointer (some ⟨b, 0, none⟩)) = w1 at h1 hb1 ⊢
  obtain ⟨hB, v, hbk, hown, hne⟩ := h1
  have c0 : w1.cell? ⟨b, 0, none⟩ = some (.pointer (some ⟨b, 0, none⟩)) := by rw [Lib.cell_of_heap hbk]; rfl
  have c1 : w1.cell? ⟨b, 1, none⟩ = some v := by rw [Lib.cell_of_heap hbk]; rfl
  go_wp2_with (at_builtin; refine Lib.wpList_append_own_string _ rfl _ _ 144 9 rfl B 5 i0 Tryz.underlying144 Tryz.underlying9 hi hz0 hz1 hz2 _ _ _ rfl hown s rfl ?c3 ?c4 ?c5 ?_)
  case c3 => unfold maxLen; omega
  case c4 => omega
  case c5 => have := hb1.size; omega
  intro v' w2 hown' hgrow _
  have hlt : b < w1.heap.size := by
    rcases Nat.lt_or_ge b w1.heap.size with h' | h'
    · exact h'
    · simp [Array.getElem?_eq_none h'] at hbk
  have hb2 : w2.heap[b]? = some (.cells #[.pointer (some ⟨b, 0, none⟩), v] 166 (0, 0)) := by
    rw [hgrow.block b hlt (fun e => hne e.symm)]
    exact hbk
  have d0 : w2.cell? ⟨b, 0, none⟩ = some (.pointer (some ⟨b, 0, none⟩)) := by rw [Lib.cell_of_heap hb2]; rfl
  have d1 : w2.cell? ⟨b, 1, none⟩ = some v := by rw [Lib.cell_of_heap hb2]; rfl
  have f1 : w2.frozen? ⟨b, 1, none⟩ = false := Lib.frozen_of_heap hb2 1
  obtain ⟨ao, n', cap, rfl⟩ : ∃ ao n' cap, v' = .slice ao n' cap := by
    rcases hown'.2 with ⟨hv, _⟩ | ⟨g, cap, cur, hv, _⟩
    · exact ⟨_, _, _, hv⟩
    · exact ⟨_, _, _, hv⟩
  go_wp2
  go_ret2
  refine ⟨rfl, ?_, ?_⟩
  · exact Lib.BuilderAt.put (T := 166) (e := 5) hB hb2 (bs' := bs ++ Lib.strCells s) (by simpa [Lib.strCells_length] using hown') (by decide)
  · exact (hb1.grown hgrow (by have := hb1.size; omega) (fun k hk => (hown.lt k hk).1)).setCell (p := ⟨b, 1, none⟩) hB _
end Go.Proofs
end

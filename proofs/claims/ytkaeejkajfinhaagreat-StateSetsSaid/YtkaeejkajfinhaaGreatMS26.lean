/- Sets of names: Valid and Has, the program's and the reference's. -/

import Derived.Test.YtkaeejkajfinhaaGreatMS24
import Derived.Test.YtkaeejkajfinhaaGreatMS25
section
set_option linter.unusedVariables false
set_option linter.unusedSimpArgs false
set_option maxRecDepth 100000
namespace Go.Vs
open Go Go.Proofs
def s0 : ByteArray := ⟨#[]⟩
def ssRows (l : List ByteArray) : List (List PV) := l.map fun s => [.str s]
@[go_sem] theorem ssRows_length (l : List ByteArray) : (ssRows l).length = l.length := nr (by simp [ssRows])
@[go_sem] theorem idx_ss (S : Store) (l : List ByteArray) (ex : Bool) (i : Int) : indexAddrO Tryz.prog 45 S (.sl (ssRows l) ex) (.int .i64 i) = if 0 ≤ i ∧ i < l.length then some (.cp [.str (l.getD i.toNat s0)]) else none := nr (sl_ss.idx (enc := fun s => [PV.str s]) (fun _ => rfl) s0 S l ex i)
def asBd (s : ByteArray) : Bd := ⟨s, rv0⟩
theorem asBd_at (l : List ByteArray) (k : Nat) : ((l.map asBd).getD k bd0).name = l.getD k s0 := by
  simp only [List.getD_eq_getElem?_getD, List.getElem?_map]
  cases l[k]? <;> rfl
/-- Is a name in a list? -/
def hasL (nm : ByteArray) (L : List Bd) : Bool := L.any fun b => b.name.toList == nm.toList
theorem foundL_has (nm : ByteArray) : ∀ {L : List Bd}, Sorted L → foundL nm L = hasL nm L
  | [], _ => rfl
  | b :: r, h => by
    unfold Sorted at h
    rw [List.pairwise_cons] at h
    have ih := foundL_has nm h.2
    unfold foundL hasL at ih ⊢
    rw [List.any_cons]
    by_cases hb : Op.bytesLess b.name.toList nm.toList = true
    · have e0 : posL nm (b :: r) = posL nm r + 1 := by simp [posL, hb]
      have e1 : (b.name.toList == nm.toList) = false := beq_eq_false_iff_ne.2 (before.ne hb)
      rw [e0, e1, Bool.false_or, ← ih]
      simp
    · have e0 : posL nm (b :: r) = 0 := by simp [posL, hb]
      rw [e0]
      simp only [List.length_cons, Nat.zero_lt_succ, decide_true, Bool.true_and, List.getD_cons_zero]
      cases e : b.name.toList == nm.toList
      · symm
        rw [Bool.false_or, List.any_eq_false]
        intro c hc
        have hb' : Op.bytesLess b.name.toList nm.toList = false := by simpa using hb
        have e2 : before nm b.name := (not_before.1 hb').resolve_left (beq_eq_false_iff_ne.1 e)
        simpa using fun ec => before.ne (e2.trans (h.1 c hc)) ec.symm
      · rfl
def nmOK (l : List ByteArray) (i : Nat) : Bool := varOK (l.getD i s0) && (decide (i = 0) || Op.bytesLess (l.getD (i - 1) s0).toList (l.getD i s0).toList)
def nmsOK (l : List ByteArray) : Nat → Nat → Bool
  | 0, _ => true
  | m + 1, i => nmOK l i && nmsOK l m (i + 1)
theorem nmsOK_at {L : List ByteArray} : ∀ {m i : Nat}, nmsOK L m i = true → ∀ j, i ≤ j → j < i + m → nmOK L j = true
  | 0, i, _, j, h1, h2 => by omega
  | m + 1, i, h, j, h1, h2 => by
    simp only [nmsOK, Bool.and_eq_true] at h
    rcases Nat.eq_or_lt_of_le h1 with rfl | h3
    · exact h.1
    · exact nmsOK_at h.2 j h3 (by omega)
theorem nms_sorted {l : List ByteArray} (h : nmsOK l l.length 0 = true) : Sorted (l.map asBd) := by
  have h3 : ∀ j, j < l.length → nmOK l j = true := fun j hj => nmsOK_at h j (by omega) (by omega)
  have step : ∀ j, 0 < j → j < l.length → before (l.getD (j - 1) s0) (l.getD j s0) := fun j h0 hj => by
    have := h3 j hj
    unfold nmOK at this
    simp only [Bool.and_eq_true, Bool.or_eq_true, decide_eq_true_eq] at this
    rcases this.2 with h | h
    · omega
    · exact h
  have far : ∀ d i, i + d + 1 < l.length → before (l.getD i s0) (l.getD (i + d + 1) s0) := by
    intro d
    induction d with
    | zero => intro i hi; have := step (i + 1) (by omega) hi; rwa [Nat.add_sub_cancel] at this
    | succ d ih =>
      intro i hi
      have a := ih i (by omega)
      have b := step (i + (d + 1) + 1) (by omega) hi
      rw [Nat.add_sub_cancel] at b
      exact a.trans b
  unfold Sorted
  rw [List.pairwise_iff_getElem]
  intro i j hi hj hij
  simp only [List.length_map] at hi hj
  have := far (j - i - 1) i (by omega)
  rw [show i + (j - i - 1) + 1 = j by omega, getD_lt hi, getD_lt hj] at this
  simpa [asBd] using this
def NmsOk (l : List ByteArray) : Prop := ∀ s ∈ l, s.size ≤ maxLen
theorem NmsOk.at {l : List ByteArray} (h : NmsOk l) {i : Nat} (hi : i < l.length) : (l.getD i s0).size ≤ maxLen := by
  rw [getD_lt hi]; exact h _ (List.getElem_mem hi)
section
attribute [local irreducible] Vs.callL Vs.callRL tyi callO callM callMV appendE storeE evLoad indexAddrO sliceO evFieldAddr evField buildO buildSliceO makeSliceO allocO boxed lenO copyE convertO indexO Vs.gc freezeAll
noncomputable def fx_static_Valid : FX := ⟨Tryz.f66, hints.of 66, []⟩
theorem ok_static_Valid : fx_static_Valid.ok 66 := ⟨by kernel_rfl, of_decide_eq_true (by kernel_rfl), by kernel_rfl, by kernel_rfl, by kernel_rfl, by kernel_rfl⟩
theorem sem_static_Valid (b0 : Nat) (m : Md) (fs : List Fr) (e : Env) (S : Store) : sem b0 fx_static_Valid m fs e S = run b0 fx_static_Valid 1000 m fs e S := (sem_eq _ _ _ _ _ _).trans (run_sem b0 fx_static_Valid ok_static_Valid.good 1000 m fs e S).symm
theorem loop_nValid (a : Bool) (L : List ByteArray) (hL : NmsOk L) (hl : L.length ≤ 1000000) : ∀ (m i : Nat), i + m = L.length → loopAt 0 fx_static_Valid 0 52 1 [.blk 0, .seq 0 7] [(1, .mp 0 0 0), (6, .sl (ssRows L) false), (7, .int .i64 L.length), (8, .int .i64 i)] [.arr [[.bool a, .sl (ssRows L) false]] none false] = some (.bool (nmsOK L m i), [.arr [[.bool a, .sl (ssRows L) false]] none false]) := by
  intro m
  induction m with
  | zero =>
    intro i hi
    have h1 : ¬ (i : Int) < (L.length : Int) := by omega
    refine loopAt_step ok_static_Valid.good 1000 ?_
    simp only [nmsOK]
    ((repeat ((conv => lhs; whnf); simp only [go_sem, ↓reduceIte, Nat.reduceEqDiff, Nat.reduceBEq, Nat.reduceAdd, Nat.reduceMul, Nat.reduceSub, Nat.reduceLT, Nat.reduceLeDiff, reduceCtorEq, Int.reduceToNat, Int.reduceLE, Int.reduceLT, Int.reduceEq, sem_static_Valid, h1])); try (conv => lhs; whnf); try rfl)
    refine exit_run ok_static_Valid.good 1000 ?_
    ((repeat ((conv => lhs; whnf); simp only [go_sem, ↓reduceIte, Nat.reduceEqDiff, Nat.reduceBEq, Nat.reduceAdd, Nat.reduceMul, Nat.reduceSub, Nat.reduceLT, Nat.reduceLeDiff, reduceCtorEq, Int.reduceToNat, Int.reduceLE, Int.reduceLT, Int.reduceEq, sem_static_Valid])); try (conv => lhs; whnf); try rfl)
  | succ m ih =>
    intro i hi
    have h1 : (i : Int) < (L.length : Int) := by omega
    have h2 := wrap_succ (i := i) (n := L.length) (by omega) (by unfold maxLen; omega)
    have x1 : 0 ≤ (i : Int) ∧ (i : Int) < (L.length : Int) := ⟨by omega, h1⟩
    have key := ih (i + 1) (by omega)
    have hb := hL.at (i := i) (by omega)
    refine loopAt_step ok_static_Valid.good 1000 ?_
    simp only [nmsOK, nmOK]
    generalize hB : L.getD i s0 = nm at hb ⊢
    generalize hP : L.getD (i - 1) s0 = q
    have cv := fun S => svar_o S nm hb
    cases k1 : varOK nm
    · rw [k1] at cv
      simp only [Bool.false_and]
      ((repeat ((conv => lhs; whnf); simp only [go_sem, ↓reduceIte, Nat.reduceEqDiff, Nat.reduceBEq, Nat.reduceAdd, Nat.reduceMul, Nat.reduceSub, Nat.reduceLT, Nat.reduceLeDiff, reduceCtorEq, Int.reduceToNat, Int.reduceLE, Int.reduceLT, Int.reduceEq, sem_static_Valid, h1, x1, Int.toNat_natCast, hB, cv])); try (conv => lhs; whnf); try rfl)
    · rw [k1] at cv
      simp only [Bool.true_and]
      by_cases c0 : i = 0
      · have c0' : ¬ (0 : Int) < (i : Int) := by omega
        simp only [c0, decide_true, Bool.true_or, Bool.true_and]
        simp only [c0, Int.natCast_zero] at *
        ((repeat ((conv => lhs; whnf); simp only [go_sem, ↓reduceIte, Nat.reduceEqDiff, Nat.reduceBEq, Nat.reduceAdd, Nat.reduceMul, Nat.reduceSub, Nat.reduceLT, Nat.reduceLeDiff, reduceCtorEq, Int.reduceToNat, Int.reduceLE, Int.reduceLT, Int.reduceEq, sem_static_Valid, h1, x1, Int.toNat_zero, hB, cv, c0', h2])); try (conv => lhs; whnf); try rfl)
        exact key
      · have c0' : (0 : Int) < (i : Int) := by omega
        have w1 : IntKind.i64.wrap ((i : Int) - 1) = ((i - 1 : Nat) : Int) := by rw [IntKind.wrap_i64]; omega
        have x2 : 0 ≤ ((i - 1 : Nat) : Int) ∧ ((i - 1 : Nat) : Int) < (L.length : Int) := ⟨by omega, by omega⟩
        simp only [c0, decide_false, Bool.false_or]
        cases k3 : Op.bytesLess q.toList nm.toList
        · simp only [Bool.false_and]
          ((repeat ((conv => lhs; whnf); simp only [go_sem, ↓reduceIte, Nat.reduceEqDiff, Nat.reduceBEq, Nat.reduceAdd, Nat.reduceMul, Nat.reduceSub, Nat.reduceLT, Nat.reduceLeDiff, reduceCtorEq, Int.reduceToNat, Int.reduceLE, Int.reduceLT, Int.reduceEq, sem_static_Valid, h1, x1, Int.toNat_natCast, hB, hP, cv, c0', w1, x2, k3])); try (conv => lhs; whnf); try rfl)
        · simp only [Bool.true_and]
          ((repeat ((conv => lhs; whnf); simp only [go_sem, ↓reduceIte, Nat.reduceEqDiff, Nat.reduceBEq, Nat.reduceAdd, Nat.reduceMul, Nat.reduceSub, Nat.reduceLT, Nat.reduceLeDiff, reduceCtorEq, Int.reduceToNat, Int.reduceLE, Int.reduceLT, Int.reduceEq, sem_static_Valid, h1, x1, Int.toNat_natCast, hB, hP, cv, c0', w1, x2, k3, h2])); try (conv => lhs; whnf); try rfl)
          exact key
theorem call_nValid (a : Bool) (L : List ByteArray) (hL : NmsOk L) (hl : L.length ≤ 1000000) : callL Tryz.prog hints 66 [.agg [.bool a, .sl (ssRows L) false]] = some (.bool (nmsOK L L.length 0)) := by
  refine FX.callL (r := (.bool (nmsOK L L.length 0), [.arr [[.bool a, .sl (ssRows L) false]] none false])) ok_static_Valid 1000 rfl rfl ?_ rfl
  have key := loop_nValid a L hL hl L.length 0 (by omega)
  ((repeat ((conv => lhs; whnf); simp only [go_sem, ↓reduceIte, Nat.reduceEqDiff, Nat.reduceBEq, Nat.reduceAdd, Nat.reduceMul, Nat.reduceSub, Nat.reduceLT, Nat.reduceLeDiff, reduceCtorEq, Int.reduceToNat, Int.reduceLE, Int.reduceLT, Int.reduceEq, sem_static_Valid])); try (conv => lhs; whnf); try rfl)
  exact key
noncomputable def fx_isochroneref10_Valid : FX := ⟨Tryz.f69, hints.of 69, []⟩
theorem ok_isochroneref10_Valid : fx_isochroneref10_Valid.ok 69 := ⟨by kernel_rfl, of_decide_eq_true (by kernel_rfl), by kernel_rfl, by kernel_rfl, by kernel_rfl, by kernel_rfl⟩
theorem sem_isochroneref10_Valid (b0 : Nat) (m : Md) (fs : List Fr) (e : Env) (S : Store) : sem b0 fx_isochroneref10_Valid m fs e S = run b0 fx_isochroneref10_Valid 1000 m fs e S := (sem_eq _ _ _ _ _ _).trans (run_sem b0 fx_isochroneref10_Valid ok_isochroneref10_Valid.good 1000 m fs e S).symm
theorem loop_nValid10 (a : Bool) (L : List ByteArray) (hL : NmsOk L) (hl : L.length ≤ 1000000) : ∀ (m i : Nat), i + m = L.length → loopAt 0 fx_isochroneref10_Valid 0 52 1 [.blk 0, .seq 0 7] [(1, .mp 0 0 0), (3, .int .i64 i)] [.arr [[.bool a, .sl (ssRows L) false]] none false] = some (.bool (nmsOK L m i), [.arr [[.bool a, .sl (ssRows L) false]] none false]) := by
  intro m
  induction m with
  | zero =>
    intro i hi
    have h1 : ¬ (i : Int) < (L.length : Int) := by omega
    refine loopAt_step ok_isochroneref10_Valid.good 1000 ?_
    simp only [nmsOK]
    ((repeat ((conv => lhs; whnf); simp only [go_sem, ↓reduceIte, Nat.reduceEqDiff, Nat.reduceBEq, Nat.reduceAdd, Nat.reduceMul, Nat.reduceSub, Nat.reduceLT, Nat.reduceLeDiff, reduceCtorEq, Int.reduceToNat, Int.reduceLE, Int.reduceLT, Int.reduceEq, sem_isochroneref10_Valid, h1])); try (conv => lhs; whnf); try rfl)
    refine exit_run ok_isochroneref10_Valid.good 1000 ?_
    ((repeat ((conv => lhs; whnf); simp only [go_sem, ↓reduceIte, Nat.reduceEqDiff, Nat.reduceBEq, Nat.reduceAdd, Nat.reduceMul, Nat.reduceSub, Nat.reduceLT, Nat.reduceLeDiff, reduceCtorEq, Int.reduceToNat, Int.reduceLE, Int.reduceLT, Int.reduceEq, sem_isochroneref10_Valid])); try (conv => lhs; whnf); try rfl)
  | succ m ih =>
    intro i hi
    have h1 : (i : Int) < (L.length : Int) := by omega
    have h2 := wrap_succ (i := i) (n := L.length) (by omega) (by unfold maxLen; omega)
    have x1 : 0 ≤ (i : Int) ∧ (i : Int) < (L.length : Int) := ⟨by omega, h1⟩
    have key := ih (i + 1) (by omega)
    have hb := hL.at (i := i) (by omega)
    refine loopAt_step ok_isochroneref10_Valid.good 1000 ?_
    simp only [nmsOK, nmOK]
    generalize hB : L.getD i s0 = nm at hb ⊢
    generalize hP : L.getD (i - 1) s0 = q
    have cv := fun S => Var_o S nm hb
    cases k1 : varOK nm
    · rw [k1] at cv
      simp only [Bool.false_and]
      ((repeat ((conv => lhs; whnf); simp only [go_sem, ↓reduceIte, Nat.reduceEqDiff, Nat.reduceBEq, Nat.reduceAdd, Nat.reduceMul, Nat.reduceSub, Nat.reduceLT, Nat.reduceLeDiff, reduceCtorEq, Int.reduceToNat, Int.reduceLE, Int.reduceLT, Int.reduceEq, sem_isochroneref10_Valid, h1, x1, Int.toNat_natCast, hB, cv])); try (conv => lhs; whnf); try rfl)
    · rw [k1] at cv
      simp only [Bool.true_and]
      by_cases c0 : i = 0
      · have c0' : ¬ (0 : Int) < (i : Int) := by omega
        simp only [c0, decide_true, Bool.true_or, Bool.true_and]
        simp only [c0, Int.natCast_zero] at *
        ((repeat ((conv => lhs; whnf); simp only [go_sem, ↓reduceIte, Nat.reduceEqDiff, Nat.reduceBEq, Nat.reduceAdd, Nat.reduceMul, Nat.reduceSub, Nat.reduceLT, Nat.reduceLeDiff, reduceCtorEq, Int.reduceToNat, Int.reduceLE, Int.reduceLT, Int.reduceEq, sem_isochroneref10_Valid, h1, x1, Int.toNat_zero, hB, cv, c0', h2])); try (conv => lhs; whnf); try rfl)
        exact key
      · have c0' : (0 : Int) < (i : Int) := by omega
        have w1 : IntKind.i64.wrap ((i : Int) - 1) = ((i - 1 : Nat) : Int) := by rw [IntKind.wrap_i64]; omega
        have x2 : 0 ≤ ((i - 1 : Nat) : Int) ∧ ((i - 1 : Nat) : Int) < (L.length : Int) := ⟨by omega, by omega⟩
        simp only [c0, decide_false, Bool.false_or]
        cases k3 : Op.bytesLess q.toList nm.toList
        · simp only [Bool.false_and]
          ((repeat ((conv => lhs; whnf); simp only [go_sem, ↓reduceIte, Nat.reduceEqDiff, Nat.reduceBEq, Nat.reduceAdd, Nat.reduceMul, Nat.reduceSub, Nat.reduceLT, Nat.reduceLeDiff, reduceCtorEq, Int.reduceToNat, Int.reduceLE, Int.reduceLT, Int.reduceEq, sem_isochroneref10_Valid, h1, x1, Int.toNat_natCast, hB, hP, cv, c0', w1, x2, k3])); try (conv => lhs; whnf); try rfl)
        · simp only [Bool.true_and]
          ((repeat ((conv => lhs; whnf); simp only [go_sem, ↓reduceIte, Nat.reduceEqDiff, Nat.reduceBEq, Nat.reduceAdd, Nat.reduceMul, Nat.reduceSub, Nat.reduceLT, Nat.reduceLeDiff, reduceCtorEq, Int.reduceToNat, Int.reduceLE, Int.reduceLT, Int.reduceEq, sem_isochroneref10_Valid, h1, x1, Int.toNat_natCast, hB, hP, cv, c0', w1, x2, k3, h2])); try (conv => lhs; whnf); try rfl)
          exact key
theorem call_nValid10 (a : Bool) (L : List ByteArray) (hL : NmsOk L) (hl : L.length ≤ 1000000) : callL Tryz.prog hints 69 [.agg [.bool a, .sl (ssRows L) false]] = some (.bool (nmsOK L L.length 0)) := by
  refine FX.callL (r := (.bool (nmsOK L L.length 0), [.arr [[.bool a, .sl (ssRows L) false]] none false])) ok_isochroneref10_Valid 1000 rfl rfl ?_ rfl
  have key := loop_nValid10 a L hL hl L.length 0 (by omega)
  ((repeat ((conv => lhs; whnf); simp only [go_sem, ↓reduceIte, Nat.reduceEqDiff, Nat.reduceBEq, Nat.reduceAdd, Nat.reduceMul, Nat.reduceSub, Nat.reduceLT, Nat.reduceLeDiff, reduceCtorEq, Int.reduceToNat, Int.reduceLE, Int.reduceLT, Int.reduceEq, sem_isochroneref10_Valid])); try (conv => lhs; whnf); try rfl)
  exact key
end
end Go.Vs
end
/- Sets of names: Has. -/
section
set_option linter.unusedVariables false
set_option linter.unusedSimpArgs false
set_option maxRecDepth 100000
namespace Go.Vs
open Go Go.Proofs
/-- Is a name in a list of names? -/
def inL (nm : ByteArray) (l : List ByteArray) : Bool := l.any fun s => s.toList == nm.toList
theorem inL_has (nm : ByteArray) (l : List ByteArray) : hasL nm (l.map asBd) = inL nm l := by
  unfold hasL inL
  rw [List.any_map]; rfl
section
attribute [local irreducible] Vs.callL Vs.callRL tyi callO callM callMV appendE storeE evLoad indexAddrO sliceO evFieldAddr evField buildO buildSliceO makeSliceO allocO boxed lenO copyE convertO indexO Vs.gc freezeAll
noncomputable def fx_sort_SearchStrings_1 : FX := ⟨Tryz.f151, hints.of 151, []⟩
theorem ok_sort_SearchStrings_1 : fx_sort_SearchStrings_1.ok 151 := ⟨by kernel_rfl, of_decide_eq_true (by kernel_rfl), by kernel_rfl, by kernel_rfl, by kernel_rfl, by kernel_rfl⟩
theorem sem_sort_SearchStrings_1 (b0 : Nat) (m : Md) (fs : List Fr) (e : Env) (S : Store) : sem b0 fx_sort_SearchStrings_1 m fs e S = run b0 fx_sort_SearchStrings_1 1000 m fs e S := (sem_eq _ _ _ _ _ _).trans (run_sem b0 fx_sort_SearchStrings_1 ok_sort_SearchStrings_1.good 1000 m fs e S).symm
theorem call_ss1 (l : List ByteArray) (nm : ByteArray) (i : Nat) (hi : i < l.length) : callRL Tryz.prog hints 151 [.int .i64 i, .mp 0 0 0, .mp 1 0 0] [.arr [[.sl (ssRows l) false]] none false, .arr [[.str nm]] none false] = some (.bool (atLeast (l.map asBd) nm i), [.arr [[.sl (ssRows l) false]] none false, .arr [[.str nm]] none false]) := by
  refine FX.callRL (r := (.bool (atLeast (l.map asBd) nm i), [.arr [[.sl (ssRows l) false]] none false, .arr [[.str nm]] none false])) ok_sort_SearchStrings_1 1000 rfl rfl ?_
  have x1 : 0 ≤ (i : Int) ∧ (i : Int) < (l.length : Int) := ⟨by omega, by omega⟩
  unfold atLeast
  rw [asBd_at]
  ((repeat ((conv => lhs; whnf); simp only [go_sem, ↓reduceIte, Nat.reduceEqDiff, Nat.reduceBEq, Nat.reduceAdd, Nat.reduceMul, Nat.reduceSub, Nat.reduceLT, Nat.reduceLeDiff, reduceCtorEq, Int.reduceToNat, Int.reduceLE, Int.reduceLT, Int.reduceEq, sem_sort_SearchStrings_1, x1, Int.toNat_natCast])); try (conv => lhs; whnf); try rfl)
theorem asks_ss (l : List ByteArray) (nm : ByteArray) : Asks (.sl (ssRows l) false) nm (.fn 151 [] [.mp 0 0 0, .mp 1 0 0]) l.length (atLeast (l.map asBd) nm) := fun i hi => by
  have h := callM_eq (by kernel_rfl) (call_ss1 l nm i hi) (by simp)
  rw [callMV_fn]
  exact h
noncomputable def fx_sort_SearchStrings : FX := ⟨Tryz.f113, hints.of 113, []⟩
theorem ok_sort_SearchStrings : fx_sort_SearchStrings.ok 113 := ⟨by kernel_rfl, of_decide_eq_true (by kernel_rfl), by kernel_rfl, by kernel_rfl, by kernel_rfl, by kernel_rfl⟩
theorem sem_sort_SearchStrings (b0 : Nat) (m : Md) (fs : List Fr) (e : Env) (S : Store) : sem b0 fx_sort_SearchStrings m fs e S = run b0 fx_sort_SearchStrings 1000 m fs e S := (sem_eq _ _ _ _ _ _).trans (run_sem b0 fx_sort_SearchStrings ok_sort_SearchStrings.good 1000 m fs e S).symm
theorem call_ss (l : List ByteArray) (nm : ByteArray) (hl : l.length ≤ 1000000) (hs : Sorted (l.map asBd)) : callL Tryz.prog hints 113 [.sl (ssRows l) false, .str nm] = some (.int .i64 (posL nm (l.map asBd))) := by
  have ht := posL_turns nm hs
  rw [List.length_map] at ht
  have co := callM_eq (by kernel_rfl) (call_Search _ nm _ (asks_ss l nm) (by omega) ht) (by simp)
  refine FX.callL (r := (.int .i64 (posL nm (l.map asBd)), [.arr [[.sl (ssRows l) false]] none false, .arr [[.str nm]] none false])) ok_sort_SearchStrings 1000 rfl rfl ?_ rfl
  ((repeat ((conv => lhs; whnf); simp only [go_sem, ↓reduceIte, Nat.reduceEqDiff, Nat.reduceBEq, Nat.reduceAdd, Nat.reduceMul, Nat.reduceSub, Nat.reduceLT, Nat.reduceLeDiff, reduceCtorEq, Int.reduceToNat, Int.reduceLE, Int.reduceLT, Int.reduceEq, sem_sort_SearchStrings, co])); try (conv => lhs; whnf); try rfl)
noncomputable def fx_static_Has : FX := ⟨Tryz.f67, hints.of 67, []⟩
theorem ok_static_Has : fx_static_Has.ok 67 := ⟨by kernel_rfl, of_decide_eq_true (by kernel_rfl), by kernel_rfl, by kernel_rfl, by kernel_rfl, by kernel_rfl⟩
theorem sem_static_Has (b0 : Nat) (m : Md) (fs : List Fr) (e : Env) (S : Store) : sem b0 fx_static_Has m fs e S = run b0 fx_static_Has 1000 m fs e S := (sem_eq _ _ _ _ _ _).trans (run_sem b0 fx_static_Has ok_static_Has.good 1000 m fs e S).symm
theorem call_Has (a : Bool) (l : List ByteArray) (nm : ByteArray) (hl : l.length ≤ 1000000) (hs : Sorted (l.map asBd)) : callL Tryz.prog hints 67 [.agg [.bool a, .sl (ssRows l) false], .str nm] = some (.bool (!(inL nm l == a))) := by
  have co := fun S => callO_plain (S := S) (call_ss l nm hl hs) (by simp [Plain.str]; exact Plain.sl _)
  have hf := foundL_has nm hs
  rw [inL_has] at hf
  rw [← hf]
  unfold foundL
  rw [asBd_at, List.length_map]
  refine FX.callL (r := (.bool (!((decide (posL nm (l.map asBd) < l.length) && ((l.getD (posL nm (l.map asBd)) s0).toList == nm.toList)) == a)), [.arr [[.bool a, .sl (ssRows l) false]] none false])) ok_static_Has 1000 rfl rfl ?_ rfl
  generalize posL nm (l.map asBd) = r at co ⊢
  by_cases c : r < l.length
  · have c' : (r : Int) < (l.length : Int) := by omega
    have x1 : 0 ≤ (r : Int) ∧ (r : Int) < (l.length : Int) := ⟨by omega, by omega⟩
    simp only [c, decide_true, Bool.true_and]
    ((repeat ((conv => lhs; whnf); simp only [go_sem, ↓reduceIte, Nat.reduceEqDiff, Nat.reduceBEq, Nat.reduceAdd, Nat.reduceMul, Nat.reduceSub, Nat.reduceLT, Nat.reduceLeDiff, reduceCtorEq, Int.reduceToNat, Int.reduceLE, Int.reduceLT, Int.reduceEq, sem_static_Has, co, c', x1, Int.toNat_natCast])); try (conv => lhs; whnf); try rfl)
  · have c' : ¬ (r : Int) < (l.length : Int) := by omega
    simp only [c, decide_false, Bool.false_and]
    ((repeat ((conv => lhs; whnf); simp only [go_sem, ↓reduceIte, Nat.reduceEqDiff, Nat.reduceBEq, Nat.reduceAdd, Nat.reduceMul, Nat.reduceSub, Nat.reduceLT, Nat.reduceLeDiff, reduceCtorEq, Int.reduceToNat, Int.reduceLE, Int.reduceLT, Int.reduceEq, sem_static_Has, co, c'])); try (conv => lhs; whnf); try rfl)
noncomputable def fx_isochroneref10_listed : FX := ⟨Tryz.f117, hints.of 117, []⟩
theorem ok_isochroneref10_listed : fx_isochroneref10_listed.ok 117 := ⟨by kernel_rfl, of_decide_eq_true (by kernel_rfl), by kernel_rfl, by kernel_rfl, by kernel_rfl, by kernel_rfl⟩
theorem sem_isochroneref10_listed (b0 : Nat) (m : Md) (fs : List Fr) (e : Env) (S : Store) : sem b0 fx_isochroneref10_listed m fs e S = run b0 fx_isochroneref10_listed 1000 m fs e S := (sem_eq _ _ _ _ _ _).trans (run_sem b0 fx_isochroneref10_listed ok_isochroneref10_listed.good 1000 m fs e S).symm
theorem loop_listed (L : List ByteArray) (nm : ByteArray) (hl : L.length ≤ 1000000) : ∀ (m i : Nat), i + m = L.length → loopAt 0 fx_isochroneref10_listed 0 52 0 [.blk 0, .seq 0 7] [(0, .sl (ssRows L) false), (1, .str nm), (5, .int .i64 i)] [] = some (.bool (inL nm (L.drop i)), []) := by
  intro m
  induction m with
  | zero =>
    intro i hi
    have h1 : ¬ (i : Int) < (L.length : Int) := by omega
    have e : L.drop i = [] := List.drop_eq_nil_of_le (by omega)
    rw [e]
    refine loopAt_step ok_isochroneref10_listed.good 1000 ?_
    ((repeat ((conv => lhs; whnf); simp only [go_sem, ↓reduceIte, Nat.reduceEqDiff, Nat.reduceBEq, Nat.reduceAdd, Nat.reduceMul, Nat.reduceSub, Nat.reduceLT, Nat.reduceLeDiff, reduceCtorEq, Int.reduceToNat, Int.reduceLE, Int.reduceLT, Int.reduceEq, sem_isochroneref10_listed, h1])); try (conv => lhs; whnf); try rfl)
    refine exit_run ok_isochroneref10_listed.good 1000 ?_
    unfold inL
    ((repeat ((conv => lhs; whnf); simp only [go_sem, ↓reduceIte, Nat.reduceEqDiff, Nat.reduceBEq, Nat.reduceAdd, Nat.reduceMul, Nat.reduceSub, Nat.reduceLT, Nat.reduceLeDiff, reduceCtorEq, Int.reduceToNat, Int.reduceLE, Int.reduceLT, Int.reduceEq, sem_isochroneref10_listed, List.any_nil])); try (conv => lhs; whnf); try rfl)
  | succ m ih =>
    intro i hi
    have h1 : (i : Int) < (L.length : Int) := by omega
    have h2 := wrap_succ (i := i) (n := L.length) (by omega) (by unfold maxLen; omega)
    have x1 : 0 ≤ (i : Int) ∧ (i : Int) < (L.length : Int) := ⟨by omega, h1⟩
    have e : L.drop i = L.getD i s0 :: L.drop (i + 1) := by rw [getD_lt (by omega)]; exact List.drop_eq_getElem_cons (by omega)
    have key := ih (i + 1) (by omega)
    rw [e]
    unfold inL at key ⊢
    rw [List.any_cons]
    refine loopAt_step ok_isochroneref10_listed.good 1000 ?_
    cases c : (L.getD i s0).toList == nm.toList
    · simp only [Bool.false_or]
      ((repeat ((conv => lhs; whnf); simp only [go_sem, ↓reduceIte, Nat.reduceEqDiff, Nat.reduceBEq, Nat.reduceAdd, Nat.reduceMul, Nat.reduceSub, Nat.reduceLT, Nat.reduceLeDiff, reduceCtorEq, Int.reduceToNat, Int.reduceLE, Int.reduceLT, Int.reduceEq, sem_isochroneref10_listed, h1, x1, Int.toNat_natCast, c, h2])); try (conv => lhs; whnf); try rfl)
      exact key
    · simp only [Bool.true_or]
      ((repeat ((conv => lhs; whnf); simp only [go_sem, ↓reduceIte, Nat.reduceEqDiff, Nat.reduceBEq, Nat.reduceAdd, Nat.reduceMul, Nat.reduceSub, Nat.reduceLT, Nat.reduceLeDiff, reduceCtorEq, Int.reduceToNat, Int.reduceLE, Int.reduceLT, Int.reduceEq, sem_isochroneref10_listed, h1, x1, Int.toNat_natCast, c])); try (conv => lhs; whnf); try rfl)
theorem call_listed (l : List ByteArray) (nm : ByteArray) (hl : l.length ≤ 1000000) : callL Tryz.prog hints 117 [.sl (ssRows l) false, .str nm] = some (.bool (inL nm l)) := by
  refine FX.callL (r := (.bool (inL nm l), [])) ok_isochroneref10_listed 1000 rfl rfl ?_ rfl
  have key := loop_listed l nm hl l.length 0 (by omega)
  ((repeat ((conv => lhs; whnf); simp only [go_sem, ↓reduceIte, Nat.reduceEqDiff, Nat.reduceBEq, Nat.reduceAdd, Nat.reduceMul, Nat.reduceSub, Nat.reduceLT, Nat.reduceLeDiff, reduceCtorEq, Int.reduceToNat, Int.reduceLE, Int.reduceLT, Int.reduceEq, sem_isochroneref10_listed])); try (conv => lhs; whnf); try rfl)
  exact key
noncomputable def fx_isochroneref10_Has : FX := ⟨Tryz.f70, hints.of 70, []⟩
theorem ok_isochroneref10_Has : fx_isochroneref10_Has.ok 70 := ⟨by kernel_rfl, of_decide_eq_true (by kernel_rfl), by kernel_rfl, by kernel_rfl, by kernel_rfl, by kernel_rfl⟩
theorem sem_isochroneref10_Has (b0 : Nat) (m : Md) (fs : List Fr) (e : Env) (S : Store) : sem b0 fx_isochroneref10_Has m fs e S = run b0 fx_isochroneref10_Has 1000 m fs e S := (sem_eq _ _ _ _ _ _).trans (run_sem b0 fx_isochroneref10_Has ok_isochroneref10_Has.good 1000 m fs e S).symm
theorem call_Has10 (a : Bool) (l : List ByteArray) (nm : ByteArray) (hl : l.length ≤ 1000000) : callL Tryz.prog hints 70 [.agg [.bool a, .sl (ssRows l) false], .str nm] = some (.bool (!(inL nm l == a))) := by
  have co := fun S => callO_plain (S := S) (call_listed l nm hl) (by simp [Plain.str]; exact Plain.sl _)
  refine FX.callL (r := (.bool (!(inL nm l == a)), [.arr [[.bool a, .sl (ssRows l) false]] none false])) ok_isochroneref10_Has 1000 rfl rfl ?_ rfl
  ((repeat ((conv => lhs; whnf); simp only [go_sem, ↓reduceIte, Nat.reduceEqDiff, Nat.reduceBEq, Nat.reduceAdd, Nat.reduceMul, Nat.reduceSub, Nat.reduceLT, Nat.reduceLeDiff, reduceCtorEq, Int.reduceToNat, Int.reduceLE, Int.reduceLT, Int.reduceEq, sem_isochroneref10_Has, co])); try (conv => lhs; whnf); try rfl)
end
end Go.Vs
end
/- States: the same number, the same state; comparing values. -/
section
set_option linter.unusedVariables false
set_option linter.unusedSimpArgs false
set_option maxRecDepth 100000
namespace Go.Vs
open Go Go.Proofs
def sameRV (a b : RV) : Bool := decide (a.neg = b.neg ∧ a.num = b.num ∧ a.den = b.den)
theorem sameRV_self (a : RV) : sameRV a a = true := by simp [sameRV]
/-- Of at most 400 words, as a fraction. -/
structure RV.fine (v : RV) : Prop where
  n : v.num.length ≤ 400
  d : v.den.length ≤ 400
  q : ∃ q : Rat, .agg v.cells = ratV q ∧ v.neg = neg? q ∧ v.num = words q.num.natAbs ∧ v.den = words q.den ∧ RatW q 400
theorem fine_of {v : RV} (h : v.ok) (hf : v.fit = true) : v.fine := by
  have hf' := hf
  unfold RV.fit at hf'
  simp only [Bool.and_eq_true, decide_eq_true_eq] at hf'
  exact ⟨hf'.1.1, hf'.1.2, fit_rat h hf⟩
theorem fine_rv0 : rv0.fine := by
  have h0 : words 0 = [] := (digs_nil WB2).2 rfl
  have h1 : words 1 = [1] := words1
  refine ⟨by decide, by decide, 0, rv0_cells.symm, rfl, h0.symm, h1.symm, ?_, ?_⟩
  · show (words 0).length ≤ 400
    rw [h0]; decide
  · show (words 1).length ≤ 400
    rw [h1]; decide
theorem fine_getV {nm : ByteArray} : ∀ {L : List Bd}, StOk L → (∀ b ∈ L, b.good) → (getV nm L).fine
  | [], _, _ => fine_rv0
  | b :: r, h, g => by
    simp only [getV]
    split
    · exact fine_of (h b (by simp)).v (g b (by simp)).fit
    · exact fine_getV (fun c hc => h c (by simp [hc])) fun c hc => g c (by simp [hc])
theorem cmpQ_zero {q r : Rat} : cmpQ q r = 0 ↔ q = r := by
  unfold cmpQ
  constructor
  · intro h
    by_cases h1 : q < r
    · rw [if_pos h1] at h; cases h
    · rw [if_neg h1] at h
      by_cases h2 : r < q
      · rw [if_pos h2] at h; cases h
      · exact Rat.le_antisymm (Rat.not_lt.1 h2) (Rat.not_lt.1 h1)
  · rintro rfl
    have : ¬ q < q := fun h => absurd h (Rat.not_lt.2 (Rat.le_refl))
    rw [if_neg this, if_neg this]
theorem words_inj {m n : Nat} (h : words m = words n) : m = n := by
  rw [← nv_words m, ← nv_words n, h]
theorem cmp_o (u w : RV) (hu : u.fine) (hw : w.fine) : ∃ c : Int, (∀ S, callO (callL Tryz.prog hints) S 68 [.agg u.cells, .agg w.cells] = some { v := .int .i64 c }) ∧ (decide (c = 0) = sameRV u w) := by
  obtain ⟨q, a1, a2, a3, a4, a5⟩ := hu.q
  obtain ⟨r, b1, b2, b3, b4, b5⟩ := hw.q
  refine ⟨cmpQ q r, fun S => callO_plain (by rw [a1, b1]; exact call_num_Cmp q r (a5.mono (by omega)) (b5.mono (by omega))) (by simp; exact ⟨rv_plain u, rv_plain w⟩), ?_⟩
  unfold sameRV
  rw [decide_eq_decide, cmpQ_zero, a2, a3, a4, b2, b3, b4]
  constructor
  · rintro rfl; exact ⟨rfl, rfl, rfl⟩
  · rintro ⟨h1, h2, h3⟩
    have e2 := words_inj h2
    have e3 := words_inj h3
    unfold neg? at h1
    have h1' : (q.num < 0) ↔ (r.num < 0) := by simpa using h1
    exact Rat.ext (by omega) e3
section
attribute [local irreducible] Vs.callL Vs.callRL tyi callO callM callMV appendE storeE evLoad indexAddrO sliceO evFieldAddr evField buildO buildSliceO makeSliceO allocO boxed lenO copyE convertO indexO Vs.gc freezeAll
noncomputable def fx_isochroneref11_SameRat : FX := ⟨Tryz.f16, hints.of 16, []⟩
theorem ok_isochroneref11_SameRat : fx_isochroneref11_SameRat.ok 16 := ⟨by kernel_rfl, of_decide_eq_true (by kernel_rfl), by kernel_rfl, by kernel_rfl, by kernel_rfl, by kernel_rfl⟩
theorem sem_isochroneref11_SameRat (b0 : Nat) (m : Md) (fs : List Fr) (e : Env) (S : Store) : sem b0 fx_isochroneref11_SameRat m fs e S = run b0 fx_isochroneref11_SameRat 1000 m fs e S := (sem_eq _ _ _ _ _ _).trans (run_sem b0 fx_isochroneref11_SameRat ok_isochroneref11_SameRat.good 1000 m fs e S).symm
theorem call_SameRat (a b : RV) (h1 : a.num.length ≤ 3000000) (h2 : a.den.length ≤ 3000000) : callL Tryz.prog hints 16 [.agg a.cells, .agg b.cells] = some (.bool (sameRV a b)) := by
  have cs := fun S => callO_plain (S := S) (call_rr_Same a.neg b.neg a.num a.den b.num b.den h1 h2) (by simp; exact ⟨rv_plain a, rv_plain b⟩)
  unfold ratL at cs
  refine FX.callL (r := (.bool (sameRV a b), [.arr [a.cells] none false, .arr [b.cells] none false])) ok_isochroneref11_SameRat 1000 rfl rfl ?_ rfl
  unfold RV.cells sameRV
  ((repeat ((conv => lhs; whnf); simp only [go_sem, ↓reduceIte, Nat.reduceEqDiff, Nat.reduceBEq, Nat.reduceAdd, Nat.reduceMul, Nat.reduceSub, Nat.reduceLT, Nat.reduceLeDiff, reduceCtorEq, Int.reduceToNat, Int.reduceLE, Int.reduceLT, Int.reduceEq, sem_isochroneref11_SameRat, cs])); try (conv => lhs; whnf); try rfl)
theorem SameRat_o (S : Store) (a b : RV) (h : a.num.length ≤ 400 ∧ a.den.length ≤ 400) : callO (callL Tryz.prog hints) S 16 [.agg a.cells, .agg b.cells] = some { v := .bool (sameRV a b) } := callO_plain (call_SameRat a b (by omega) (by omega)) (by simp; exact ⟨rv_plain a, rv_plain b⟩)
noncomputable def fx_isochroneref11_Same : FX := ⟨Tryz.f26, hints.of 26, []⟩
theorem ok_isochroneref11_Same : fx_isochroneref11_Same.ok 26 := ⟨by kernel_rfl, of_decide_eq_true (by kernel_rfl), by kernel_rfl, by kernel_rfl, by kernel_rfl, by kernel_rfl⟩
theorem sem_isochroneref11_Same (b0 : Nat) (m : Md) (fs : List Fr) (e : Env) (S : Store) : sem b0 fx_isochroneref11_Same m fs e S = run b0 fx_isochroneref11_Same 1000 m fs e S := (sem_eq _ _ _ _ _ _).trans (run_sem b0 fx_isochroneref11_Same ok_isochroneref11_Same.good 1000 m fs e S).symm
theorem loop_Same (L : List Bd) (ex : Bool) (hL : ∀ b ∈ L, b.val.num.length ≤ 400 ∧ b.val.den.length ≤ 400) (hl : L.length ≤ 1000) : ∀ (m i : Nat), i + m = L.length → loopAt 0 fx_isochroneref11_Same 0 116 0 [.blk 0, .seq 0 15] [(0, .sl (stRows L) ex), (1, .sl (stRows L) ex), (5, .int .i64 i)] [] = some (.bool true, []) := by
  intro m
  induction m with
  | zero =>
    intro i hi
    have h1 : ¬ (i : Int) < (L.length : Int) := by omega
    refine loopAt_step ok_isochroneref11_Same.good 1000 ?_
    ((repeat ((conv => lhs; whnf); simp only [go_sem, ↓reduceIte, Nat.reduceEqDiff, Nat.reduceBEq, Nat.reduceAdd, Nat.reduceMul, Nat.reduceSub, Nat.reduceLT, Nat.reduceLeDiff, reduceCtorEq, Int.reduceToNat, Int.reduceLE, Int.reduceLT, Int.reduceEq, sem_isochroneref11_Same, h1])); try (conv => lhs; whnf); try rfl)
    refine exit_run ok_isochroneref11_Same.good 1000 ?_
    ((repeat ((conv => lhs; whnf); simp only [go_sem, ↓reduceIte, Nat.reduceEqDiff, Nat.reduceBEq, Nat.reduceAdd, Nat.reduceMul, Nat.reduceSub, Nat.reduceLT, Nat.reduceLeDiff, reduceCtorEq, Int.reduceToNat, Int.reduceLE, Int.reduceLT, Int.reduceEq, sem_isochroneref11_Same])); try (conv => lhs; whnf); try rfl)
  | succ m ih =>
    intro i hi
    have h1 : (i : Int) < (L.length : Int) := by omega
    have h2 := wrap_succ (i := i) (n := L.length) (by omega) (by unfold maxLen; omega)
    have x1 : 0 ≤ (i : Int) ∧ (i : Int) < (L.length : Int) := ⟨by omega, h1⟩
    have key := ih (i + 1) (by omega)
    have hb := hL (L.getD i bd0) (by rw [getD_lt (by omega)]; exact List.getElem_mem _)
    generalize hB : L.getD i bd0 = B at hb
    have cs := fun S => SameRat_o S B.val B.val hb
    rw [sameRV_self] at cs
    unfold RV.cells at cs
    have e : (B.name.toList == B.name.toList) = true := by simp
    refine loopAt_step ok_isochroneref11_Same.good 1000 ?_
    ((repeat ((conv => lhs; whnf); simp only [go_sem, ↓reduceIte, Nat.reduceEqDiff, Nat.reduceBEq, Nat.reduceAdd, Nat.reduceMul, Nat.reduceSub, Nat.reduceLT, Nat.reduceLeDiff, reduceCtorEq, Int.reduceToNat, Int.reduceLE, Int.reduceLT, Int.reduceEq, sem_isochroneref11_Same, h1, x1, Int.toNat_natCast, hB, Bd.cells, cs, e, h2])); try (conv => lhs; whnf); try rfl)
    exact key
theorem call_Same (L : List Bd) (ex : Bool) (hL : ∀ b ∈ L, b.val.num.length ≤ 400 ∧ b.val.den.length ≤ 400) (hl : L.length ≤ 1000) : callL Tryz.prog hints 26 [.sl (stRows L) ex, .sl (stRows L) ex] = some (.bool true) := by
  refine FX.callL (r := (.bool true, [])) ok_isochroneref11_Same 1000 rfl rfl ?_ rfl
  have key := loop_Same L ex hL hl L.length 0 (by omega)
  ((repeat ((conv => lhs; whnf); simp only [go_sem, ↓reduceIte, Nat.reduceEqDiff, Nat.reduceBEq, Nat.reduceAdd, Nat.reduceMul, Nat.reduceSub, Nat.reduceLT, Nat.reduceLeDiff, reduceCtorEq, Int.reduceToNat, Int.reduceLE, Int.reduceLT, Int.reduceEq, sem_isochroneref11_Same])); try (conv => lhs; whnf); try rfl)
  exact key
end
end Go.Vs
end
/- States: Agree, the program's. -/
section
set_option linter.unusedVariables false
set_option linter.unusedSimpArgs false
set_option maxRecDepth 100000
namespace Go.Vs
open Go Go.Proofs
theorem sl_sts : SlT 102 35 1 24 := ⟨by kernel_rfl, by kernel_rfl, by kernel_rfl, by kernel_rfl, by kernel_rfl⟩
@[go_sem] theorem lenm_sts (i o l : Nat) (ex : Bool) : lenO (tyi Tryz.prog 102) (.msl i o l ex) = some (.int .i64 l) := nr (sl_sts.lenm i o l ex)
@[go_sem] theorem build_sts (id n : Nat) (is : List Nat) (rows : List (List PV)) : buildSliceO Tryz.prog 102 id n is rows = if is = List.range n ∧ rowsOK 1 rows = true ∧ (rows.all fun r => r.all PV.cell) = true ∧ n * 1 ≤ 16777216 then some { v := .msl id 0 n true, new := some (rows, some (some 1)) } else none := nr (sl_sts.buildSlice (by decide) id n is rows)
/-- Do two states differ at a name of a set? -/
def dis (al : Bool) (l : List ByteArray) (a b : List Bd) (nm : ByteArray) : Bool := !(inL nm l == al) && !(sameRV (getV nm a) (getV nm b))
def anyDis (al : Bool) (l : List ByteArray) (a b X : List Bd) : Bool := X.any fun x => dis al l a b x.name
theorem Has_o (S : Store) (a : Bool) (l : List ByteArray) (nm : ByteArray) (hl : l.length ≤ 1000000) (hs : Sorted (l.map asBd)) : callO (callL Tryz.prog hints) S 67 [.agg [.bool a, .sl (ssRows l) false], .str nm] = some { v := .bool (!(inL nm l == a)) } := callO_plain (call_Has a l nm hl hs) (by simp [Plain.str]; exact ⟨rfl, fun _ => rfl⟩)
theorem Has10_o (S : Store) (a : Bool) (l : List ByteArray) (nm : ByteArray) (hl : l.length ≤ 1000000) : callO (callL Tryz.prog hints) S 70 [.agg [.bool a, .sl (ssRows l) false], .str nm] = some { v := .bool (!(inL nm l == a)) } := callO_plain (call_Has10 a l nm hl) (by simp [Plain.str]; exact ⟨rfl, fun _ => rfl⟩)
theorem nValid_o (S : Store) (a : Bool) (l : List ByteArray) (hn : NmsOk l) (hl : l.length ≤ 1000000) : callO (callL Tryz.prog hints) S 66 [.agg [.bool a, .sl (ssRows l) false]] = some { v := .bool (nmsOK l l.length 0) } := callO_plain (call_nValid a l hn hl) (by simp; exact ⟨rfl, fun _ => rfl⟩)
theorem nValid10_o (S : Store) (a : Bool) (l : List ByteArray) (hn : NmsOk l) (hl : l.length ≤ 1000000) : callO (callL Tryz.prog hints) S 69 [.agg [.bool a, .sl (ssRows l) false]] = some { v := .bool (nmsOK l l.length 0) } := callO_plain (call_nValid10 a l hn hl) (by simp; exact ⟨rfl, fun _ => rfl⟩)
section
attribute [local irreducible] Vs.callL Vs.callRL tyi callO callM callMV appendE storeE evLoad indexAddrO sliceO evFieldAddr evField buildO buildSliceO makeSliceO allocO boxed lenO copyE convertO indexO Vs.gc freezeAll
noncomputable def fx_state_Agree : FX := ⟨Tryz.f27, hints.of 27, []⟩
theorem ok_state_Agree : fx_state_Agree.ok 27 := ⟨by kernel_rfl, of_decide_eq_true (by kernel_rfl), by kernel_rfl, by kernel_rfl, by kernel_rfl, by kernel_rfl⟩
theorem sem_state_Agree (b0 : Nat) (m : Md) (fs : List Fr) (e : Env) (S : Store) : sem b0 fx_state_Agree m fs e S = run b0 fx_state_Agree 1000 m fs e S := (sem_eq _ _ _ _ _ _).trans (run_sem b0 fx_state_Agree ok_state_Agree.good 1000 m fs e S).symm
theorem loop_Agree2 (al : Bool) (l : List ByteArray) (hl : l.length ≤ 1000) (hs : Sorted (l.map asBd)) (A B : List Bd) (hA : StOk A) (hB : StOk B) (oA : stOK A = true) (oB : stOK B = true) (X : List Bd) (hX : X.length ≤ 40) (t : Int) (fs : List Fr) : ∀ (m i : Nat), i + m = X.length →
    (anyDis al l A B (X.drop i) = true → ∃ S', loopAt 0 fx_state_Agree 2 29900 2 fs [(0, .sl (stRows A) false), (1, .sl (stRows B) false), (5, .mp 0 0 0), (27, .msl 1 0 2 true), (28, .int .i64 (2 : Nat)), (29, .int .i64 t), (33, .sl (stRows X) false), (34, .int .i64 X.length), (35, .int .i64 i)] [.arr [[.bool al, .sl (ssRows l) false]] none false, .arr [[.sl (stRows A) false], [.sl (stRows B) false]] (some (some 1)) false] = some (.tup [.bool false, .int .i64 0], S')) ∧
    (anyDis al l A B (X.drop i) = false → ∀ z : PV × Store, exitTo 0 fx_state_Agree 2 fs [(0, .sl (stRows A) false), (1, .sl (stRows B) false), (5, .mp 0 0 0), (27, .msl 1 0 2 true), (28, .int .i64 (2 : Nat)), (29, .int .i64 t), (33, .undef), (34, .undef), (35, .undef), (36, .undef)] [.arr [[.bool al, .sl (ssRows l) false]] none false, .arr [[.sl (stRows A) false], [.sl (stRows B) false]] (some (some 1)) false] = some z →
      loopAt 0 fx_state_Agree 2 29900 2 fs [(0, .sl (stRows A) false), (1, .sl (stRows B) false), (5, .mp 0 0 0), (27, .msl 1 0 2 true), (28, .int .i64 (2 : Nat)), (29, .int .i64 t), (33, .sl (stRows X) false), (34, .int .i64 X.length), (35, .int .i64 i)] [.arr [[.bool al, .sl (ssRows l) false]] none false, .arr [[.sl (stRows A) false], [.sl (stRows B) false]] (some (some 1)) false] = some z) := by
  intro m
  induction m with
  | zero =>
    intro i hi
    have h1 : ¬ (i : Int) < (X.length : Int) := by omega
    have e : X.drop i = [] := List.drop_eq_nil_of_le (by omega)
    rw [e]
    refine ⟨fun h => by simp [anyDis] at h, fun _ z hz => ?_⟩
    refine loopAt_step ok_state_Agree.good 1000 ?_
    ((repeat ((conv => lhs; whnf); simp only [go_sem, ↓reduceIte, Nat.reduceEqDiff, Nat.reduceBEq, Nat.reduceAdd, Nat.reduceMul, Nat.reduceSub, Nat.reduceLT, Nat.reduceLeDiff, reduceCtorEq, Int.reduceToNat, Int.reduceLE, Int.reduceLT, Int.reduceEq, sem_state_Agree, h1])); try (conv => lhs; whnf); try rfl)
    exact hz
  | succ m ih =>
    intro i hi
    have h1 : (i : Int) < (X.length : Int) := by omega
    have h2 := wrap_succ (i := i) (n := X.length) (by omega) (by unfold maxLen; omega)
    have x1 : 0 ≤ (i : Int) ∧ (i : Int) < (X.length : Int) := ⟨by omega, h1⟩
    have e : X.drop i = X.getD i bd0 :: X.drop (i + 1) := by rw [getD_lt (by omega)]; exact List.drop_eq_getElem_cons (by omega)
    obtain ⟨ih1, ih2⟩ := ih (i + 1) (by omega)
    rw [e]
    unfold anyDis at ih1 ih2 ⊢
    rw [List.any_cons]
    generalize hQ : X.getD i bd0 = Q
    have ch := fun S => Has_o S al l Q.name (by omega) hs
    have ga := fun S => get_o S A Q.name hA oA
    have gb := fun S => get_o S B Q.name hB oB
    obtain ⟨c, cc, ce⟩ := cmp_o (getV Q.name A) (getV Q.name B) (fine_getV hA (stOK_iff.1 oA).2.1) (fine_getV hB (stOK_iff.1 oB).2.1)
    unfold RV.cells at ga gb cc
    have ed : dis al l A B Q.name = (!(inL Q.name l == al) && !(decide (c = 0))) := by rw [ce]; rfl
    cases kh : (!(inL Q.name l == al))
    · rw [kh] at ch ed
      rw [ed]
      simp only [Bool.false_and, Bool.false_or]
      refine ⟨fun h => ?_, fun h z hz => ?_⟩
      · obtain ⟨S', key⟩ := ih1 h
        refine ⟨S', ?_⟩
        refine loopAt_step ok_state_Agree.good 1000 ?_
        ((repeat ((conv => lhs; whnf); simp only [go_sem, ↓reduceIte, Nat.reduceEqDiff, Nat.reduceBEq, Nat.reduceAdd, Nat.reduceMul, Nat.reduceSub, Nat.reduceLT, Nat.reduceLeDiff, reduceCtorEq, Int.reduceToNat, Int.reduceLE, Int.reduceLT, Int.reduceEq, sem_state_Agree, h1, x1, Int.toNat_natCast, hQ, Bd.cells, ch, h2])); try (conv => lhs; whnf); try rfl)
        exact key
      · have key := ih2 h z hz
        clear hz
        refine loopAt_step ok_state_Agree.good 1000 ?_
        ((repeat ((conv => lhs; whnf); simp only [go_sem, ↓reduceIte, Nat.reduceEqDiff, Nat.reduceBEq, Nat.reduceAdd, Nat.reduceMul, Nat.reduceSub, Nat.reduceLT, Nat.reduceLeDiff, reduceCtorEq, Int.reduceToNat, Int.reduceLE, Int.reduceLT, Int.reduceEq, sem_state_Agree, h1, x1, Int.toNat_natCast, hQ, Bd.cells, ch, h2])); try (conv => lhs; whnf); try rfl)
        exact key
    · rw [kh] at ch ed
      rw [ed]
      by_cases c0 : c = 0
      · simp only [c0, decide_true, Bool.not_true, Bool.and_false, Bool.false_or]
        rw [c0] at cc
        refine ⟨fun h => ?_, fun h z hz => ?_⟩
        · obtain ⟨S', key⟩ := ih1 h
          refine ⟨S', ?_⟩
          refine loopAt_step ok_state_Agree.good 1000 ?_
          ((repeat ((conv => lhs; whnf); simp only [go_sem, ↓reduceIte, Nat.reduceEqDiff, Nat.reduceBEq, Nat.reduceAdd, Nat.reduceMul, Nat.reduceSub, Nat.reduceLT, Nat.reduceLeDiff, reduceCtorEq, Int.reduceToNat, Int.reduceLE, Int.reduceLT, Int.reduceEq, sem_state_Agree, h1, x1, Int.toNat_natCast, hQ, Bd.cells, ch, ga, gb, cc, h2])); try (conv => lhs; whnf); try rfl)
          exact key
        · have key := ih2 h z hz
          clear hz
          refine loopAt_step ok_state_Agree.good 1000 ?_
          ((repeat ((conv => lhs; whnf); simp only [go_sem, ↓reduceIte, Nat.reduceEqDiff, Nat.reduceBEq, Nat.reduceAdd, Nat.reduceMul, Nat.reduceSub, Nat.reduceLT, Nat.reduceLeDiff, reduceCtorEq, Int.reduceToNat, Int.reduceLE, Int.reduceLT, Int.reduceEq, sem_state_Agree, h1, x1, Int.toNat_natCast, hQ, Bd.cells, ch, ga, gb, cc, h2])); try (conv => lhs; whnf); try rfl)
          exact key
      · simp only [c0, decide_false, Bool.not_false, Bool.and_self, Bool.true_or]
        refine ⟨fun _ => ?_, fun h => by cases h⟩
        apply Exists.intro
        refine loopAt_step ok_state_Agree.good 1000 ?_
        ((repeat ((conv => lhs; whnf); simp only [go_sem, ↓reduceIte, Nat.reduceEqDiff, Nat.reduceBEq, Nat.reduceAdd, Nat.reduceMul, Nat.reduceSub, Nat.reduceLT, Nat.reduceLeDiff, reduceCtorEq, Int.reduceToNat, Int.reduceLE, Int.reduceLT, Int.reduceEq, sem_state_Agree, h1, x1, Int.toNat_natCast, hQ, Bd.cells, ch, ga, gb, cc, c0])); try (conv => lhs; whnf); try rfl)
def agrOK (al : Bool) (l : List ByteArray) (A B : List Bd) : Bool := stOK A && stOK B && nmsOK l l.length 0
def agrR (al : Bool) (l : List ByteArray) (A B : List Bd) : PV := .tup [.bool (agrOK al l A B && !(anyDis al l A B A || anyDis al l A B B)), .int .i64 (if agrOK al l A B = true then 0 else 3)]
theorem call_Agree (al : Bool) (l : List ByteArray) (hl : l.length ≤ 1000) (hn : NmsOk l) (A B : List Bd) (hA : StOk A) (hB : StOk B) (lA : A.length ≤ 1000) (lB : B.length ≤ 1000) : callL Tryz.prog hints 27 [.sl (stRows A) false, .sl (stRows B) false, .agg [.bool al, .sl (ssRows l) false]] = some (agrR al l A B) := by
  have hM : 3000000 ≤ maxLen := by decide
  have va := fun S => stValid_o S A hA (by omega)
  have vb := fun S => stValid_o S B hB (by omega)
  have vn := fun S => nValid_o S al l hn (by omega)
  unfold agrR agrOK
  cases k1 : stOK A
  · rw [k1] at va
    simp only [Bool.false_and, Bool.false_eq_true, if_false]
    refine FX.callL (r := (.tup [.bool false, .int .i64 3], [.arr [[.bool al, .sl (ssRows l) false]] none false])) ok_state_Agree 1000 rfl rfl ?_ rfl
    ((repeat ((conv => lhs; whnf); simp only [go_sem, ↓reduceIte, Nat.reduceEqDiff, Nat.reduceBEq, Nat.reduceAdd, Nat.reduceMul, Nat.reduceSub, Nat.reduceLT, Nat.reduceLeDiff, reduceCtorEq, Int.reduceToNat, Int.reduceLE, Int.reduceLT, Int.reduceEq, sem_state_Agree, va])); try (conv => lhs; whnf); try rfl)
  · rw [k1] at va
    cases k2 : stOK B
    · rw [k2] at vb
      simp only [Bool.and_false, Bool.false_and, Bool.false_eq_true, if_false]
      refine FX.callL (r := (.tup [.bool false, .int .i64 3], [.arr [[.bool al, .sl (ssRows l) false]] none false])) ok_state_Agree 1000 rfl rfl ?_ rfl
      ((repeat ((conv => lhs; whnf); simp only [go_sem, ↓reduceIte, Nat.reduceEqDiff, Nat.reduceBEq, Nat.reduceAdd, Nat.reduceMul, Nat.reduceSub, Nat.reduceLT, Nat.reduceLeDiff, reduceCtorEq, Int.reduceToNat, Int.reduceLE, Int.reduceLT, Int.reduceEq, sem_state_Agree, va, vb])); try (conv => lhs; whnf); try rfl)
    · rw [k2] at vb
      cases k3 : nmsOK l l.length 0
      · rw [k3] at vn
        simp only [Bool.and_false, Bool.false_and, Bool.false_eq_true, if_false]
        refine FX.callL (r := (.tup [.bool false, .int .i64 3], [.arr [[.bool al, .sl (ssRows l) false]] none false])) ok_state_Agree 1000 rfl rfl ?_ rfl
        ((repeat ((conv => lhs; whnf); simp only [go_sem, ↓reduceIte, Nat.reduceEqDiff, Nat.reduceBEq, Nat.reduceAdd, Nat.reduceMul, Nat.reduceSub, Nat.reduceLT, Nat.reduceLeDiff, reduceCtorEq, Int.reduceToNat, Int.reduceLE, Int.reduceLT, Int.reduceEq, sem_state_Agree, va, vb, vn])); try (conv => lhs; whnf); try rfl)
      · rw [k3] at vn
        simp only [Bool.and_self, Bool.true_and, if_true]
        have hs := nms_sorted k3
        have gd1 : ([[.sl (stRows A) false], [.sl (stRows B) false]] : List (List PV)).getD 1 [] = [.sl (stRows B) false] := rfl
        have w01 : IntKind.i64.wrap ((0 : Int) + 1) = 1 := by decide
        have w12 : IntKind.i64.wrap ((1 : Int) + 1) = 2 := by decide
        have ix0 : ∀ S, rowsAt S 1 = some [[.sl (stRows A) false], [.sl (stRows B) false]] → indexAddrO Tryz.prog 102 S (.msl 1 0 2 true) (.int .i64 0) = some (.mp 1 0 0) := fun S h => sl_sts.idxm 0 h (by simp) rfl (by omega)
        have ix1 : ∀ S, rowsAt S 1 = some [[.sl (stRows A) false], [.sl (stRows B) false]] → indexAddrO Tryz.prog 102 S (.msl 1 0 2 true) (.int .i64 1) = some (.mp 1 1 0) := fun S h => sl_sts.idxm 1 h (by simp) rfl (by omega)
        have i0 := ix0 [.arr [[.bool al, .sl (ssRows l) false]] none false, .arr [[.sl (stRows A) false], [.sl (stRows B) false]] (some (some 1)) false] rfl
        have i1 := ix1 [.arr [[.bool al, .sl (ssRows l) false]] none false, .arr [[.sl (stRows A) false], [.sl (stRows B) false]] (some (some 1)) false] rfl
        obtain ⟨p1, p2⟩ := loop_Agree2 al l hl hs A B hA hB k1 k2 A (stOK_iff.1 k1).1 0 [.blk 2, .blk 1, .seq 0 935, .lop 0 116 2, .blk 0, .seq 0 15] A.length 0 (by omega)
        obtain ⟨q1, q2⟩ := loop_Agree2 al l hl hs A B hA hB k1 k2 B (stOK_iff.1 k2).1 1 [.blk 2, .blk 1, .seq 0 935, .lop 0 116 2, .blk 0, .seq 0 15] B.length 0 (by omega)
        rw [List.drop_zero] at p1 p2 q1 q2
        cases d1 : anyDis al l A B A
        · cases d2 : anyDis al l A B B
          · simp only [Bool.or_self, Bool.not_false]
            refine FX.callL (r := (.tup [.bool true, .int .i64 0], [.arr [[.bool al, .sl (ssRows l) false]] none false, .arr [[.sl (stRows A) false], [.sl (stRows B) false]] (some (some 1)) false])) ok_state_Agree 1000 rfl rfl ?_ rfl
            ((repeat ((conv => lhs; whnf); simp only [go_sem, ↓reduceIte, Nat.reduceEqDiff, Nat.reduceBEq, Nat.reduceAdd, Nat.reduceMul, Nat.reduceSub, Nat.reduceLT, Nat.reduceLeDiff, reduceCtorEq, Int.reduceToNat, Int.reduceLE, Int.reduceLT, Int.reduceEq, sem_state_Agree, va, vb, vn])); try (conv => lhs; whnf); try rfl)
            refine loopAt_step ok_state_Agree.good 1000 ?_
            ((repeat ((conv => lhs; whnf); simp only [go_sem, ↓reduceIte, Nat.reduceEqDiff, Nat.reduceBEq, Nat.reduceAdd, Nat.reduceMul, Nat.reduceSub, Nat.reduceLT, Nat.reduceLeDiff, reduceCtorEq, Int.reduceToNat, Int.reduceLE, Int.reduceLT, Int.reduceEq, sem_state_Agree, i0])); try (conv => lhs; whnf); try rfl)
            refine p2 d1 _ ?_
            refine exit_run ok_state_Agree.good 1000 ?_
            ((repeat ((conv => lhs; whnf); simp only [go_sem, ↓reduceIte, Nat.reduceEqDiff, Nat.reduceBEq, Nat.reduceAdd, Nat.reduceMul, Nat.reduceSub, Nat.reduceLT, Nat.reduceLeDiff, reduceCtorEq, Int.reduceToNat, Int.reduceLE, Int.reduceLT, Int.reduceEq, sem_state_Agree, w01, w12])); try (conv => lhs; whnf); try rfl)
            refine loopAt_step ok_state_Agree.good 1000 ?_
            ((repeat ((conv => lhs; whnf); simp only [go_sem, ↓reduceIte, Nat.reduceEqDiff, Nat.reduceBEq, Nat.reduceAdd, Nat.reduceMul, Nat.reduceSub, Nat.reduceLT, Nat.reduceLeDiff, reduceCtorEq, Int.reduceToNat, Int.reduceLE, Int.reduceLT, Int.reduceEq, sem_state_Agree, i1, gd1])); try (conv => lhs; whnf); try rfl)
            refine q2 d2 _ ?_
            refine exit_run ok_state_Agree.good 1000 ?_
            ((repeat ((conv => lhs; whnf); simp only [go_sem, ↓reduceIte, Nat.reduceEqDiff, Nat.reduceBEq, Nat.reduceAdd, Nat.reduceMul, Nat.reduceSub, Nat.reduceLT, Nat.reduceLeDiff, reduceCtorEq, Int.reduceToNat, Int.reduceLE, Int.reduceLT, Int.reduceEq, sem_state_Agree, w01, w12])); try (conv => lhs; whnf); try rfl)
            refine loopAt_step ok_state_Agree.good 1000 ?_
            ((repeat ((conv => lhs; whnf); simp only [go_sem, ↓reduceIte, Nat.reduceEqDiff, Nat.reduceBEq, Nat.reduceAdd, Nat.reduceMul, Nat.reduceSub, Nat.reduceLT, Nat.reduceLeDiff, reduceCtorEq, Int.reduceToNat, Int.reduceLE, Int.reduceLT, Int.reduceEq, sem_state_Agree])); try (conv => lhs; whnf); try rfl)
            refine exit_run ok_state_Agree.good 1000 ?_
            ((repeat ((conv => lhs; whnf); simp only [go_sem, ↓reduceIte, Nat.reduceEqDiff, Nat.reduceBEq, Nat.reduceAdd, Nat.reduceMul, Nat.reduceSub, Nat.reduceLT, Nat.reduceLeDiff, reduceCtorEq, Int.reduceToNat, Int.reduceLE, Int.reduceLT, Int.reduceEq, sem_state_Agree])); try (conv => lhs; whnf); try rfl)
          · obtain ⟨S', key⟩ := q1 d2
            simp only [Bool.or_true, Bool.not_true]
            refine FX.callL (r := (.tup [.bool false, .int .i64 0], S')) ok_state_Agree 1000 rfl rfl ?_ rfl
            ((repeat ((conv => lhs; whnf); simp only [go_sem, ↓reduceIte, Nat.reduceEqDiff, Nat.reduceBEq, Nat.reduceAdd, Nat.reduceMul, Nat.reduceSub, Nat.reduceLT, Nat.reduceLeDiff, reduceCtorEq, Int.reduceToNat, Int.reduceLE, Int.reduceLT, Int.reduceEq, sem_state_Agree, va, vb, vn])); try (conv => lhs; whnf); try rfl)
            refine loopAt_step ok_state_Agree.good 1000 ?_
            ((repeat ((conv => lhs; whnf); simp only [go_sem, ↓reduceIte, Nat.reduceEqDiff, Nat.reduceBEq, Nat.reduceAdd, Nat.reduceMul, Nat.reduceSub, Nat.reduceLT, Nat.reduceLeDiff, reduceCtorEq, Int.reduceToNat, Int.reduceLE, Int.reduceLT, Int.reduceEq, sem_state_Agree, i0])); try (conv => lhs; whnf); try rfl)
            refine p2 d1 _ ?_
            refine exit_run ok_state_Agree.good 1000 ?_
            ((repeat ((conv => lhs; whnf); simp only [go_sem, ↓reduceIte, Nat.reduceEqDiff, Nat.reduceBEq, Nat.reduceAdd, Nat.reduceMul, Nat.reduceSub, Nat.reduceLT, Nat.reduceLeDiff, reduceCtorEq, Int.reduceToNat, Int.reduceLE, Int.reduceLT, Int.reduceEq, sem_state_Agree, w01, w12])); try (conv => lhs; whnf); try rfl)
            refine loopAt_step ok_state_Agree.good 1000 ?_
            ((repeat ((conv => lhs; whnf); simp only [go_sem, ↓reduceIte, Nat.reduceEqDiff, Nat.reduceBEq, Nat.reduceAdd, Nat.reduceMul, Nat.reduceSub, Nat.reduceLT, Nat.reduceLeDiff, reduceCtorEq, Int.reduceToNat, Int.reduceLE, Int.reduceLT, Int.reduceEq, sem_state_Agree, i1, gd1])); try (conv => lhs; whnf); try rfl)
            exact key
        · obtain ⟨S', key⟩ := p1 d1
          simp only [Bool.true_or, Bool.not_true]
          refine FX.callL (r := (.tup [.bool false, .int .i64 0], S')) ok_state_Agree 1000 rfl rfl ?_ rfl
          ((repeat ((conv => lhs; whnf); simp only [go_sem, ↓reduceIte, Nat.reduceEqDiff, Nat.reduceBEq, Nat.reduceAdd, Nat.reduceMul, Nat.reduceSub, Nat.reduceLT, Nat.reduceLeDiff, reduceCtorEq, Int.reduceToNat, Int.reduceLE, Int.reduceLT, Int.reduceEq, sem_state_Agree, va, vb, vn])); try (conv => lhs; whnf); try rfl)
          refine loopAt_step ok_state_Agree.good 1000 ?_
          ((repeat ((conv => lhs; whnf); simp only [go_sem, ↓reduceIte, Nat.reduceEqDiff, Nat.reduceBEq, Nat.reduceAdd, Nat.reduceMul, Nat.reduceSub, Nat.reduceLT, Nat.reduceLeDiff, reduceCtorEq, Int.reduceToNat, Int.reduceLE, Int.reduceLT, Int.reduceEq, sem_state_Agree, i0])); try (conv => lhs; whnf); try rfl)
          exact key
end
end Go.Vs
end

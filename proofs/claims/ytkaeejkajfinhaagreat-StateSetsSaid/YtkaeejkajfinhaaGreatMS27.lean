/- States: the reference's Agree. -/
import Derived.Shelf.Strings.Builder1
import Derived.Test.YtkaeejkajfinhaaGreatChecked
import Derived.WalkKit
import Derived.Test.YtkaeejkajfinhaaGreatMS12
import Derived.Test.YtkaeejkajfinhaaGreatMS26
section
set_option linter.unusedVariables false
set_option linter.unusedSimpArgs false
set_option maxRecDepth 100000
namespace Go.Vs
open Go Go.Proofs
theorem getV_mem {b : Bd} : ∀ {L : List Bd}, Sorted L → b ∈ L → getV b.name L = b.val
  | c :: r, h, hb => by
    unfold Sorted at h
    rw [List.pairwise_cons] at h
    simp only [getV]
    rcases List.mem_cons.1 hb with rfl | hb
    · rw [if_pos rfl]
    · rw [if_neg (before.ne (h.1 b hb))]
      exact getV_mem h.2 hb
theorem sameRV_comm (a b : RV) : sameRV a b = sameRV b a := by
  unfold sameRV
  rw [decide_eq_decide]
  constructor <;> rintro ⟨h1, h2, h3⟩ <;> exact ⟨h1.symm, h2.symm, h3.symm⟩
section
attribute [local irreducible] Vs.callL Vs.callRL tyi callO callM callMV appendE storeE evLoad indexAddrO sliceO evFieldAddr evField buildO buildSliceO makeSliceO allocO boxed lenO copyE convertO indexO Vs.gc freezeAll
noncomputable def fx_isochroneref11_Agree : FX := ⟨Tryz.f28, hints.of 28, []⟩
theorem ok_isochroneref11_Agree : fx_isochroneref11_Agree.ok 28 := ⟨by kernel_rfl, of_decide_eq_true (by kernel_rfl), by kernel_rfl, by kernel_rfl, by kernel_rfl, by kernel_rfl⟩
theorem sem_isochroneref11_Agree (b0 : Nat) (m : Md) (fs : List Fr) (e : Env) (S : Store) : sem b0 fx_isochroneref11_Agree m fs e S = run b0 fx_isochroneref11_Agree 1000 m fs e S := (sem_eq _ _ _ _ _ _).trans (run_sem b0 fx_isochroneref11_Agree ok_isochroneref11_Agree.good 1000 m fs e S).symm
theorem loop_AgreeA (al : Bool) (l : List ByteArray) (hl : l.length ≤ 1000) (A B : List Bd) (hA : StOk A) (hB : StOk B) (oA : stOK A = true) (oB : stOK B = true) (fs : List Fr) : ∀ (m i : Nat), i + m = A.length →
    (anyDis al l A B (A.drop i) = true → loopAt 0 fx_isochroneref11_Agree 0 116 1 fs [(0, .sl (stRows A) false), (1, .sl (stRows B) false), (5, .mp 0 0 0), (8, .int .i64 i)] [.arr [[.bool al, .sl (ssRows l) false]] none false] = some (.tup [.bool false, .int .i64 0], [.arr [[.bool al, .sl (ssRows l) false]] none false])) ∧
    (anyDis al l A B (A.drop i) = false → ∀ z : PV × Store, exitTo 0 fx_isochroneref11_Agree 0 fs [(0, .sl (stRows A) false), (1, .sl (stRows B) false), (5, .mp 0 0 0), (8, .undef), (26, .undef)] [.arr [[.bool al, .sl (ssRows l) false]] none false] = some z → loopAt 0 fx_isochroneref11_Agree 0 116 1 fs [(0, .sl (stRows A) false), (1, .sl (stRows B) false), (5, .mp 0 0 0), (8, .int .i64 i)] [.arr [[.bool al, .sl (ssRows l) false]] none false] = some z) := by
  have lX := (stOK_iff.1 oA).1
  have gX := (stOK_iff.1 oA).2.1
  have sX := (stOK_iff.1 oA).2.2
  have lY := (stOK_iff.1 oB).1
  intro m
  induction m with
  | zero =>
    intro i hi
    have h1 : ¬ (i : Int) < (A.length : Int) := by omega
    have e : A.drop i = [] := List.drop_eq_nil_of_le (by omega)
    rw [e]
    refine ⟨fun h => by simp [anyDis] at h, fun _ z hz => ?_⟩
    refine loopAt_step ok_isochroneref11_Agree.good 1000 ?_
    ((repeat ((conv => lhs; whnf); simp only [go_sem, ↓reduceIte, Nat.reduceEqDiff, Nat.reduceBEq, Nat.reduceAdd, Nat.reduceMul, Nat.reduceSub, Nat.reduceLT, Nat.reduceLeDiff, reduceCtorEq, Int.reduceToNat, Int.reduceLE, Int.reduceLT, Int.reduceEq, sem_isochroneref11_Agree, h1])); try (conv => lhs; whnf); try rfl)
    exact hz
  | succ m ih =>
    intro i hi
    have h1 : (i : Int) < (A.length : Int) := by omega
    have h2 := wrap_succ (i := i) (n := A.length) (by omega) (by unfold maxLen; omega)
    have x1 : 0 ≤ (i : Int) ∧ (i : Int) < (A.length : Int) := ⟨by omega, h1⟩
    have e : A.drop i = A.getD i bd0 :: A.drop (i + 1) := by rw [getD_lt (by omega)]; exact List.drop_eq_getElem_cons (by omega)
    obtain ⟨ih1, ih2⟩ := ih (i + 1) (by omega)
    rw [e]
    unfold anyDis at ih1 ih2 ⊢
    rw [List.any_cons]
    have mem : A.getD i bd0 ∈ A := by rw [getD_lt (by omega)]; exact List.getElem_mem _
    have gv := getV_mem sX mem
    have fv := fine_of (hA _ mem).v (gX _ mem).fit
    generalize hQ : A.getD i bd0 = Q at gv fv
    have ch := fun S => Has10_o S al l Q.name (by omega)
    have gg := fun S => get11_o S B Q.name (by omega)
    have cs := fun S => SameRat_o S Q.val (getV Q.name B) ⟨fv.n, fv.d⟩
    unfold RV.cells at gg cs
    have ed : dis al l A B Q.name = (!(inL Q.name l == al) && !(sameRV Q.val (getV Q.name B))) := by
      unfold dis
      rw [gv]
    cases kh : (!(inL Q.name l == al))
    · rw [kh] at ch ed
      rw [ed]
      simp only [Bool.false_and, Bool.false_or]
      refine ⟨fun h => ?_, fun h z hz => ?_⟩
      · have key := ih1 h
        refine loopAt_step ok_isochroneref11_Agree.good 1000 ?_
        ((repeat ((conv => lhs; whnf); simp only [go_sem, ↓reduceIte, Nat.reduceEqDiff, Nat.reduceBEq, Nat.reduceAdd, Nat.reduceMul, Nat.reduceSub, Nat.reduceLT, Nat.reduceLeDiff, reduceCtorEq, Int.reduceToNat, Int.reduceLE, Int.reduceLT, Int.reduceEq, sem_isochroneref11_Agree, h1, x1, Int.toNat_natCast, hQ, Bd.cells, ch, h2])); try (conv => lhs; whnf); try rfl)
        exact key
      · have key := ih2 h z hz
        clear hz
        refine loopAt_step ok_isochroneref11_Agree.good 1000 ?_
        ((repeat ((conv => lhs; whnf); simp only [go_sem, ↓reduceIte, Nat.reduceEqDiff, Nat.reduceBEq, Nat.reduceAdd, Nat.reduceMul, Nat.reduceSub, Nat.reduceLT, Nat.reduceLeDiff, reduceCtorEq, Int.reduceToNat, Int.reduceLE, Int.reduceLT, Int.reduceEq, sem_isochroneref11_Agree, h1, x1, Int.toNat_natCast, hQ, Bd.cells, ch, h2])); try (conv => lhs; whnf); try rfl)
        exact key
    · rw [kh] at ch ed
      rw [ed]
      cases ks : sameRV Q.val (getV Q.name B)
      · rw [ks] at cs
        simp only [Bool.not_false, Bool.and_self, Bool.true_or]
        refine ⟨fun _ => ?_, fun h => by cases h⟩
        refine loopAt_step ok_isochroneref11_Agree.good 1000 ?_
        ((repeat ((conv => lhs; whnf); simp only [go_sem, ↓reduceIte, Nat.reduceEqDiff, Nat.reduceBEq, Nat.reduceAdd, Nat.reduceMul, Nat.reduceSub, Nat.reduceLT, Nat.reduceLeDiff, reduceCtorEq, Int.reduceToNat, Int.reduceLE, Int.reduceLT, Int.reduceEq, sem_isochroneref11_Agree, h1, x1, Int.toNat_natCast, hQ, Bd.cells, ch, gg, cs])); try (conv => lhs; whnf); try rfl)
      · rw [ks] at cs
        simp only [Bool.not_true, Bool.and_false, Bool.false_or]
        refine ⟨fun h => ?_, fun h z hz => ?_⟩
        · have key := ih1 h
          refine loopAt_step ok_isochroneref11_Agree.good 1000 ?_
          ((repeat ((conv => lhs; whnf); simp only [go_sem, ↓reduceIte, Nat.reduceEqDiff, Nat.reduceBEq, Nat.reduceAdd, Nat.reduceMul, Nat.reduceSub, Nat.reduceLT, Nat.reduceLeDiff, reduceCtorEq, Int.reduceToNat, Int.reduceLE, Int.reduceLT, Int.reduceEq, sem_isochroneref11_Agree, h1, x1, Int.toNat_natCast, hQ, Bd.cells, ch, gg, cs, h2])); try (conv => lhs; whnf); try rfl)
          exact key
        · have key := ih2 h z hz
          clear hz
          refine loopAt_step ok_isochroneref11_Agree.good 1000 ?_
          ((repeat ((conv => lhs; whnf); simp only [go_sem, ↓reduceIte, Nat.reduceEqDiff, Nat.reduceBEq, Nat.reduceAdd, Nat.reduceMul, Nat.reduceSub, Nat.reduceLT, Nat.reduceLeDiff, reduceCtorEq, Int.reduceToNat, Int.reduceLE, Int.reduceLT, Int.reduceEq, sem_isochroneref11_Agree, h1, x1, Int.toNat_natCast, hQ, Bd.cells, ch, gg, cs, h2])); try (conv => lhs; whnf); try rfl)
          exact key
theorem loop_AgreeB (al : Bool) (l : List ByteArray) (hl : l.length ≤ 1000) (A B : List Bd) (hA : StOk A) (hB : StOk B) (oA : stOK A = true) (oB : stOK B = true) (fs : List Fr) : ∀ (m i : Nat), i + m = B.length →
    (anyDis al l A B (B.drop i) = true → loopAt 0 fx_isochroneref11_Agree 2 244 1 fs [(0, .sl (stRows A) false), (1, .sl (stRows B) false), (5, .mp 0 0 0), (9, .int .i64 i)] [.arr [[.bool al, .sl (ssRows l) false]] none false] = some (.tup [.bool false, .int .i64 0], [.arr [[.bool al, .sl (ssRows l) false]] none false])) ∧
    (anyDis al l A B (B.drop i) = false → ∀ z : PV × Store, exitTo 0 fx_isochroneref11_Agree 2 fs [(0, .undef), (1, .undef), (5, .undef), (9, .undef), (55, .undef)] [.arr [[.bool al, .sl (ssRows l) false]] none false] = some z → loopAt 0 fx_isochroneref11_Agree 2 244 1 fs [(0, .sl (stRows A) false), (1, .sl (stRows B) false), (5, .mp 0 0 0), (9, .int .i64 i)] [.arr [[.bool al, .sl (ssRows l) false]] none false] = some z) := by
  have lX := (stOK_iff.1 oB).1
  have gX := (stOK_iff.1 oB).2.1
  have sX := (stOK_iff.1 oB).2.2
  have lY := (stOK_iff.1 oA).1
  intro m
  induction m with
  | zero =>
    intro i hi
    have h1 : ¬ (i : Int) < (B.length : Int) := by omega
    have e : B.drop i = [] := List.drop_eq_nil_of_le (by omega)
    rw [e]
    refine ⟨fun h => by simp [anyDis] at h, fun _ z hz => ?_⟩
    refine loopAt_step ok_isochroneref11_Agree.good 1000 ?_
    ((repeat ((conv => lhs; whnf); simp only [go_sem, ↓reduceIte, Nat.reduceEqDiff, Nat.reduceBEq, Nat.reduceAdd, Nat.reduceMul, Nat.reduceSub, Nat.reduceLT, Nat.reduceLeDiff, reduceCtorEq, Int.reduceToNat, Int.reduceLE, Int.reduceLT, Int.reduceEq, sem_isochroneref11_Agree, h1])); try (conv => lhs; whnf); try rfl)
    exact hz
  | succ m ih =>
    intro i hi
    have h1 : (i : Int) < (B.length : Int) := by omega
    have h2 := wrap_succ (i := i) (n := B.length) (by omega) (by unfold maxLen; omega)
    have x1 : 0 ≤ (i : Int) ∧ (i : Int) < (B.length : Int) := ⟨by omega, h1⟩
    have e : B.drop i = B.getD i bd0 :: B.drop (i + 1) := by rw [getD_lt (by omega)]; exact List.drop_eq_getElem_cons (by omega)
    obtain ⟨ih1, ih2⟩ := ih (i + 1) (by omega)
    rw [e]
    unfold anyDis at ih1 ih2 ⊢
    rw [List.any_cons]
    have mem : B.getD i bd0 ∈ B := by rw [getD_lt (by omega)]; exact List.getElem_mem _
    have gv := getV_mem sX mem
    have fv := fine_of (hB _ mem).v (gX _ mem).fit
    generalize hQ : B.getD i bd0 = Q at gv fv
    have ch := fun S => Has10_o S al l Q.name (by omega)
    have gg := fun S => get11_o S A Q.name (by omega)
    have cs := fun S => SameRat_o S Q.val (getV Q.name A) ⟨fv.n, fv.d⟩
    unfold RV.cells at gg cs
    have ed : dis al l A B Q.name = (!(inL Q.name l == al) && !(sameRV Q.val (getV Q.name A))) := by
      unfold dis
      rw [gv, sameRV_comm (getV Q.name A) Q.val]
    cases kh : (!(inL Q.name l == al))
    · rw [kh] at ch ed
      rw [ed]
      simp only [Bool.false_and, Bool.false_or]
      refine ⟨fun h => ?_, fun h z hz => ?_⟩
      · have key := ih1 h
        refine loopAt_step ok_isochroneref11_Agree.good 1000 ?_
        ((repeat ((conv => lhs; whnf); simp only [go_sem, ↓reduceIte, Nat.reduceEqDiff, Nat.reduceBEq, Nat.reduceAdd, Nat.reduceMul, Nat.reduceSub, Nat.reduceLT, Nat.reduceLeDiff, reduceCtorEq, Int.reduceToNat, Int.reduceLE, Int.reduceLT, Int.reduceEq, sem_isochroneref11_Agree, h1, x1, Int.toNat_natCast, hQ, Bd.cells, ch, h2])); try (conv => lhs; whnf); try rfl)
        exact key
      · have key := ih2 h z hz
        clear hz
        refine loopAt_step ok_isochroneref11_Agree.good 1000 ?_
        ((repeat ((conv => lhs; whnf); simp only [go_sem, ↓reduceIte, Nat.reduceEqDiff, Nat.reduceBEq, Nat.reduceAdd, Nat.reduceMul, Nat.reduceSub, Nat.reduceLT, Nat.reduceLeDiff, reduceCtorEq, Int.reduceToNat, Int.reduceLE, Int.reduceLT, Int.reduceEq, sem_isochroneref11_Agree, h1, x1, Int.toNat_natCast, hQ, Bd.cells, ch, h2])); try (conv => lhs; whnf); try rfl)
        exact key
    · rw [kh] at ch ed
      rw [ed]
      cases ks : sameRV Q.val (getV Q.name A)
      · rw [ks] at cs
        simp only [Bool.not_false, Bool.and_self, Bool.true_or]
        refine ⟨fun _ => ?_, fun h => by cases h⟩
        refine loopAt_step ok_isochroneref11_Agree.good 1000 ?_
        ((repeat ((conv => lhs; whnf); simp only [go_sem, ↓reduceIte, Nat.reduceEqDiff, Nat.reduceBEq, Nat.reduceAdd, Nat.reduceMul, Nat.reduceSub, Nat.reduceLT, Nat.reduceLeDiff, reduceCtorEq, Int.reduceToNat, Int.reduceLE, Int.reduceLT, Int.reduceEq, sem_isochroneref11_Agree, h1, x1, Int.toNat_natCast, hQ, Bd.cells, ch, gg, cs])); try (conv => lhs; whnf); try rfl)
      · rw [ks] at cs
        simp only [Bool.not_true, Bool.and_false, Bool.false_or]
        refine ⟨fun h => ?_, fun h z hz => ?_⟩
        · have key := ih1 h
          refine loopAt_step ok_isochroneref11_Agree.good 1000 ?_
          ((repeat ((conv => lhs; whnf); simp only [go_sem, ↓reduceIte, Nat.reduceEqDiff, Nat.reduceBEq, Nat.reduceAdd, Nat.reduceMul, Nat.reduceSub, Nat.reduceLT, Nat.reduceLeDiff, reduceCtorEq, Int.reduceToNat, Int.reduceLE, Int.reduceLT, Int.reduceEq, sem_isochroneref11_Agree, h1, x1, Int.toNat_natCast, hQ, Bd.cells, ch, gg, cs, h2])); try (conv => lhs; whnf); try rfl)
          exact key
        · have key := ih2 h z hz
          clear hz
          refine loopAt_step ok_isochroneref11_Agree.good 1000 ?_
          ((repeat ((conv => lhs; whnf); simp only [go_sem, ↓reduceIte, Nat.reduceEqDiff, Nat.reduceBEq, Nat.reduceAdd, Nat.reduceMul, Nat.reduceSub, Nat.reduceLT, Nat.reduceLeDiff, reduceCtorEq, Int.reduceToNat, Int.reduceLE, Int.reduceLT, Int.reduceEq, sem_isochroneref11_Agree, h1, x1, Int.toNat_natCast, hQ, Bd.cells, ch, gg, cs, h2])); try (conv => lhs; whnf); try rfl)
          exact key
theorem call_Agree11 (al : Bool) (l : List ByteArray) (hl : l.length ≤ 1000) (hn : NmsOk l) (A B : List Bd) (hA : StOk A) (hB : StOk B) (lA : A.length ≤ 1000) (lB : B.length ≤ 1000) : callL Tryz.prog hints 28 [.sl (stRows A) false, .sl (stRows B) false, .agg [.bool al, .sl (ssRows l) false]] = some (agrR al l A B) := by
  have hM : 3000000 ≤ maxLen := by decide
  have va := fun S => Valid11_o S A hA (by omega)
  have vb := fun S => Valid11_o S B hB (by omega)
  have vn := fun S => nValid10_o S al l hn (by omega)
  unfold agrR agrOK
  cases k1 : stOK A
  · rw [k1] at va
    simp only [Bool.false_and, Bool.false_eq_true, if_false]
    refine FX.callL (r := (.tup [.bool false, .int .i64 3], [.arr [[.bool al, .sl (ssRows l) false]] none false])) ok_isochroneref11_Agree 1000 rfl rfl ?_ rfl
    ((repeat ((conv => lhs; whnf); simp only [go_sem, ↓reduceIte, Nat.reduceEqDiff, Nat.reduceBEq, Nat.reduceAdd, Nat.reduceMul, Nat.reduceSub, Nat.reduceLT, Nat.reduceLeDiff, reduceCtorEq, Int.reduceToNat, Int.reduceLE, Int.reduceLT, Int.reduceEq, sem_isochroneref11_Agree, va])); try (conv => lhs; whnf); try rfl)
  · rw [k1] at va
    cases k2 : stOK B
    · rw [k2] at vb
      simp only [Bool.and_false, Bool.false_and, Bool.false_eq_true, if_false]
      refine FX.callL (r := (.tup [.bool false, .int .i64 3], [.arr [[.bool al, .sl (ssRows l) false]] none false])) ok_isochroneref11_Agree 1000 rfl rfl ?_ rfl
      ((repeat ((conv => lhs; whnf); simp only [go_sem, ↓reduceIte, Nat.reduceEqDiff, Nat.reduceBEq, Nat.reduceAdd, Nat.reduceMul, Nat.reduceSub, Nat.reduceLT, Nat.reduceLeDiff, reduceCtorEq, Int.reduceToNat, Int.reduceLE, Int.reduceLT, Int.reduceEq, sem_isochroneref11_Agree, va, vb])); try (conv => lhs; whnf); try rfl)
    · rw [k2] at vb
      cases k3 : nmsOK l l.length 0
      · rw [k3] at vn
        simp only [Bool.and_false, Bool.false_and, Bool.false_eq_true, if_false]
        refine FX.callL (r := (.tup [.bool false, .int .i64 3], [.arr [[.bool al, .sl (ssRows l) false]] none false])) ok_isochroneref11_Agree 1000 rfl rfl ?_ rfl
        ((repeat ((conv => lhs; whnf); simp only [go_sem, ↓reduceIte, Nat.reduceEqDiff, Nat.reduceBEq, Nat.reduceAdd, Nat.reduceMul, Nat.reduceSub, Nat.reduceLT, Nat.reduceLeDiff, reduceCtorEq, Int.reduceToNat, Int.reduceLE, Int.reduceLT, Int.reduceEq, sem_isochroneref11_Agree, va, vb, vn])); try (conv => lhs; whnf); try rfl)
      · rw [k3] at vn
        simp only [Bool.and_self, Bool.true_and, if_true]
        obtain ⟨p1, p2⟩ := loop_AgreeA al l hl A B hA hB k1 k2 [.blk 0, .seq 0 15] A.length 0 (by omega)
        obtain ⟨q1, q2⟩ := loop_AgreeB al l hl A B hA hB k1 k2 [.blk 2, .seq 0 31] B.length 0 (by omega)
        rw [List.drop_zero] at p1 p2 q1 q2
        cases d1 : anyDis al l A B A
        · cases d2 : anyDis al l A B B
          · simp only [Bool.or_self, Bool.not_false]
            refine FX.callL (r := (.tup [.bool true, .int .i64 0], [.arr [[.bool al, .sl (ssRows l) false]] none false])) ok_isochroneref11_Agree 1000 rfl rfl ?_ rfl
            ((repeat ((conv => lhs; whnf); simp only [go_sem, ↓reduceIte, Nat.reduceEqDiff, Nat.reduceBEq, Nat.reduceAdd, Nat.reduceMul, Nat.reduceSub, Nat.reduceLT, Nat.reduceLeDiff, reduceCtorEq, Int.reduceToNat, Int.reduceLE, Int.reduceLT, Int.reduceEq, sem_isochroneref11_Agree, va, vb, vn])); try (conv => lhs; whnf); try rfl)
            refine p2 d1 _ ?_
            refine exit_run ok_isochroneref11_Agree.good 1000 ?_
            ((repeat ((conv => lhs; whnf); simp only [go_sem, ↓reduceIte, Nat.reduceEqDiff, Nat.reduceBEq, Nat.reduceAdd, Nat.reduceMul, Nat.reduceSub, Nat.reduceLT, Nat.reduceLeDiff, reduceCtorEq, Int.reduceToNat, Int.reduceLE, Int.reduceLT, Int.reduceEq, sem_isochroneref11_Agree])); try (conv => lhs; whnf); try rfl)
            refine q2 d2 _ ?_
            refine exit_run ok_isochroneref11_Agree.good 1000 ?_
            ((repeat ((conv => lhs; whnf); simp only [go_sem, ↓reduceIte, Nat.reduceEqDiff, Nat.reduceBEq, Nat.reduceAdd, Nat.reduceMul, Nat.reduceSub, Nat.reduceLT, Nat.reduceLeDiff, reduceCtorEq, Int.reduceToNat, Int.reduceLE, Int.reduceLT, Int.reduceEq, sem_isochroneref11_Agree])); try (conv => lhs; whnf); try rfl)
          · have key := q1 d2
            simp only [Bool.or_true, Bool.not_true]
            refine FX.callL (r := (.tup [.bool false, .int .i64 0], [.arr [[.bool al, .sl (ssRows l) false]] none false])) ok_isochroneref11_Agree 1000 rfl rfl ?_ rfl
            ((repeat ((conv => lhs; whnf); simp only [go_sem, ↓reduceIte, Nat.reduceEqDiff, Nat.reduceBEq, Nat.reduceAdd, Nat.reduceMul, Nat.reduceSub, Nat.reduceLT, Nat.reduceLeDiff, reduceCtorEq, Int.reduceToNat, Int.reduceLE, Int.reduceLT, Int.reduceEq, sem_isochroneref11_Agree, va, vb, vn])); try (conv => lhs; whnf); try rfl)
            refine p2 d1 _ ?_
            refine exit_run ok_isochroneref11_Agree.good 1000 ?_
            ((repeat ((conv => lhs; whnf); simp only [go_sem, ↓reduceIte, Nat.reduceEqDiff, Nat.reduceBEq, Nat.reduceAdd, Nat.reduceMul, Nat.reduceSub, Nat.reduceLT, Nat.reduceLeDiff, reduceCtorEq, Int.reduceToNat, Int.reduceLE, Int.reduceLT, Int.reduceEq, sem_isochroneref11_Agree])); try (conv => lhs; whnf); try rfl)
            exact key
        · have key := p1 d1
          simp only [Bool.true_or, Bool.not_true]
          refine FX.callL (r := (.tup [.bool false, .int .i64 0], [.arr [[.bool al, .sl (ssRows l) false]] none false])) ok_isochroneref11_Agree 1000 rfl rfl ?_ rfl
          ((repeat ((conv => lhs; whnf); simp only [go_sem, ↓reduceIte, Nat.reduceEqDiff, Nat.reduceBEq, Nat.reduceAdd, Nat.reduceMul, Nat.reduceSub, Nat.reduceLT, Nat.reduceLeDiff, reduceCtorEq, Int.reduceToNat, Int.reduceLE, Int.reduceLT, Int.reduceEq, sem_isochroneref11_Agree, va, vb, vn])); try (conv => lhs; whnf); try rfl)
          exact key
end
end Go.Vs
end
/- States: what Set leaves. -/
section
set_option linter.unusedVariables false
set_option linter.unusedSimpArgs false
set_option maxRecDepth 100000
namespace Go.Vs
open Go Go.Proofs
theorem ins_mem {nm : ByteArray} {v : RV} : ∀ {L : List Bd} {b : Bd}, b ∈ insP nm v L → b ∈ L ∨ (b = Bd.mk nm v ∧ v.num.length ≠ 0)
  | [], b, h => by
    rw [insP_nil] at h
    split at h
    · cases h
    · rename_i h0
      exact .inr ⟨by simpa using h, h0⟩
  | c :: r, b, h => by
    cases hb : Op.bytesLess c.name.toList nm.toList
    · rw [insP_ge hb, List.mem_append] at h
      rcases h with h | h
      · split at h
        · cases h
        · rename_i h0
          exact .inr ⟨by simpa using h, h0⟩
      · split at h
        · exact .inl (List.mem_cons_of_mem _ h)
        · exact .inl h
    · rw [insP_lt hb, List.mem_cons] at h
      rcases h with rfl | h
      · exact .inl (by simp)
      · rcases ins_mem h with h | h
        · exact .inl (List.mem_cons_of_mem _ h)
        · exact .inr h
theorem ins_sorted (nm : ByteArray) (v : RV) : ∀ {L : List Bd}, Sorted L → Sorted (insP nm v L)
  | [], _ => by
    rw [insP_nil]
    unfold Sorted
    split <;> simp
  | c :: r, h => by
    have h' := h
    unfold Sorted at h'
    rw [List.pairwise_cons] at h'
    cases hb : Op.bytesLess c.name.toList nm.toList
    · rw [insP_ge hb]
      have hr := sorted_after h hb
      have tail : Sorted (if eqN c nm = true then r else c :: r) ∧ ∀ d ∈ (if eqN c nm = true then r else c :: r), before nm d.name := by
        cases he : eqN c nm
        · simp only [Bool.false_eq_true, if_false]
          refine ⟨h, fun d hd => ?_⟩
          rcases List.mem_cons.1 hd with rfl | hd
          · exact (not_before.1 hb).resolve_left (beq_eq_false_iff_ne.1 he)
          · exact hr d hd
        · simp only [if_true]
          exact ⟨h'.2, hr⟩
      split
      · rw [List.nil_append]; exact tail.1
      · unfold Sorted
        rw [List.singleton_append, List.pairwise_cons]
        exact ⟨tail.2, tail.1⟩
    · rw [insP_lt hb]
      unfold Sorted
      rw [List.pairwise_cons]
      refine ⟨fun d hd => ?_, ins_sorted nm v h'.2⟩
      rcases ins_mem hd with hd | ⟨rfl, _⟩
      · exact h'.1 d hd
      · exact hb
theorem getV_ins (nm : ByteArray) (v : RV) : ∀ {L : List Bd}, Sorted L → getV nm (insP nm v L) = if v.num.length = 0 then rv0 else v
  | [], _ => by
    rw [insP_nil]
    by_cases h0 : v.num.length = 0
    · rw [if_pos h0, if_pos h0]; rfl
    · rw [if_neg h0, if_neg h0]; simp [getV]
  | c :: r, h => by
    have h' := h
    unfold Sorted at h'
    rw [List.pairwise_cons] at h'
    cases hb : Op.bytesLess c.name.toList nm.toList
    · rw [insP_ge hb]
      have hr := sorted_after h hb
      by_cases h0 : v.num.length = 0
      · rw [if_pos h0, if_pos h0, List.nil_append]
        refine getV_none fun d hd => ?_
        cases he : eqN c nm
        · rw [he] at hd
          simp only [Bool.false_eq_true, if_false, List.mem_cons] at hd
          rcases hd with rfl | hd
          · exact beq_eq_false_iff_ne.1 he
          · exact fun e => before.ne (hr d hd) e.symm
        · rw [he] at hd
          simp only [if_true] at hd
          exact fun e => before.ne (hr d hd) e.symm
      · rw [if_neg h0, if_neg h0]
        simp [getV]
    · rw [insP_lt hb]
      simp only [getV, before.ne hb, if_false]
      exact getV_ins nm v h'.2
theorem getV_other {nm o : ByteArray} (ho : o.toList ≠ nm.toList) (v : RV) : ∀ {L : List Bd}, Sorted L → getV o (insP nm v L) = getV o L
  | [], _ => by
    rw [insP_nil]
    split
    · rfl
    · simp [getV, ho.symm]
  | c :: r, h => by
    have h' := h
    unfold Sorted at h'
    rw [List.pairwise_cons] at h'
    cases hb : Op.bytesLess c.name.toList nm.toList
    · rw [insP_ge hb]
      have e : getV o (if eqN c nm = true then r else c :: r) = getV o (c :: r) := by
        cases he : eqN c nm
        · rfl
        · have : c.name.toList = nm.toList := beq_iff_eq.1 he
          simp [getV, this, ho.symm]
      split
      · rw [List.nil_append, e]
      · rw [List.singleton_append]
        simp only [getV, ho.symm, if_false]
        exact e
    · rw [insP_lt hb]
      simp only [getV, getV_other ho v h'.2]
theorem ins_ok {nm : ByteArray} {v : RV} {L : List Bd} (hL : StOk L) (hn : nm.size ≤ maxLen) (hv : v.ok) : StOk (insP nm v L) := fun b hb => by
  rcases ins_mem hb with h | ⟨rfl, _⟩
  · exact hL b h
  · exact ⟨hn, hv⟩
theorem ins_stOK {nm : ByteArray} {v : RV} {L : List Bd} (h : setOK L nm v = true) (hl : (insP nm v L).length ≤ 40) : stOK (insP nm v L) = true := by
  unfold setOK at h
  simp only [Bool.and_eq_true] at h
  obtain ⟨⟨h1, h2⟩, h3⟩ := h
  obtain ⟨a1, a2, a3⟩ := stOK_iff.1 h1
  refine stOK_iff.2 ⟨hl, fun b hb => ?_, ins_sorted nm v a3⟩
  rcases ins_mem hb with h | ⟨rfl, h0⟩
  · exact a2 b h
  · exact ⟨h2, h0, h3⟩
/-- A valid number without words is zero. -/
theorem zero_rv {v : RV} (h : v.fit = true) (h0 : v.num.length = 0) : sameRV rv0 v = true := by
  unfold RV.fit at h
  simp only [Bool.and_eq_true] at h
  have h' := h.2
  unfold validR at h'
  rw [if_pos h0] at h'
  simp only [Bool.and_eq_true, Bool.not_eq_true', decide_eq_true_eq] at h'
  have e := List.eq_nil_of_length_eq_zero h0
  simp [sameRV, rv0, h'.2.1, e, h'.2.2]
end Go.Vs
end
/- A sanity check of the law's own holds: by the kernel. -/
section
set_option linter.unusedVariables false
namespace Go.Vs
open Go Go.Proofs
theorem awake_run : callP Tryz.prog hints 60 8 [] = some (.bool true) := by kernel_rfl
theorem awake_L : callL Tryz.prog hints 8 [] = some (.bool true) := callL_run awake_run
end Go.Vs
end
/- StateSets: the law returns true. -/
section
set_option linter.unusedVariables false
set_option linter.unusedSimpArgs false
set_option maxRecDepth 100000
namespace Go.Vs
open Go Go.Proofs
theorem FX.callB {F : FX} {f : FuncId} (ok : F.ok f) (n : Nat) {args : List PV} (ha : Nat.ble args.length F.fn.ntmps = true) {e : Env} (he : (List.range args.length).zip args = e) {b : Bool} (h : ∃ S', run 0 F n (.at 0 1) [] e [] = some (.bool b, S')) : Vs.callL Tryz.prog hints f args = some (.bool b) := by
  obtain ⟨S', h⟩ := h
  exact FX.callL ok n ha he h rfl
theorem getR_form (L : List Bd) (nm : ByteArray) (hL : StOk L) : ∃ (R : RV) (c : Int), getR L nm = .tup [.agg R.cells, .int .i64 c] ∧ R.num.length ≤ 400 ∧ R.den.length ≤ 400 := by
  refine ⟨_, _, rfl, ?_⟩
  cases k : getOK L nm
  · rw [if_neg (by simp)]; exact ⟨by decide, by decide⟩
  · unfold getOK at k
    simp only [Bool.and_eq_true] at k
    have := fine_getV (nm := nm) hL (stOK_iff.1 k.1).2.1
    rw [if_pos rfl]
    exact ⟨this.n, this.d⟩
theorem getR_ok {L : List Bd} {nm : ByteArray} (h : getOK L nm = true) : getR L nm = .tup [.agg (getV nm L).cells, .int .i64 0] := by
  unfold getR; rw [if_pos h, if_pos h]
section
attribute [local irreducible] Vs.callL Vs.callRL tyi callO callM callMV appendE storeE evLoad indexAddrO sliceO evFieldAddr evField buildO buildSliceO makeSliceO allocO boxed lenO copyE convertO indexO Vs.gc freezeAll
noncomputable def fx_isochronelaw11_StateSets : FX := ⟨Tryz.f6, hints.of 6, []⟩
theorem ok_isochronelaw11_StateSets : fx_isochronelaw11_StateSets.ok 6 := ⟨by kernel_rfl, of_decide_eq_true (by kernel_rfl), by kernel_rfl, by kernel_rfl, by kernel_rfl, by kernel_rfl⟩
theorem sem_isochronelaw11_StateSets (b0 : Nat) (m : Md) (fs : List Fr) (e : Env) (S : Store) : sem b0 fx_isochronelaw11_StateSets m fs e S = run b0 fx_isochronelaw11_StateSets 1000 m fs e S := (sem_eq _ _ _ _ _ _).trans (run_sem b0 fx_isochronelaw11_StateSets ok_isochronelaw11_StateSets.good 1000 m fs e S).symm
theorem call_StateSets (A B : List Bd) (nm ot : ByteArray) (v : RV) (al : Bool) (l : List ByteArray) (hA : StOk A) (hB : StOk B) (hn : nm.size ≤ maxLen) (ho : ot.size ≤ maxLen) (hv : v.ok) (hl : NmsOk l) :
    callL Tryz.prog hints 6 [.sl (stRows A) false, .sl (stRows B) false, .str nm, .str ot, .agg v.cells, .agg [.bool al, .sl (ssRows l) false]] = some (.bool true) := by
  have hM : 3000000 ≤ maxLen := by decide
  have aw : ∀ S, callO (callL Tryz.prog hints) S 8 [] = some { v := .bool true } := fun S => callO_plain awake_L (by simp)
  by_cases c1 : A.length ≤ 100
  case neg =>
    have c1' : (100 : Int) < (A.length : Int) := by omega
    refine FX.callB ok_isochronelaw11_StateSets 1000 rfl rfl ?_
    apply Exists.intro
    unfold RV.cells
    ((repeat ((conv => lhs; whnf); simp only [go_sem, ↓reduceIte, Nat.reduceEqDiff, Nat.reduceBEq, Nat.reduceAdd, Nat.reduceMul, Nat.reduceSub, Nat.reduceLT, Nat.reduceLeDiff, reduceCtorEq, Int.reduceToNat, Int.reduceLE, Int.reduceLT, Int.reduceEq, sem_isochronelaw11_StateSets, aw, c1'])); try (conv => lhs; whnf); try rfl)
  have c1' : ¬ (100 : Int) < (A.length : Int) := by omega
  by_cases c2 : B.length ≤ 100
  case neg =>
    have c2' : (100 : Int) < (B.length : Int) := by omega
    refine FX.callB ok_isochronelaw11_StateSets 1000 rfl rfl ?_
    apply Exists.intro
    unfold RV.cells
    ((repeat ((conv => lhs; whnf); simp only [go_sem, ↓reduceIte, Nat.reduceEqDiff, Nat.reduceBEq, Nat.reduceAdd, Nat.reduceMul, Nat.reduceSub, Nat.reduceLT, Nat.reduceLeDiff, reduceCtorEq, Int.reduceToNat, Int.reduceLE, Int.reduceLT, Int.reduceEq, sem_isochronelaw11_StateSets, aw, c1', c2'])); try (conv => lhs; whnf); try rfl)
  have c2' : ¬ (100 : Int) < (B.length : Int) := by omega
  by_cases c3 : l.length ≤ 200
  case neg =>
    have c3' : (200 : Int) < (l.length : Int) := by omega
    refine FX.callB ok_isochronelaw11_StateSets 1000 rfl rfl ?_
    apply Exists.intro
    unfold RV.cells
    ((repeat ((conv => lhs; whnf); simp only [go_sem, ↓reduceIte, Nat.reduceEqDiff, Nat.reduceBEq, Nat.reduceAdd, Nat.reduceMul, Nat.reduceSub, Nat.reduceLT, Nat.reduceLeDiff, reduceCtorEq, Int.reduceToNat, Int.reduceLE, Int.reduceLT, Int.reduceEq, sem_isochronelaw11_StateSets, aw, c1', c2', c3'])); try (conv => lhs; whnf); try rfl)
  have c3' : ¬ (200 : Int) < (l.length : Int) := by omega
  have vA := fun S => stValid_o S A hA (by omega)
  have wA := fun S => Valid11_o S A hA (by omega)
  have g1 := fun S => Get_o S A nm hA (by omega) hn
  have g2 := fun S => Get11_o S A nm hA (by omega) hn
  have t1 := fun S => callO_plain (S := S) (call_Set A nm v hA (by omega) hn hv) (by simp [Plain.str]; exact ⟨st_plain A, rv_plain v⟩)
  have t2 := fun S => callO_plain (S := S) (call_Set11 A nm v hA (by omega) hn hv) (by simp [Plain.str]; exact ⟨st_plain A, rv_plain v⟩)
  have pN : Plain (.agg [.bool al, .sl (ssRows l) false]) := ⟨rfl, fun _ => rfl⟩
  have a1 := fun S => callO_plain (S := S) (call_Agree al l (by omega) hl A B hA hB (by omega) (by omega)) (by simp; exact ⟨st_plain A, st_plain B, pN⟩)
  have a2 := fun S => callO_plain (S := S) (call_Agree11 al l (by omega) hl A B hA hB (by omega) (by omega)) (by simp; exact ⟨st_plain A, st_plain B, pN⟩)
  unfold agrR at a1 a2
  generalize (agrOK al l A B && !(anyDis al l A B A || anyDis al l A B B)) = p at a1 a2
  generalize (if agrOK al l A B = true then (0 : Int) else 3) = q at a1 a2
  obtain ⟨R, c, eR, r1, r2⟩ := getR_form A nm hA
  rw [eR] at g1 g2
  have sR := fun S => SameRat_o S R R ⟨r1, r2⟩
  rw [sameRV_self] at sR
  unfold RV.cells at g1 g2 sR t1 t2
  generalize stOK A = sv at vA wA
  by_cases hs : setOK A nm v = true ∧ (insP nm v A).length ≤ 40
  case neg =>
    have e : ∃ k : Int, k ≠ 0 ∧ setR A nm v = .tup [.sl (stRows []) true, .int .i64 k] := by
      unfold setR
      by_cases h1 : setOK A nm v = true
      · rw [if_pos h1, if_neg (fun h => hs ⟨h1, h⟩)]; exact ⟨2, by decide, rfl⟩
      · rw [if_neg h1]; exact ⟨3, by decide, rfl⟩
    obtain ⟨k, k0, e⟩ := e
    rw [e] at t1 t2
    have sm := fun S => callO_plain (S := S) (call_Same [] true (by simp) (by simp)) (by simp; exact Plain.nil)
    refine FX.callB ok_isochronelaw11_StateSets 1000 rfl rfl ?_
    apply Exists.intro
    unfold RV.cells
    ((repeat ((conv => lhs; whnf); simp only [go_sem, ↓reduceIte, Nat.reduceEqDiff, Nat.reduceBEq, Nat.reduceAdd, Nat.reduceMul, Nat.reduceSub, Nat.reduceLT, Nat.reduceLeDiff, reduceCtorEq, Int.reduceToNat, Int.reduceLE, Int.reduceLT, Int.reduceEq, sem_isochronelaw11_StateSets, aw, c1', c2', c3', g1, g2, t1, t2, vA, wA, sR, sm, a1, a2, k0, eq_self, beq_self_eq_true, decide_true, Bool.not_true])); try (conv => lhs; whnf); try rfl)
  obtain ⟨hs1, hs2⟩ := hs
  have e : setR A nm v = .tup [.sl (stRows (insP nm v A)) false, .int .i64 0] := by
    unfold setR
    rw [if_pos hs1, if_pos hs2]
  rw [e] at t1 t2
  have hI := ins_ok (nm := nm) (v := v) hA hn hv
  have oI := ins_stOK hs1 hs2
  have hs1' := hs1
  unfold setOK at hs1'
  simp only [Bool.and_eq_true] at hs1'
  obtain ⟨⟨h1, h2⟩, h3⟩ := hs1'
  have sA := (stOK_iff.1 h1).2.2
  have gI := (stOK_iff.1 oI).2.1
  have lI : (insP nm v A).length ≤ maxLen := by omega
  have sm := fun S => callO_plain (S := S) (call_Same (insP nm v A) false (fun b hb => ⟨(fine_of (hI b hb).v (gI b hb).fit).n, (fine_of (hI b hb).v (gI b hb).fit).d⟩) (by omega)) (by simp; exact st_plain _)
  have u1 := fun S => Get_o S (insP nm v A) nm hI lI hn
  rw [getR_ok (show getOK (insP nm v A) nm = true by unfold getOK; rw [oI, h2]; rfl)] at u1
  have fI := fine_getV (nm := nm) hI gI
  have sC := fun S => SameRat_o S (getV nm (insP nm v A)) v ⟨fI.n, fI.d⟩
  have eC : sameRV (getV nm (insP nm v A)) v = true := by
    rw [getV_ins nm v sA]
    split
    · rename_i h0; exact zero_rv h3 h0
    · exact sameRV_self v
  rw [eC] at sC
  unfold RV.cells at u1 sC
  cases ce : (ot.toList == nm.toList)
  case true =>
    refine FX.callB ok_isochronelaw11_StateSets 1000 rfl rfl ?_
    apply Exists.intro
    unfold RV.cells
    ((repeat ((conv => lhs; whnf); simp only [go_sem, ↓reduceIte, Nat.reduceEqDiff, Nat.reduceBEq, Nat.reduceAdd, Nat.reduceMul, Nat.reduceSub, Nat.reduceLT, Nat.reduceLeDiff, reduceCtorEq, Int.reduceToNat, Int.reduceLE, Int.reduceLT, Int.reduceEq, sem_isochronelaw11_StateSets, aw, c1', c2', c3', g1, g2, t1, t2, vA, wA, sR, sm, a1, a2, u1, sC, ce, eq_self, beq_self_eq_true, decide_true, Bool.not_true])); try (conv => lhs; whnf); try rfl)
  have vo := fun S => Var_o S ot ho
  cases ko : varOK ot
  case false =>
    rw [ko] at vo
    refine FX.callB ok_isochronelaw11_StateSets 1000 rfl rfl ?_
    apply Exists.intro
    unfold RV.cells
    ((repeat ((conv => lhs; whnf); simp only [go_sem, ↓reduceIte, Nat.reduceEqDiff, Nat.reduceBEq, Nat.reduceAdd, Nat.reduceMul, Nat.reduceSub, Nat.reduceLT, Nat.reduceLeDiff, reduceCtorEq, Int.reduceToNat, Int.reduceLE, Int.reduceLT, Int.reduceEq, sem_isochronelaw11_StateSets, aw, c1', c2', c3', g1, g2, t1, t2, vA, wA, sR, sm, a1, a2, u1, sC, ce, vo, eq_self, beq_self_eq_true, decide_true, Bool.not_true])); try (conv => lhs; whnf); try rfl)
  rw [ko] at vo
  have u2 := fun S => Get_o S (insP nm v A) ot hI lI ho
  have u3 := fun S => Get_o S A ot hA (by omega) ho
  rw [getR_ok (show getOK (insP nm v A) ot = true by unfold getOK; rw [oI, ko]; rfl), getV_other (beq_eq_false_iff_ne.1 ce) v sA] at u2
  rw [getR_ok (show getOK A ot = true by unfold getOK; rw [h1, ko]; rfl)] at u3
  have fo := fine_getV (nm := ot) hA (stOK_iff.1 h1).2.1
  have sO := fun S => SameRat_o S (getV ot A) (getV ot A) ⟨fo.n, fo.d⟩
  rw [sameRV_self] at sO
  unfold RV.cells at u2 u3 sO
  refine FX.callB ok_isochronelaw11_StateSets 1000 rfl rfl ?_
  apply Exists.intro
  unfold RV.cells
  ((repeat ((conv => lhs; whnf); simp only [go_sem, ↓reduceIte, Nat.reduceEqDiff, Nat.reduceBEq, Nat.reduceAdd, Nat.reduceMul, Nat.reduceSub, Nat.reduceLT, Nat.reduceLeDiff, reduceCtorEq, Int.reduceToNat, Int.reduceLE, Int.reduceLT, Int.reduceEq, sem_isochronelaw11_StateSets, aw, c1', c2', c3', g1, g2, t1, t2, vA, wA, sR, sm, a1, a2, u1, sC, ce, vo, u2, u3, sO, eq_self, beq_self_eq_true, decide_true, Bool.not_true])); try (conv => lhs; whnf); try rfl)
end
end Go.Vs
end
/- The library's strings.Builder at this program: String as the shelf has it; copyCheck and WriteString walked here (this dump's copyCheck has another last branch than the shelf's). -/
section
set_option linter.unusedVariables false
set_option linter.unusedSimpArgs false
namespace Go.Proofs
open Go.RowKit
theorem Tryz.sizeBuilder : (Tryz.prog.info? 166).map (·.size) = some 2 := by kernel_rfl
theorem Tryz.liesBuilder : liesAt Tryz.prog Tryz.prog.depth 166 (2 / Tryz.prog.cellsOf 166) 0 166 1 = true := by kernel_rfl
theorem Tryz.infoByte : (Tryz.prog.info? 5).map (fun i => (i.zero, i.size, i.bytes)) = some (some (.int .u8 0), 1, 1) := by kernel_rfl
theorem Tryz.cellsByte : Tryz.prog.cellsOf 5 = 1 := by kernel_rfl
set_option maxHeartbeats 1000000 in
set_option maxRecDepth 100000 in
theorem Tryz.Builder_String (B b : Nat) (l : List UInt8) (w : World) (h : Lib.IsBuilder 166 5 B b (Lib.byteCells l) w) (h0 : l ≠ []) :
    Calls Tryz.prog 158 #[.pointer (some ⟨b, 0, none⟩)] w fun e w' => e = .returned (.string ⟨l.toArray⟩) ∧ Below B w w' := by
  obtain ⟨p, hB, v, hbk, hown, hne⟩ : ∃ p, Lib.BuilderAt 166 5 B b p (Lib.byteCells l) w := by
    rcases h with h | h
    · exact ⟨_, h⟩
    · exact ⟨_, h⟩
  have hl0 : l.length ≠ 0 := by simpa using h0
  rw [Lib.byteCells_length] at hown
  obtain ⟨g, cap, cur, rfl, hbg, hg, hnc, hcm, hcs, htake⟩ : ∃ g cap cur, v = .slice (some ⟨g, 0, none⟩) l.length cap ∧ B ≤ g ∧ w.heap[g]? = some (.cells cur 5 (0, 0)) ∧ l.length ≤ cap ∧ cap ≤ maxLen ∧ cur.size = cap * 1 ∧ cur.toList.take (l.length * 1) = Lib.byteCells l := by
    rcases hown.2 with ⟨_, hz⟩ | ⟨g, cap, cur, hv, r⟩
    · exact absurd hz hl0
    · exact ⟨g, cap, cur, hv, r⟩
  have c1 : w.drew.cell? ⟨b, 1, none⟩ = some (.slice (some ⟨g, 0, none⟩) l.length cap) := by
    have : w.drew.heap[b]? = some (.cells #[p, .slice (some ⟨g, 0, none⟩) l.length cap] 166 (0, 0)) := hbk
    rw [Lib.cell_of_heap this]; rfl
  have hSD : (Builtin.unsafeSliceData_ #[144] 188 #[.slice (some ⟨g, 0, none⟩) l.length cap]).run Tryz.prog w.drew = .ok (.pointer (some ⟨g, 0, none⟩)) w.drew :=
    Lib.run_unsafeSliceData_row _ _ _ _ _ _ (by omega)
  have hUS : (Builtin.unsafeString_ #[188, 3] 9 #[.pointer (some ⟨g, 0, none⟩), .int .i64 l.length]).run Tryz.prog w.drew = .ok (.string ⟨l.toArray⟩) (w.drew.freeze ⟨g, 0, none⟩ l.length) := by
    refine Lib.run_unsafeString_row w.drew 188 3 9 5 Tryz.underlying188 Tryz.cellsByte g cur.size (by have hg' : w.drew.heap[g]? = some (.cells cur 5 (0, 0)) := hg; simp [World.shape?, hg']) l h0 (by omega) (by unfold maxLen at hcm; omega) ?_
    intro j x hx
    have := hown.cells (g := g) rfl j (.int .u8 x.toNat) (by simp [Lib.byteCells, hx])
    exact this
  go_enter Tryz.func158, Tryz.ntmps158
  go_wp2
  go_region
  all_goals (go_wp2; go_ret; exact ⟨rfl, Lib.below_freeze (Below.drew (Below.refl B w)) (p := ⟨g, 0, none⟩) hbg _⟩)
set_option maxHeartbeats 1000000 in
set_option maxRecDepth 100000 in
theorem Tryz.copyCheck_fresh (b : Nat) (w : World) (h0 : w.cell? ⟨b, 0, none⟩ = some (.pointer none)) (hsh : w.shape? b = some (166, 2)) (hfz : w.frozen? ⟨b, 0, none⟩ = false) :
    Calls Tryz.prog 174 #[.pointer (some ⟨b, 0, none⟩)] w fun e w' => e = .returned (.tuple #[]) ∧ w' = w.setCell ⟨b, 0, none⟩ (.pointer (some ⟨b, 0, none⟩)) := by
  obtain ⟨j, hj, hjs⟩ := Option.map_eq_some_iff.1 Tryz.sizeBuilder
  go_enter Tryz.func174, Tryz.ntmps174
  go_wp2
  rw [Lib.run_to_unsafe w ⟨b, 0, none⟩ Tryz.underlying164 Tryz.underlying197 hj (by rw [hjs]; decide) hsh (Nat.zero_lt_succ 1)]
  simp only [Result.andThen]
  rw [Oper.upon_value]
  go_wp2
  rw [run_callFunc_extern Tryz.func188 (by kernel_rfl) (by kernel_rfl) (by kernel_rfl) (e := Extern.AbiNoEscape.same) (by kernel_rfl)]
  rw [Lib.run_noEscape]
  simp only [Result.andThen]
  rw [Oper.upon_value]
  go_wp2
  rw [Lib.run_from_unsafe w ⟨b, 0, none⟩ Tryz.underlying197 Tryz.underlying164 hj hsh Tryz.liesBuilder]
  simp only [Result.andThen]
  rw [Oper.upon_value]
  go_wp2
  go_end0
  exact ⟨rfl, rfl⟩
set_option maxHeartbeats 2000000 in
set_option maxRecDepth 100000 in
/-- A builder that has not been written. -/
theorem Tryz.WriteString_fresh (B b : Nat) (bs : List Value) (s : ByteArray) (w : World) (h : Lib.BuilderAt 166 5 B b (.pointer none) bs w) (hlen : bs.length + s.size ≤ 140737488355328) (hBw : B ≤ w.heap.size) :
    Calls Tryz.prog 156 #[.pointer (some ⟨b, 0, none⟩), .string s] w fun e w' => e = .returned (.tuple #[.int .i64 s.size, .nilIface]) ∧ (Lib.BuilderAt 166 5 B b (.pointer (some ⟨b, 0, none⟩)) (bs ++ Lib.strCells s) w' ∧ Below B w w') := by
  obtain ⟨i0, hi, hz0, hz1, hz2⟩ := info_parts Tryz.infoByte
  go_enter Tryz.func156, Tryz.ntmps156
  go_wp2_with (go_at_call 174; refine (Tryz.copyCheck_fresh b _ h.cell0 h.shape h.frozen0).mono ?_)
  rintro e w1 ⟨rfl, rfl⟩
  have h1 := h.used (.pointer (some ⟨b, 0, none⟩))
  have hb1 : Below B w (w.setCell ⟨b, 0, none⟩ (.pointer (some ⟨b, 0, none⟩))) := (Below.refl B w).setCell (p := ⟨b, 0, none⟩) h.1 _
  generalize w.setCell ⟨b, 0, none⟩ (.pointer (some ⟨b, 0, none⟩)) = w1 at h1 hb1 ⊢
  obtain ⟨hB, v, hbk, hown, hne⟩ := h1
  have c0 : w1.cell? ⟨b, 0, none⟩ = some (.pointer (some ⟨b, 0, none⟩)) := by rw [Lib.cell_of_heap hbk]; rfl
  have c1 : w1.cell? ⟨b, 1, none⟩ = some v := by rw [Lib.cell_of_heap hbk]; rfl
  go_wp2_with (at_builtin; refine Lib.wpList_append_own_string _ rfl _ _ 144 9 rfl B 5 i0 Tryz.underlying144 Tryz.underlying9 hi hz0 hz1 hz2 _ _ _ rfl hown s rfl ?c3 ?c4 ?c5 ?_)
  case c3 => unfold maxLen; omega
  case c4 => omega
  case c5 => have := hb1.size; omega
  intro v' w2 hown' hgrow _
  have hlt : b < w1.heap.size := by
    rcases Nat.lt_or_ge b w1.heap.size with h' | h'
    · exact h'
    · simp [Array.getElem?_eq_none h'] at hbk
  have hb2 : w2.heap[b]? = some (.cells #[.pointer (some ⟨b, 0, none⟩), v] 166 (0, 0)) := by
    rw [hgrow.block b hlt (fun e => hne e.symm)]
    exact hbk
  have d0 : w2.cell? ⟨b, 0, none⟩ = some (.pointer (some ⟨b, 0, none⟩)) := by rw [Lib.cell_of_heap hb2]; rfl
  have d1 : w2.cell? ⟨b, 1, none⟩ = some v := by rw [Lib.cell_of_heap hb2]; rfl
  have f1 : w2.frozen? ⟨b, 1, none⟩ = false := Lib.frozen_of_heap hb2 1
  obtain ⟨ao, n', cap, rfl⟩ : ∃ ao n' cap, v' = .slice ao n' cap := by
    rcases hown'.2 with ⟨hv, _⟩ | ⟨g, cap, cur, hv, _⟩
    · exact ⟨_, _, _, hv⟩
    · exact ⟨_, _, _, hv⟩
  go_wp2
  go_ret2
  refine ⟨rfl, ?_, ?_⟩
  · exact Lib.BuilderAt.put (T := 166) (e := 5) hB hb2 (bs' := bs ++ Lib.strCells s) (by simpa [Lib.strCells_length] using hown') (by decide)
  · exact (hb1.grown hgrow (by have := hb1.size; omega) (fun k hk => (hown.lt k hk).1)).setCell (p := ⟨b, 1, none⟩) hB _
end Go.Proofs
end
/- The oracle is true: rat.Text of 2 is "2" and no error. -/
section
set_option linter.unusedVariables false
set_option linter.unusedSimpArgs false
namespace Go.Vs
open Go Go.Proofs Go.RowKit
/-- The same interpreter without an oracle. -/
def hints0 : Hints := { hints with orc := fun _ => none }
theorem hints0_none : OrcOK Tryz.prog hints0 := OrcOK.none fun _ => rfl
theorem builder_keep {B b : Nat} {p : Value} {bs : List Value} {w w' : World} (h : Lib.BuilderAt 166 5 B b p bs w) (hk : ∀ k, k < w.heap.size → w'.heap[k]? = w.heap[k]?) : Lib.BuilderAt 166 5 B b p bs w' := by
  have hlt := h.lt
  obtain ⟨hB, v, hb, ho, hn⟩ := h
  refine ⟨hB, v, by rw [hk b hlt]; exact hb, ⟨ho.1, ?_⟩, hn⟩
  rcases ho.2 with h1 | ⟨g, cap, cur, h1, h2, h3, h4⟩
  · exact .inl h1
  · exact .inr ⟨g, cap, cur, h1, h2, by rw [hk g (Array.getElem?_eq_some_iff.1 h3).1]; exact h3, h4⟩
theorem Grown.trans {a b c : World} (h : Grown a b) (k : Grown b c) : Grown a c := ⟨k.os.trans h.os, k.tape.trans h.tape, k.output.trans h.output, Nat.le_trans h.size k.size, fun i hi => (k.keep i (Nat.lt_of_lt_of_le hi h.size)).trans (h.keep i hi)⟩
theorem Grown.alloc (w : World) (o : Go.Obj) : Grown w (w.alloc o) := by
  have h := (Below.refl w.heap.size w).alloc (Nat.le_refl _) o
  exact ⟨h.os, h.tape, h.output, h.size, h.block⟩
theorem keeps_of {w w' : World} {Y : Nat → Prop} (hg : ∀ k, k < w.heap.size → w'.heap[k]? = w.heap[k]?) : Keeps w Y w' Y := fun a v h hn => by
  refine ⟨?_, hn⟩
  have hlt : a.block < w.heap.size := by
    rcases Nat.lt_or_ge a.block w.heap.size with h' | h'
    · exact h'
    · simp [World.cell?, Array.getElem?_eq_none h'] at h
  rw [World.cell?_of_block (w := w) (hg a.block hlt)]
  exact h
def two (x y : Bool) : PV := .agg [.bool false, .sl [[.int .u32 2]] x, .sl [[.int .u32 1]] y]
theorem run_Valid (x y : Bool) : callP Tryz.prog hints0 60 109 [two x y] = some (.bool true) := by cases x <;> cases y <;> kernel_rfl
theorem run_Text (x : Bool) : callP Tryz.prog hints0 60 155 [.sl [[.int .u32 2]] x] = some (.tup [.str ⟨#[50]⟩, .int .i64 0]) := by cases x <;> kernel_rfl
theorem run_Whole (x y : Bool) : callP Tryz.prog hints0 60 157 [two x y] = some (.bool true) := by cases x <;> cases y <;> kernel_rfl
theorem inv_two {w : World} {Y : Nat → Prop} {x y : Bool} {v : Value} (h : VR w Y noMu (two x y) v) : ∃ v1 v2, v = .agg #[.bool false, v1, v2] ∧ flat v1 = true ∧ flat v2 = true ∧ VR w Y noMu (.sl [[.int .u32 2]] x) v1 ∧ VR w Y noMu (.sl [[.int .u32 1]] y) v2 := by
  unfold two at h
  cases h with
  | fr h => cases h
  | agg cells cs hn hf hr =>
    obtain ⟨l⟩ := cs
    match l, hn with
    | [a, b, c], _ =>
      have h0 := hr 0 _ a rfl rfl
      have h1 := hr 1 _ b rfl rfl
      have h2 := hr 2 _ c rfl rfl
      have e0 : a = .bool false := by
        cases h0 with
        | fr h => cases h; rfl
      exact ⟨b, c, by rw [e0], hf 1 b rfl, hf 2 c rfl, h1, h2⟩
theorem vr_two {w : World} {Y : Nat → Prop} {x y : Bool} {v1 v2 : Value} (f1 : flat v1 = true) (f2 : flat v2 = true) (h1 : VR w Y noMu (.sl [[.int .u32 2]] x) v1) (h2 : VR w Y noMu (.sl [[.int .u32 1]] y) v2) : VR w Y noMu (two x y) (.agg #[.bool false, v1, v2]) :=
  .agg _ _ rfl (fun j v hj => by
    match j, hj with
    | 0, hj => simp at hj; subst hj; rfl
    | 1, hj => simp at hj; subst hj; exact f1
    | 2, hj => simp at hj; subst hj; exact f2) (fun j pv v hp hv => by
    match j, hp, hv with
    | 0, hp, hv => simp at hp hv; subst hp hv; exact .fr (.bool _)
    | 1, hp, hv => simp at hp hv; subst hp hv; exact h1
    | 2, hp, hv => simp at hp hv; subst hp hv; exact h2)
/-- One argument. -/
theorem call1 {f : FuncId} {a r : PV} {k : Nat} (hr : callP Tryz.prog hints0 k f [a] = some r) {w : World} {Y : Nat → Prop} (hY : ∀ b, Y b → b < w.heap.size) {v : Value} (hv : VR w Y noMu a v) : Calls Tryz.prog f #[v] w fun e w' => ∃ u, e = .returned u ∧ Grown w w' ∧ VR w' Y noMu r u := by
  obtain ⟨_, _, _, _, _, h⟩ := callP_sound Tryz.checked.mixed hints0_none k f [a] r hr
  exact h w Y #[v] hY rfl fun j pv u hp hu => by
    match j, hp, hu with
    | 0, hp, hu => simp at hp hu; subst hp hu; exact hv
theorem vr_bool {w : World} {Y : Nat → Prop} {b : Bool} {u : Value} (h : VR w Y noMu (.bool b) u) : u = .bool b := by
  cases h with
  | fr h => cases h; rfl
theorem vr_text {w : World} {Y : Nat → Prop} {s : ByteArray} {n : Int} {u : Value} (h : VR w Y noMu (.tup [.str s, .int .i64 n]) u) : u = .tuple #[.string s, .int .i64 n] := by
  cases h with
  | fr h => cases h
  | tup vs us hn hr =>
    obtain ⟨l⟩ := us
    match l, hn with
    | [a, b], _ =>
      have h0 := hr 0 _ a rfl rfl
      have h1 := hr 1 _ b rfl rfl
      cases h0 with
      | fr h => cases h; cases h1 with
        | fr h => cases h; rfl
set_option maxHeartbeats 4000000 in
set_option maxRecDepth 1000000 in
theorem text_calls {w : World} {Y : Nat → Prop} (hY : ∀ b, Y b → b < w.heap.size) {x y : Bool} {v : Value} (hv : VR w Y noMu (two x y) v) : Calls Tryz.prog 121 #[v] w fun e w' => ∃ u, e = .returned u ∧ Grown w w' ∧ VR w' Y noMu (.tup [.str ⟨#[50]⟩, .int .i64 0]) u := by
  obtain ⟨v1, v2, rfl, f1, f2, r1, r2⟩ := inv_two hv
  go_enter Tryz.func121, Tryz.ntmps121
  go_wp2_with (go_at_call 109; refine (call1 (run_Valid x y) (Y := Y) ?hY1 ?hv1).mono ?_)
  case hY1 => intro b hb; exact Nat.lt_of_lt_of_le (hY b hb) (Grown.alloc w _).size
  case hv1 => exact vr_two f1 f2 (r1.mono (keeps_of (Grown.alloc w _).keep) fun _ _ _ h => by cases h) (r2.mono (keeps_of (Grown.alloc w _).keep) fun _ _ _ h => by cases h)
  rintro e w1 ⟨u, rfl, g1, hu⟩
  cases vr_bool hu
  have k1 : w1.heap[w.heap.size]? = some (.cells #[.bool false, v1, v2] 27 (0, 0)) := by
    rw [g1.keep _ (by simp)]
    exact heap_alloc_new
  have g1' : Grown w w1 := (Grown.alloc w _).trans g1
  have lt1 : w.heap.size < w1.heap.size := (Array.getElem?_eq_some_iff.1 k1).1
  have k2 := Lib.alloc_old w1 (.cells #[.pointer none, .slice none 0 0] 166) _ lt1
  have hf := Lib.fresh_isBuilder 166 5 w1
  have g2 : Grown w (w1.alloc (.cells #[.pointer none, .slice none 0 0] 166)) := Grown.trans g1' (Grown.alloc _ _)
  have z2 : (w1.alloc (.cells #[.pointer none, .slice none 0 0] 166)).heap.size = w1.heap.size + 1 := by simp
  rw [k1] at k2
  have a0 : (w1.alloc (.cells #[.pointer none, .slice none 0 0] 166)).cell? ⟨w.heap.size, 0, none⟩ = some (.bool false) := by rw [Lib.cell_of_heap k2]; rfl
  have a1 : (w1.alloc (.cells #[.pointer none, .slice none 0 0] 166)).cell? ⟨w.heap.size, 1, none⟩ = some v1 := by rw [Lib.cell_of_heap k2]; rfl
  go_wp2_with (go_at_call 155; refine (call1 (run_Text x) (Y := Y) ?hY1 ?hv1).mono ?_)
  case hY1 => intro b hb; exact Nat.lt_of_lt_of_le (hY b hb) g2.size
  case hv1 => exact r1.mono (keeps_of g2.keep) fun _ _ _ h => by cases h
  rintro e w2 ⟨u, rfl, g3, hu⟩
  cases vr_text hu
  have b0 : Lib.BuilderAt 166 5 w1.heap.size w1.heap.size (.pointer none) [] w2 := by
    rcases hf with hf | hf
    · exact builder_keep hf g3.keep
    · exfalso
      obtain ⟨_, v, hb, _⟩ := hf
      have := (heap_alloc_new (w := w1)).symm.trans hb
      cases this
  have g4 : Grown w w2 := g2.trans g3
  have z4 : w1.heap.size + 1 ≤ w2.heap.size := by rw [← z2]; exact g3.size
  have k4 : w2.heap[w.heap.size]? = some (.cells #[.bool false, v1, v2] 27 (0, 0)) := by rw [g3.keep _ (by omega)]; exact k2
  go_wp2_with (go_at_call 156; refine (Tryz.WriteString_fresh _ _ _ _ _ b0 ?hl1 ?hB1).mono ?_)
  case hl1 => decide
  case hB1 => omega
  rintro e w3 ⟨rfl, b1, g5⟩
  have k5 : w3.heap[w.heap.size]? = some (.cells #[.bool false, v1, v2] 27 (0, 0)) := by rw [g5.block _ lt1]; exact k4
  have g6 : Grown w w3 := ⟨g5.os.trans g4.os, g5.tape.trans g4.tape, g5.output.trans g4.output, Nat.le_trans g4.size g5.size, fun b hb => (g5.block b (by have := g1'.size; omega)).trans (g4.keep b hb)⟩
  have a0 : w3.cell? ⟨w.heap.size, 0, none⟩ = some (.bool false) := by rw [Lib.cell_of_heap k5]; rfl
  have a1 : w3.cell? ⟨w.heap.size, 1, none⟩ = some v1 := by rw [Lib.cell_of_heap k5]; rfl
  have a2 : w3.cell? ⟨w.heap.size, 2, none⟩ = some v2 := by rw [Lib.cell_of_heap k5]; rfl
  go_wp2_with (go_at_call 157; refine (call1 (run_Whole x y) (Y := Y) ?hY1 ?hv1).mono ?_)
  case hY1 => intro b hb; exact Nat.lt_of_lt_of_le (hY b hb) g6.size
  case hv1 => exact vr_two f1 f2 (r1.mono (keeps_of g6.keep) fun _ _ _ h => by cases h) (r2.mono (keeps_of g6.keep) fun _ _ _ h => by cases h)
  rintro e w4 ⟨u, rfl, g7, hu⟩
  cases vr_bool hu
  have b2 : Lib.IsBuilder 166 5 w1.heap.size w1.heap.size (Lib.byteCells [50]) w4 := .inr (builder_keep b1 g7.keep)
  have g8 : Grown w w4 := g6.trans g7
  go_wp2_with (go_at_call 158; refine (Tryz.Builder_String _ _ [50] _ b2 (by decide)).mono ?_)
  rintro e w5 ⟨rfl, g9⟩
  have g10 : Grown w w5 := ⟨g9.os.trans g8.os, g9.tape.trans g8.tape, g9.output.trans g8.output, Nat.le_trans g8.size g9.size, fun b hb => (g9.block b (by have := g1'.size; omega)).trans (g8.keep b hb)⟩
  go_wp2
  go_ret2
  refine ⟨_, rfl, g10, .tup _ _ rfl fun j pv v hp hv => ?_⟩
  match j, hp, hv with
  | 0, hp, hv => simp at hp hv; subst hp hv; exact .fr (.str _)
  | 1, hp, hv => simp at hp hv; subst hp hv; exact .fr (.int _ _)
theorem orcText2_some {args : List PV} {r : PV} (h : orcText2 args = some r) : ∃ x y, args = [two x y] ∧ r = .tup [.str ⟨#[50]⟩, .int .i64 0] := by
  unfold orcText2 at h
  split at h
  · rename_i x y
    exact ⟨x, y, rfl, (Option.some.inj h).symm⟩
  · cases h
theorem hints_orc : OrcOK Tryz.prog hints := by
  intro f args r hr
  have ho : hints.orc f = if f = 121 then some orcText2 else none := by
    show ([(121, orcText2)] : List (Nat × _)).lookup f = _
    by_cases hf : f = 121
    · subst hf; rfl
    · rw [if_neg hf, List.lookup_cons, beq_eq_false_iff_ne.2 hf]; rfl
  simp only [ho] at hr
  by_cases hf : f = 121
  · subst hf
    rw [if_pos rfl, Option.bind_some] at hr
    obtain ⟨x, y, rfl, rfl⟩ := orcText2_some hr
    refine ⟨_, _, Tryz.func121, rfl, by decide, fun w Y vs hY hn hv => ?_⟩
    obtain ⟨l⟩ := vs
    match l, hn with
    | [v], _ => exact text_calls hY (hv 0 _ _ rfl rfl)
  · rw [if_neg hf, Option.bind_none] at hr; cases hr
end Go.Vs
end

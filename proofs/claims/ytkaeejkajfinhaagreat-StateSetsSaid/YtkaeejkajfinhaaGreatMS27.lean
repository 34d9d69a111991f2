/- States: Agree, the program's. -/
import Derived.Shelf.Lay
import Derived.Shelf.Strings.Builder1
import Derived.Test.YtkaeejkajfinhaaGreatChecked
import Derived.Test.YtkaeejkajfinhaaGreatMS12
import Derived.Test.YtkaeejkajfinhaaGreatMS26
section
set_option linter.unusedVariables false
set_option linter.unusedSimpArgs false
set_option maxRecDepth 100000
namespace Go.Vs
open Go Go.Proofs
theorem sl_sts : SlT 102 35 1 24 := ⟨by kernel_rfl, by kernel_rfl, by kernel_rfl, by kernel_rfl, by kernel_rfl⟩
@[go_sem] theorem lenm_sts (i o l : Nat) (ex : Bool) : lenO (tyi Tryz.prog 102) (.msl i o l ex) = some (.int .i64 l) := nr (sl_sts.lenm i o l ex)
@[go_sem] theorem build_sts (id n : Nat) (is : List Nat) (rows : List (List PV)) : buildSliceO Tryz.prog 102 id n is rows = if is = List.range n ∧ rowsOK 1 rows = true ∧ (rows.all fun r => r.all PV.cell) = true ∧ n * 1 ≤ 16777216 then some { v := .msl id 0 n true, new := some (rows, some (some 1)) } else none := nr (sl_sts.buildSlice (by decide) id n is rows)
/-- Do two states differ at a name of a set? -/
def dis (al : Bool) (l : List ByteArray) (a b : List Bd) (nm : ByteArray) : Bool := !(inL nm l == al) && !(sameRV (getV nm a) (getV nm b))
def anyDis (al : Bool) (l : List ByteArray) (a b X : List Bd) : Bool := X.any fun x => dis al l a b x.name
theorem Has_o (S : Store) (a : Bool) (l : List ByteArray) (nm : ByteArray) (hl : l.length ≤ 1000000) (hs : Sorted (l.map asBd)) : callO (callL Tryz.prog hints) S 67 [.agg [.bool a, .sl (ssRows l) false], .str nm] = some { v := .bool (!(inL nm l == a)) } := callO_plain (call_Has a l nm hl hs) (by simp [Plain.str]; exact ⟨rfl, fun _ => rfl⟩)
theorem Has10_o (S : Store) (a : Bool) (l : List ByteArray) (nm : ByteArray) (hl : l.length ≤ 1000000) : callO (callL Tryz.prog hints) S 70 [.agg [.bool a, .sl (ssRows l) false], .str nm] = some { v := .bool (!(inL nm l == a)) } := callO_plain (call_Has10 a l nm hl) (by simp [Plain.str]; exact ⟨rfl, fun _ => rfl⟩)
theorem nValid_o (S : Store) (a : Bool) (l : List ByteArray) (hn : NmsOk l) (hl : l.length ≤ 1000000) : callO (callL Tryz.prog hints) S 66 [.agg [.bool a, .sl (ssRows l) false]] = some { v := .bool (nmsOK l l.length 0) } := callO_plain (call_nValid a l hn hl) (by simp; exact ⟨rfl, fun _ => rfl⟩)
theorem nValid10_o (S : Store) (a : Bool) (l : List ByteArray) (hn : NmsOk l) (hl : l.length ≤ 1000000) : callO (callL Tryz.prog hints) S 69 [.agg [.bool a, .sl (ssRows l) false]] = some { v := .bool (nmsOK l l.length 0) } := callO_plain (call_nValid10 a l hn hl) (by simp; exact ⟨rfl, fun _ => rfl⟩)
section
attribute [local irreducible] Vs.callL Vs.callRL tyi callO callM callMV appendE storeE evLoad indexAddrO sliceO evFieldAddr evField buildO buildSliceO makeSliceO allocO boxed lenO copyE convertO indexO Vs.gc freezeAll
noncomputable def fx_state_Agree : FX := ⟨Tryz.f27, hints.of 27, []⟩
theorem ok_state_Agree : fx_state_Agree.ok 27 := ⟨by kernel_rfl, of_decide_eq_true (by kernel_rfl), by kernel_rfl, by kernel_rfl, by kernel_rfl, by kernel_rfl⟩
theorem sem_state_Agree (b0 : Nat) (m : Md) (fs : List Fr) (e : Env) (S : Store) : sem b0 fx_state_Agree m fs e S = run b0 fx_state_Agree 1000 m fs e S := (sem_eq _ _ _ _ _ _).trans (run_sem b0 fx_state_Agree ok_state_Agree.good 1000 m fs e S).symm
theorem loop_Agree2 (al : Bool) (l : List ByteArray) (hl : l.length ≤ 1000) (hs : Sorted (l.map asBd)) (A B : List Bd) (hA : StOk A) (hB : StOk B) (oA : stOK A = true) (oB : stOK B = true) (X : List Bd) (hX : X.length ≤ 40) (t : Int) (fs : List Fr) : ∀ (m i : Nat), i + m = X.length →
    (anyDis al l A B (X.drop i) = true → ∃ S', loopAt 0 fx_state_Agree 2 29900 2 fs [(0, .sl (stRows A) false), (1, .sl (stRows B) false), (5, .mp 0 0 0), (27, .msl 1 0 2 true), (28, .int .i64 (2 : Nat)), (29, .int .i64 t), (33, .sl (stRows X) false), (34, .int .i64 X.length), (35, .int .i64 i)] [.arr [[.bool al, .sl (ssRows l) false]] none false, .arr [[.sl (stRows A) false], [.sl (stRows B) false]] (some (some 1)) false] = some (.tup [.bool false, .int .i64 0], S')) ∧
    (anyDis al l A B (X.drop i) = false → ∀ z : PV × Store, exitTo 0 fx_state_Agree 2 fs [(0, .sl (stRows A) false), (1, .sl (stRows B) false), (5, .mp 0 0 0), (27, .msl 1 0 2 true), (28, .int .i64 (2 : Nat)), (29, .int .i64 t), (33, .undef), (34, .undef), (35, .undef), (36, .undef)] [.arr [[.bool al, .sl (ssRows l) false]] none false, .arr [[.sl (stRows A) false], [.sl (stRows B) false]] (some (some 1)) false] = some z →
      loopAt 0 fx_state_Agree 2 29900 2 fs [(0, .sl (stRows A) false), (1, .sl (stRows B) false), (5, .mp 0 0 0), (27, .msl 1 0 2 true), (28, .int .i64 (2 : Nat)), (29, .int .i64 t), (33, .sl (stRows X) false), (34, .int .i64 X.length), (35, .int .i64 i)] [.arr [[.bool al, .sl (ssRows l) false]] none false, .arr [[.sl (stRows A) false], [.sl (stRows B) false]] (some (some 1)) false] = some z) := by
  intro m
  induction m with
  | zero =>
    intro i hi
    have h1 : ¬ (i : Int) < (X.length : Int) := by omega
    have e : X.drop i = [] := List.drop_eq_nil_of_le (by omega)
    rw [e]
    refine ⟨fun h => by simp [anyDis] at h, fun _ z hz => ?_⟩
    refine loopAt_step ok_state_Agree.good 1000 ?_
    ((repeat ((conv => lhs; whnf); simp only [go_sem, ↓reduceIte, Nat.reduceEqDiff, Nat.reduceBEq, Nat.reduceAdd, Nat.reduceMul, Nat.reduceSub, Nat.reduceLT, Nat.reduceLeDiff, reduceCtorEq, Int.reduceToNat, Int.reduceLE, Int.reduceLT, Int.reduceEq, sem_state_Agree, h1])); try (conv => lhs; whnf); try rfl)
    exact hz
  | succ m ih =>
    intro i hi
    have h1 : (i : Int) < (X.length : Int) := by omega
    have h2 := wrap_succ (i := i) (n := X.length) (by omega) (by unfold maxLen; omega)
    have x1 : 0 ≤ (i : Int) ∧ (i : Int) < (X.length : Int) := ⟨by omega, h1⟩
    have e : X.drop i = X.getD i bd0 :: X.drop (i + 1) := by rw [getD_lt (by omega)]; exact List.drop_eq_getElem_cons (by omega)
    obtain ⟨ih1, ih2⟩ := ih (i + 1) (by omega)
    rw [e]
    unfold anyDis at ih1 ih2 ⊢
    rw [List.any_cons]
    generalize hQ : X.getD i bd0 = Q
    have ch := fun S => Has_o S al l Q.name (by omega) hs
    have ga := fun S => get_o S A Q.name hA oA
    have gb := fun S => get_o S B Q.name hB oB
    obtain ⟨c, cc, ce⟩ := cmp_o (getV Q.name A) (getV Q.name B) (fine_getV hA (stOK_iff.1 oA).2.1) (fine_getV hB (stOK_iff.1 oB).2.1)
    unfold RV.cells at ga gb cc
    have ed : dis al l A B Q.name = (!(inL Q.name l == al) && !(decide (c = 0))) := by rw [ce]; rfl
    cases kh : (!(inL Q.name l == al))
    · rw [kh] at ch ed
      rw [ed]
      simp only [Bool.false_and, Bool.false_or]
      refine ⟨fun h => ?_, fun h z hz => ?_⟩
      · obtain ⟨S', key⟩ := ih1 h
        refine ⟨S', ?_⟩
        refine loopAt_step ok_state_Agree.good 1000 ?_
        ((repeat ((conv => lhs; whnf); simp only [go_sem, ↓reduceIte, Nat.reduceEqDiff, Nat.reduceBEq, Nat.reduceAdd, Nat.reduceMul, Nat.reduceSub, Nat.reduceLT, Nat.reduceLeDiff, reduceCtorEq, Int.reduceToNat, Int.reduceLE, Int.reduceLT, Int.reduceEq, sem_state_Agree, h1, x1, Int.toNat_natCast, hQ, Bd.cells, ch, h2])); try (conv => lhs; whnf); try rfl)
        exact key
      · have key := ih2 h z hz
        clear hz
        refine loopAt_step ok_state_Agree.good 1000 ?_
        ((repeat ((conv => lhs; whnf); simp only [go_sem, ↓reduceIte, Nat.reduceEqDiff, Nat.reduceBEq, Nat.reduceAdd, Nat.reduceMul, Nat.reduceSub, Nat.reduceLT, Nat.reduceLeDiff, reduceCtorEq, Int.reduceToNat, Int.reduceLE, Int.reduceLT, Int.reduceEq, sem_state_Agree, h1, x1, Int.toNat_natCast, hQ, Bd.cells, ch, h2])); try (conv => lhs; whnf); try rfl)
        exact key
    · rw [kh] at ch ed
      rw [ed]
      by_cases c0 : c = 0
      · simp only [c0, decide_true, Bool.not_true, Bool.and_false, Bool.false_or]
        rw [c0] at cc
        refine ⟨fun h => ?_, fun h z hz => ?_⟩
        · obtain ⟨S', key⟩ := ih1 h
          refine ⟨S', ?_⟩
          refine loopAt_step ok_state_Agree.good 1000 ?_
          ((repeat ((conv => lhs; whnf); simp only [go_sem, ↓reduceIte, Nat.reduceEqDiff, Nat.reduceBEq, Nat.reduceAdd, Nat.reduceMul, Nat.reduceSub, Nat.reduceLT, Nat.reduceLeDiff, reduceCtorEq, Int.reduceToNat, Int.reduceLE, Int.reduceLT, Int.reduceEq, sem_state_Agree, h1, x1, Int.toNat_natCast, hQ, Bd.cells, ch, ga, gb, cc, h2])); try (conv => lhs; whnf); try rfl)
          exact key
        · have key := ih2 h z hz
          clear hz
          refine loopAt_step ok_state_Agree.good 1000 ?_
          ((repeat ((conv => lhs; whnf); simp only [go_sem, ↓reduceIte, Nat.reduceEqDiff, Nat.reduceBEq, Nat.reduceAdd, Nat.reduceMul, Nat.reduceSub, Nat.reduceLT, Nat.reduceLeDiff, reduceCtorEq, Int.reduceToNat, Int.reduceLE, Int.reduceLT, Int.reduceEq, sem_state_Agree, h1, x1, Int.toNat_natCast, hQ, Bd.cells, ch, ga, gb, cc, h2])); try (conv => lhs; whnf); try rfl)
          exact key
      · simp only [c0, decide_false, Bool.not_false, Bool.and_self, Bool.true_or]
        refine ⟨fun _ => ?_, fun h => by cases h⟩
        apply Exists.intro
        refine loopAt_step ok_state_Agree.good 1000 ?_
        ((repeat ((conv => lhs; whnf); simp only [go_sem, ↓reduceIte, Nat.reduceEqDiff, Nat.reduceBEq, Nat.reduceAdd, Nat.reduceMul, Nat.reduceSub, Nat.reduceLT, Nat.reduceLeDiff, reduceCtorEq, Int.reduceToNat, Int.reduceLE, Int.reduceLT, Int.reduceEq, sem_state_Agree, h1, x1, Int.toNat_natCast, hQ, Bd.cells, ch, ga, gb, cc, c0])); try (conv => lhs; whnf); try rfl)
def agrOK (al : Bool) (l : List ByteArray) (A B : List Bd) : Bool := stOK A && stOK B && nmsOK l l.length 0
def agrR (al : Bool) (l : List ByteArray) (A B : List Bd) : PV := .tup [.bool (agrOK al l A B && !(anyDis al l A B A || anyDis al l A B B)), .int .i64 (if agrOK al l A B = true then 0 else 3)]
theorem call_Agree (al : Bool) (l : List ByteArray) (hl : l.length ≤ 1000) (hn : NmsOk l) (A B : List Bd) (hA : StOk A) (hB : StOk B) (lA : A.length ≤ 1000) (lB : B.length ≤ 1000) : callL Tryz.prog hints 27 [.sl (stRows A) false, .sl (stRows B) false, .agg [.bool al, .sl (ssRows l) false]] = some (agrR al l A B) := by
  have hM : 3000000 ≤ maxLen := by decide
  have va := fun S => stValid_o S A hA (by omega)
  have vb := fun S => stValid_o S B hB (by omega)
  have vn := fun S => nValid_o S al l hn (by omega)
  unfold agrR agrOK
  cases k1 : stOK A
  · rw [k1] at va
    simp only [Bool.false_and, Bool.false_eq_true, if_false]
    refine FX.callL (r := (.tup [.bool false, .int .i64 3], [.arr [[.bool al, .sl (ssRows l) false]] none false])) ok_state_Agree 1000 rfl rfl ?_ rfl
    ((repeat ((conv => lhs; whnf); simp only [go_sem, ↓reduceIte, Nat.reduceEqDiff, Nat.reduceBEq, Nat.reduceAdd, Nat.reduceMul, Nat.reduceSub, Nat.reduceLT, Nat.reduceLeDiff, reduceCtorEq, Int.reduceToNat, Int.reduceLE, Int.reduceLT, Int.reduceEq, sem_state_Agree, va])); try (conv => lhs; whnf); try rfl)
  · rw [k1] at va
    cases k2 : stOK B
    · rw [k2] at vb
      simp only [Bool.and_false, Bool.false_and, Bool.false_eq_true, if_false]
      refine FX.callL (r := (.tup [.bool false, .int .i64 3], [.arr [[.bool al, .sl (ssRows l) false]] none false])) ok_state_Agree 1000 rfl rfl ?_ rfl
      ((repeat ((conv => lhs; whnf); simp only [go_sem, ↓reduceIte, Nat.reduceEqDiff, Nat.reduceBEq, Nat.reduceAdd, Nat.reduceMul, Nat.reduceSub, Nat.reduceLT, Nat.reduceLeDiff, reduceCtorEq, Int.reduceToNat, Int.reduceLE, Int.reduceLT, Int.reduceEq, sem_state_Agree, va, vb])); try (conv => lhs; whnf); try rfl)
    · rw [k2] at vb
      cases k3 : nmsOK l l.length 0
      · rw [k3] at vn
        simp only [Bool.and_false, Bool.false_and, Bool.false_eq_true, if_false]
        refine FX.callL (r := (.tup [.bool false, .int .i64 3], [.arr [[.bool al, .sl (ssRows l) false]] none false])) ok_state_Agree 1000 rfl rfl ?_ rfl
        ((repeat ((conv => lhs; whnf); simp only [go_sem, ↓reduceIte, Nat.reduceEqDiff, Nat.reduceBEq, Nat.reduceAdd, Nat.reduceMul, Nat.reduceSub, Nat.reduceLT, Nat.reduceLeDiff, reduceCtorEq, Int.reduceToNat, Int.reduceLE, Int.reduceLT, Int.reduceEq, sem_state_Agree, va, vb, vn])); try (conv => lhs; whnf); try rfl)
      · rw [k3] at vn
        simp only [Bool.and_self, Bool.true_and, if_true]
        have hs := nms_sorted k3
        have gd1 : ([[.sl (stRows A) false], [.sl (stRows B) false]] : List (List PV)).getD 1 [] = [.sl (stRows B) false] := rfl
        have w01 : IntKind.i64.wrap ((0 : Int) + 1) = 1 := by decide
        have w12 : IntKind.i64.wrap ((1 : Int) + 1) = 2 := by decide
        have ix0 : ∀ S, rowsAt S 1 = some [[.sl (stRows A) false], [.sl (stRows B) false]] → indexAddrO Tryz.prog 102 S (.msl 1 0 2 true) (.int .i64 0) = some (.mp 1 0 0) := fun S h => sl_sts.idxm 0 h (by simp) rfl (by omega)
        have ix1 : ∀ S, rowsAt S 1 = some [[.sl (stRows A) false], [.sl (stRows B) false]] → indexAddrO Tryz.prog 102 S (.msl 1 0 2 true) (.int .i64 1) = some (.mp 1 1 0) := fun S h => sl_sts.idxm 1 h (by simp) rfl (by omega)
        have i0 := ix0 [.arr [[.bool al, .sl (ssRows l) false]] none false, .arr [[.sl (stRows A) false], [.sl (stRows B) false]] (some (some 1)) false] rfl
        have i1 := ix1 [.arr [[.bool al, .sl (ssRows l) false]] none false, .arr [[.sl (stRows A) false], [.sl (stRows B) false]] (some (some 1)) false] rfl
        obtain ⟨p1, p2⟩ := loop_Agree2 al l hl hs A B hA hB k1 k2 A (stOK_iff.1 k1).1 0 [.blk 2, .blk 1, .seq 0 935, .lop 0 116 2, .blk 0, .seq 0 15] A.length 0 (by omega)
        obtain ⟨q1, q2⟩ := loop_Agree2 al l hl hs A B hA hB k1 k2 B (stOK_iff.1 k2).1 1 [.blk 2, .blk 1, .seq 0 935, .lop 0 116 2, .blk 0, .seq 0 15] B.length 0 (by omega)
        rw [List.drop_zero] at p1 p2 q1 q2
        cases d1 : anyDis al l A B A
        · cases d2 : anyDis al l A B B
          · simp only [Bool.or_self, Bool.not_false]
            refine FX.callL (r := (.tup [.bool true, .int .i64 0], [.arr [[.bool al, .sl (ssRows l) false]] none false, .arr [[.sl (stRows A) false], [.sl (stRows B) false]] (some (some 1)) false])) ok_state_Agree 1000 rfl rfl ?_ rfl
            ((repeat ((conv => lhs; whnf); simp only [go_sem, ↓reduceIte, Nat.reduceEqDiff, Nat.reduceBEq, Nat.reduceAdd, Nat.reduceMul, Nat.reduceSub, Nat.reduceLT, Nat.reduceLeDiff, reduceCtorEq, Int.reduceToNat, Int.reduceLE, Int.reduceLT, Int.reduceEq, sem_state_Agree, va, vb, vn])); try (conv => lhs; whnf); try rfl)
            refine loopAt_step ok_state_Agree.good 1000 ?_
            ((repeat ((conv => lhs; whnf); simp only [go_sem, ↓reduceIte, Nat.reduceEqDiff, Nat.reduceBEq, Nat.reduceAdd, Nat.reduceMul, Nat.reduceSub, Nat.reduceLT, Nat.reduceLeDiff, reduceCtorEq, Int.reduceToNat, Int.reduceLE, Int.reduceLT, Int.reduceEq, sem_state_Agree, i0])); try (conv => lhs; whnf); try rfl)
            refine p2 d1 _ ?_
            refine exit_run ok_state_Agree.good 1000 ?_
            ((repeat ((conv => lhs; whnf); simp only [go_sem, ↓reduceIte, Nat.reduceEqDiff, Nat.reduceBEq, Nat.reduceAdd, Nat.reduceMul, Nat.reduceSub, Nat.reduceLT, Nat.reduceLeDiff, reduceCtorEq, Int.reduceToNat, Int.reduceLE, Int.reduceLT, Int.reduceEq, sem_state_Agree, w01, w12])); try (conv => lhs; whnf); try rfl)
            refine loopAt_step ok_state_Agree.good 1000 ?_
            ((repeat ((conv => lhs; whnf); simp only [go_sem, ↓reduceIte, Nat.reduceEqDiff, Nat.reduceBEq, Nat.reduceAdd, Nat.reduceMul, Nat.reduceSub, Nat.reduceLT, Nat.reduceLeDiff, reduceCtorEq, Int.reduceToNat, Int.reduceLE, Int.reduceLT, Int.reduceEq, sem_state_Agree, i1, gd1])); try (conv => lhs; whnf); try rfl)
            refine q2 d2 _ ?_
            refine exit_run ok_state_Agree.good 1000 ?_
            ((repeat ((conv => lhs; whnf); simp only [go_sem, ↓reduceIte, Nat.reduceEqDiff, Nat.reduceBEq, Nat.reduceAdd, Nat.reduceMul, Nat.reduceSub, Nat.reduceLT, Nat.reduceLeDiff, reduceCtorEq, Int.reduceToNat, Int.reduceLE, Int.reduceLT, Int.reduceEq, sem_state_Agree, w01, w12])); try (conv => lhs; whnf); try rfl)
            refine loopAt_step ok_state_Agree.good 1000 ?_
            ((repeat ((conv => lhs; whnf); simp only [go_sem, ↓reduceIte, Nat.reduceEqDiff, Nat.reduceBEq, Nat.reduceAdd, Nat.reduceMul, Nat.reduceSub, Nat.reduceLT, Nat.reduceLeDiff, reduceCtorEq, Int.reduceToNat, Int.reduceLE, Int.reduceLT, Int.reduceEq, sem_state_Agree])); try (conv => lhs; whnf); try rfl)
            refine exit_run ok_state_Agree.good 1000 ?_
            ((repeat ((conv => lhs; whnf); simp only [go_sem, ↓reduceIte, Nat.reduceEqDiff, Nat.reduceBEq, Nat.reduceAdd, Nat.reduceMul, Nat.reduceSub, Nat.reduceLT, Nat.reduceLeDiff, reduceCtorEq, Int.reduceToNat, Int.reduceLE, Int.reduceLT, Int.reduceEq, sem_state_Agree])); try (conv => lhs; whnf); try rfl)
          · obtain ⟨S', key⟩ := q1 d2
            simp only [Bool.or_true, Bool.not_true]
            refine FX.callL (r := (.tup [.bool false, .int .i64 0], S')) ok_state_Agree 1000 rfl rfl ?_ rfl
            ((repeat ((conv => lhs; whnf); simp only [go_sem, ↓reduceIte, Nat.reduceEqDiff, Nat.reduceBEq, Nat.reduceAdd, Nat.reduceMul, Nat.reduceSub, Nat.reduceLT, Nat.reduceLeDiff, reduceCtorEq, Int.reduceToNat, Int.reduceLE, Int.reduceLT, Int.reduceEq, sem_state_Agree, va, vb, vn])); try (conv => lhs; whnf); try rfl)
            refine loopAt_step ok_state_Agree.good 1000 ?_
            ((repeat ((conv => lhs; whnf); simp only [go_sem, ↓reduceIte, Nat.reduceEqDiff, Nat.reduceBEq, Nat.reduceAdd, Nat.reduceMul, Nat.reduceSub, Nat.reduceLT, Nat.reduceLeDiff, reduceCtorEq, Int.reduceToNat, Int.reduceLE, Int.reduceLT, Int.reduceEq, sem_state_Agree, i0])); try (conv => lhs; whnf); try rfl)
            refine p2 d1 _ ?_
            refine exit_run ok_state_Agree.good 1000 ?_
            ((repeat ((conv => lhs; whnf); simp only [go_sem, ↓reduceIte, Nat.reduceEqDiff, Nat.reduceBEq, Nat.reduceAdd, Nat.reduceMul, Nat.reduceSub, Nat.reduceLT, Nat.reduceLeDiff, reduceCtorEq, Int.reduceToNat, Int.reduceLE, Int.reduceLT, Int.reduceEq, sem_state_Agree, w01, w12])); try (conv => lhs; whnf); try rfl)
            refine loopAt_step ok_state_Agree.good 1000 ?_
            ((repeat ((conv => lhs; whnf); simp only [go_sem, ↓reduceIte, Nat.reduceEqDiff, Nat.reduceBEq, Nat.reduceAdd, Nat.reduceMul, Nat.reduceSub, Nat.reduceLT, Nat.reduceLeDiff, reduceCtorEq, Int.reduceToNat, Int.reduceLE, Int.reduceLT, Int.reduceEq, sem_state_Agree, i1, gd1])); try (conv => lhs; whnf); try rfl)
            exact key
        · obtain ⟨S', key⟩ := p1 d1
          simp only [Bool.true_or, Bool.not_true]
          refine FX.callL (r := (.tup [.bool false, .int .i64 0], S')) ok_state_Agree 1000 rfl rfl ?_ rfl
          ((repeat ((conv => lhs; whnf); simp only [go_sem, ↓reduceIte, Nat.reduceEqDiff, Nat.reduceBEq, Nat.reduceAdd, Nat.reduceMul, Nat.reduceSub, Nat.reduceLT, Nat.reduceLeDiff, reduceCtorEq, Int.reduceToNat, Int.reduceLE, Int.reduceLT, Int.reduceEq, sem_state_Agree, va, vb, vn])); try (conv => lhs; whnf); try rfl)
          refine loopAt_step ok_state_Agree.good 1000 ?_
          ((repeat ((conv => lhs; whnf); simp only [go_sem, ↓reduceIte, Nat.reduceEqDiff, Nat.reduceBEq, Nat.reduceAdd, Nat.reduceMul, Nat.reduceSub, Nat.reduceLT, Nat.reduceLeDiff, reduceCtorEq, Int.reduceToNat, Int.reduceLE, Int.reduceLT, Int.reduceEq, sem_state_Agree, i0])); try (conv => lhs; whnf); try rfl)
          exact key
end
end Go.Vs
end
/- States: the reference's Agree. -/
section
set_option linter.unusedVariables false
set_option linter.unusedSimpArgs false
set_option maxRecDepth 100000
namespace Go.Vs
open Go Go.Proofs
theorem getV_mem {b : Bd} : ∀ {L : List Bd}, Sorted L → b ∈ L → getV b.name L = b.val
  | c :: r, h, hb => by
    unfold Sorted at h
    rw [List.pairwise_cons] at h
    simp only [getV]
    rcases List.mem_cons.1 hb with rfl | hb
    · rw [if_pos rfl]
    · rw [if_neg (before.ne (h.1 b hb))]
      exact getV_mem h.2 hb
theorem sameRV_comm (a b : RV) : sameRV a b = sameRV b a := by
  unfold sameRV
  rw [decide_eq_decide]
  constructor <;> rintro ⟨h1, h2, h3⟩ <;> exact ⟨h1.symm, h2.symm, h3.symm⟩
section
attribute [local irreducible] Vs.callL Vs.callRL tyi callO callM callMV appendE storeE evLoad indexAddrO sliceO evFieldAddr evField buildO buildSliceO makeSliceO allocO boxed lenO copyE convertO indexO Vs.gc freezeAll
noncomputable def fx_isochroneref11_Agree : FX := ⟨Tryz.f28, hints.of 28, []⟩
theorem ok_isochroneref11_Agree : fx_isochroneref11_Agree.ok 28 := ⟨by kernel_rfl, of_decide_eq_true (by kernel_rfl), by kernel_rfl, by kernel_rfl, by kernel_rfl, by kernel_rfl⟩
theorem sem_isochroneref11_Agree (b0 : Nat) (m : Md) (fs : List Fr) (e : Env) (S : Store) : sem b0 fx_isochroneref11_Agree m fs e S = run b0 fx_isochroneref11_Agree 1000 m fs e S := (sem_eq _ _ _ _ _ _).trans (run_sem b0 fx_isochroneref11_Agree ok_isochroneref11_Agree.good 1000 m fs e S).symm
theorem loop_AgreeA (al : Bool) (l : List ByteArray) (hl : l.length ≤ 1000) (A B : List Bd) (hA : StOk A) (hB : StOk B) (oA : stOK A = true) (oB : stOK B = true) (fs : List Fr) : ∀ (m i : Nat), i + m = A.length →
    (anyDis al l A B (A.drop i) = true → loopAt 0 fx_isochroneref11_Agree 0 116 1 fs [(0, .sl (stRows A) false), (1, .sl (stRows B) false), (5, .mp 0 0 0), (8, .int .i64 i)] [.arr [[.bool al, .sl (ssRows l) false]] none false] = some (.tup [.bool false, .int .i64 0], [.arr [[.bool al, .sl (ssRows l) false]] none false])) ∧
    (anyDis al l A B (A.drop i) = false → ∀ z : PV × Store, exitTo 0 fx_isochroneref11_Agree 0 fs [(0, .sl (stRows A) false), (1, .sl (stRows B) false), (5, .mp 0 0 0), (8, .undef), (26, .undef)] [.arr [[.bool al, .sl (ssRows l) false]] none false] = some z → loopAt 0 fx_isochroneref11_Agree 0 116 1 fs [(0, .sl (stRows A) false), (1, .sl (stRows B) false), (5, .mp 0 0 0), (8, .int .i64 i)] [.arr [[.bool al, .sl (ssRows l) false]] none false] = some z) := by
  have lX := (stOK_iff.1 oA).1
  have gX := (stOK_iff.1 oA).2.1
  have sX := (stOK_iff.1 oA).2.2
  have lY := (stOK_iff.1 oB).1
  intro m
  induction m with
  | zero =>
    intro i hi
    have h1 : ¬ (i : Int) < (A.length : Int) := by omega
    have e : A.drop i = [] := List.drop_eq_nil_of_le (by omega)
    rw [e]
    refine ⟨fun h => by simp [anyDis] at h, fun _ z hz => ?_⟩
    refine loopAt_step ok_isochroneref11_Agree.good 1000 ?_
    ((repeat ((conv => lhs; whnf); simp only [go_sem, ↓reduceIte, Nat.reduceEqDiff, Nat.reduceBEq, Nat.reduceAdd, Nat.reduceMul, Nat.reduceSub, Nat.reduceLT, Nat.reduceLeDiff, reduceCtorEq, Int.reduceToNat, Int.reduceLE, Int.reduceLT, Int.reduceEq, sem_isochroneref11_Agree, h1])); try (conv => lhs; whnf); try rfl)
    exact hz
  | succ m ih =>
    intro i hi
    have h1 : (i : Int) < (A.length : Int) := by omega
    have h2 := wrap_succ (i := i) (n := A.length) (by omega) (by unfold maxLen; omega)
    have x1 : 0 ≤ (i : Int) ∧ (i : Int) < (A.length : Int) := ⟨by omega, h1⟩
    have e : A.drop i = A.getD i bd0 :: A.drop (i + 1) := by rw [getD_lt (by omega)]; exact List.drop_eq_getElem_cons (by omega)
    obtain ⟨ih1, ih2⟩ := ih (i + 1) (by omega)
    rw [e]
    unfold anyDis at ih1 ih2 ⊢
    rw [List.any_cons]
    have mem : A.getD i bd0 ∈ A := by rw [getD_lt (by omega)]; exact List.getElem_mem _
    have gv := getV_mem sX mem
    have fv := fine_of (hA _ mem).v (gX _ mem).fit
    generalize hQ : A.getD i bd0 = Q at gv fv
    have ch := fun S => Has10_o S al l Q.name (by omega)
    have gg := fun S => get11_o S B Q.name (by omega)
    have cs := fun S => SameRat_o S Q.val (getV Q.name B) ⟨fv.n, fv.d⟩
    unfold RV.cells at gg cs
    have ed : dis al l A B Q.name = (!(inL Q.name l == al) && !(sameRV Q.val (getV Q.name B))) := by
      unfold dis
      rw [gv]
    cases kh : (!(inL Q.name l == al))
    · rw [kh] at ch ed
      rw [ed]
      simp only [Bool.false_and, Bool.false_or]
      refine ⟨fun h => ?_, fun h z hz => ?_⟩
      · have key := ih1 h
        refine loopAt_step ok_isochroneref11_Agree.good 1000 ?_
        ((repeat ((conv => lhs; whnf); simp only [go_sem, ↓reduceIte, Nat.reduceEqDiff, Nat.reduceBEq, Nat.reduceAdd, Nat.reduceMul, Nat.reduceSub, Nat.reduceLT, Nat.reduceLeDiff, reduceCtorEq, Int.reduceToNat, Int.reduceLE, Int.reduceLT, Int.reduceEq, sem_isochroneref11_Agree, h1, x1, Int.toNat_natCast, hQ, Bd.cells, ch, h2])); try (conv => lhs; whnf); try rfl)
        exact key
      · have key := ih2 h z hz
        clear hz
        refine loopAt_step ok_isochroneref11_Agree.good 1000 ?_
        ((repeat ((conv => lhs; whnf); simp only [go_sem, ↓reduceIte, Nat.reduceEqDiff, Nat.reduceBEq, Nat.reduceAdd, Nat.reduceMul, Nat.reduceSub, Nat.reduceLT, Nat.reduceLeDiff, reduceCtorEq, Int.reduceToNat, Int.reduceLE, Int.reduceLT, Int.reduceEq, sem_isochroneref11_Agree, h1, x1, Int.toNat_natCast, hQ, Bd.cells, ch, h2])); try (conv => lhs; whnf); try rfl)
        exact key
    · rw [kh] at ch ed
      rw [ed]
      cases ks : sameRV Q.val (getV Q.name B)
      · rw [ks] at cs
        simp only [Bool.not_false, Bool.and_self, Bool.true_or]
        refine ⟨fun _ => ?_, fun h => by cases h⟩
        refine loopAt_step ok_isochroneref11_Agree.good 1000 ?_
        ((repeat ((conv => lhs; whnf); simp only [go_sem, ↓reduceIte, Nat.reduceEqDiff, Nat.reduceBEq, Nat.reduceAdd, Nat.reduceMul, Nat.reduceSub, Nat.reduceLT, Nat.reduceLeDiff, reduceCtorEq, Int.reduceToNat, Int.reduceLE, Int.reduceLT, Int.reduceEq, sem_isochroneref11_Agree, h1, x1, Int.toNat_natCast, hQ, Bd.cells, ch, gg, cs])); try (conv => lhs; whnf); try rfl)
      · rw [ks] at cs
        simp only [Bool.not_true, Bool.and_false, Bool.false_or]
        refine ⟨fun h => ?_, fun h z hz => ?_⟩
        · have key := ih1 h
          refine loopAt_step ok_isochroneref11_Agree.good 1000 ?_
          ((repeat ((conv => lhs; whnf); simp only [go_sem, ↓reduceIte, Nat.reduceEqDiff, Nat.reduceBEq, Nat.reduceAdd, Nat.reduceMul, Nat.reduceSub, Nat.reduceLT, Nat.reduceLeDiff, reduceCtorEq, Int.reduceToNat, Int.reduceLE, Int.reduceLT, Int.reduceEq, sem_isochroneref11_Agree, h1, x1, Int.toNat_natCast, hQ, Bd.cells, ch, gg, cs, h2])); try (conv => lhs; whnf); try rfl)
          exact key
        · have key := ih2 h z hz
          clear hz
          refine loopAt_step ok_isochroneref11_Agree.good 1000 ?_
          ((repeat ((conv => lhs; whnf); simp only [go_sem, ↓reduceIte, Nat.reduceEqDiff, Nat.reduceBEq, Nat.reduceAdd, Nat.reduceMul, Nat.reduceSub, Nat.reduceLT, Nat.reduceLeDiff, reduceCtorEq, Int.reduceToNat, Int.reduceLE, Int.reduceLT, Int.reduceEq, sem_isochroneref11_Agree, h1, x1, Int.toNat_natCast, hQ, Bd.cells, ch, gg, cs, h2])); try (conv => lhs; whnf); try rfl)
          exact key
theorem loop_AgreeB (al : Bool) (l : List ByteArray) (hl : l.length ≤ 1000) (A B : List Bd) (hA : StOk A) (hB : StOk B) (oA : stOK A = true) (oB : stOK B = true) (fs : List Fr) : ∀ (m i : Nat), i + m = B.length →
    (anyDis al l A B (B.drop i) = true → loopAt 0 fx_isochroneref11_Agree 2 244 1 fs [(0, .sl (stRows A) false), (1, .sl (stRows B) false), (5, .mp 0 0 0), (9, .int .i64 i)] [.arr [[.bool al, .sl (ssRows l) false]] none false] = some (.tup [.bool false, .int .i64 0], [.arr [[.bool al, .sl (ssRows l) false]] none false])) ∧
    (anyDis al l A B (B.drop i) = false → ∀ z : PV × Store, exitTo 0 fx_isochroneref11_Agree 2 fs [(0, .undef), (1, .undef), (5, .undef), (9, .undef), (55, .undef)] [.arr [[.bool al, .sl (ssRows l) false]] none false] = some z → loopAt 0 fx_isochroneref11_Agree 2 244 1 fs [(0, .sl (stRows A) false), (1, .sl (stRows B) false), (5, .mp 0 0 0), (9, .int .i64 i)] [.arr [[.bool al, .sl (ssRows l) false]] none false] = some z) := by
  have lX := (stOK_iff.1 oB).1
  have gX := (stOK_iff.1 oB).2.1
  have sX := (stOK_iff.1 oB).2.2
  have lY := (stOK_iff.1 oA).1
  intro m
  induction m with
  | zero =>
    intro i hi
    have h1 : ¬ (i : Int) < (B.length : Int) := by omega
    have e : B.drop i = [] := List.drop_eq_nil_of_le (by omega)
    rw [e]
    refine ⟨fun h => by simp [anyDis] at h, fun _ z hz => ?_⟩
    refine loopAt_step ok_isochroneref11_Agree.good 1000 ?_
    ((repeat ((conv => lhs; whnf); simp only [go_sem, ↓reduceIte, Nat.reduceEqDiff, Nat.reduceBEq, Nat.reduceAdd, Nat.reduceMul, Nat.reduceSub, Nat.reduceLT, Nat.reduceLeDiff, reduceCtorEq, Int.reduceToNat, Int.reduceLE, Int.reduceLT, Int.reduceEq, sem_isochroneref11_Agree, h1])); try (conv => lhs; whnf); try rfl)
    exact hz
  | succ m ih =>
    intro i hi
    have h1 : (i : Int) < (B.length : Int) := by omega
    have h2 := wrap_succ (i := i) (n := B.length) (by omega) (by unfold maxLen; omega)
    have x1 : 0 ≤ (i : Int) ∧ (i : Int) < (B.length : Int) := ⟨by omega, h1⟩
    have e : B.drop i = B.getD i bd0 :: B.drop (i + 1) := by rw [getD_lt (by omega)]; exact List.drop_eq_getElem_cons (by omega)
    obtain ⟨ih1, ih2⟩ := ih (i + 1) (by omega)
    rw [e]
    unfold anyDis at ih1 ih2 ⊢
    rw [List.any_cons]
    have mem : B.getD i bd0 ∈ B := by rw [getD_lt (by omega)]; exact List.getElem_mem _
    have gv := getV_mem sX mem
    have fv := fine_of (hB _ mem).v (gX _ mem).fit
    generalize hQ : B.getD i bd0 = Q at gv fv
    have ch := fun S => Has10_o S al l Q.name (by omega)
    have gg := fun S => get11_o S A Q.name (by omega)
    have cs := fun S => SameRat_o S Q.val (getV Q.name A) ⟨fv.n, fv.d⟩
    unfold RV.cells at gg cs
    have ed : dis al l A B Q.name = (!(inL Q.name l == al) && !(sameRV Q.val (getV Q.name A))) := by
      unfold dis
      rw [gv, sameRV_comm (getV Q.name A) Q.val]
    cases kh : (!(inL Q.name l == al))
    · rw [kh] at ch ed
      rw [ed]
      simp only [Bool.false_and, Bool.false_or]
      refine ⟨fun h => ?_, fun h z hz => ?_⟩
      · have key := ih1 h
        refine loopAt_step ok_isochroneref11_Agree.good 1000 ?_
        ((repeat ((conv => lhs; whnf); simp only [go_sem, ↓reduceIte, Nat.reduceEqDiff, Nat.reduceBEq, Nat.reduceAdd, Nat.reduceMul, Nat.reduceSub, Nat.reduceLT, Nat.reduceLeDiff, reduceCtorEq, Int.reduceToNat, Int.reduceLE, Int.reduceLT, Int.reduceEq, sem_isochroneref11_Agree, h1, x1, Int.toNat_natCast, hQ, Bd.cells, ch, h2])); try (conv => lhs; whnf); try rfl)
        exact key
      · have key := ih2 h z hz
        clear hz
        refine loopAt_step ok_isochroneref11_Agree.good 1000 ?_
        ((repeat ((conv => lhs; whnf); simp only [go_sem, ↓reduceIte, Nat.reduceEqDiff, Nat.reduceBEq, Nat.reduceAdd, Nat.reduceMul, Nat.reduceSub, Nat.reduceLT, Nat.reduceLeDiff, reduceCtorEq, Int.reduceToNat, Int.reduceLE, Int.reduceLT, Int.reduceEq, sem_isochroneref11_Agree, h1, x1, Int.toNat_natCast, hQ, Bd.cells, ch, h2])); try (conv => lhs; whnf); try rfl)
        exact key
    · rw [kh] at ch ed
      rw [ed]
      cases ks : sameRV Q.val (getV Q.name A)
      · rw [ks] at cs
        simp only [Bool.not_false, Bool.and_self, Bool.true_or]
        refine ⟨fun _ => ?_, fun h => by cases h⟩
        refine loopAt_step ok_isochroneref11_Agree.good 1000 ?_
        ((repeat ((conv => lhs; whnf); simp only [go_sem, ↓reduceIte, Nat.reduceEqDiff, Nat.reduceBEq, Nat.reduceAdd, Nat.reduceMul, Nat.reduceSub, Nat.reduceLT, Nat.reduceLeDiff, reduceCtorEq, Int.reduceToNat, Int.reduceLE, Int.reduceLT, Int.reduceEq, sem_isochroneref11_Agree, h1, x1, Int.toNat_natCast, hQ, Bd.cells, ch, gg, cs])); try (conv => lhs; whnf); try rfl)
      · rw [ks] at cs
        simp only [Bool.not_true, Bool.and_false, Bool.false_or]
        refine ⟨fun h => ?_, fun h z hz => ?_⟩
        · have key := ih1 h
          refine loopAt_step ok_isochroneref11_Agree.good 1000 ?_
          ((repeat ((conv => lhs; whnf); simp only [go_sem, ↓reduceIte, Nat.reduceEqDiff, Nat.reduceBEq, Nat.reduceAdd, Nat.reduceMul, Nat.reduceSub, Nat.reduceLT, Nat.reduceLeDiff, reduceCtorEq, Int.reduceToNat, Int.reduceLE, Int.reduceLT, Int.reduceEq, sem_isochroneref11_Agree, h1, x1, Int.toNat_natCast, hQ, Bd.cells, ch, gg, cs, h2])); try (conv => lhs; whnf); try rfl)
          exact key
        · have key := ih2 h z hz
          clear hz
          refine loopAt_step ok_isochroneref11_Agree.good 1000 ?_
          ((repeat ((conv => lhs; whnf); simp only [go_sem, ↓reduceIte, Nat.reduceEqDiff, Nat.reduceBEq, Nat.reduceAdd, Nat.reduceMul, Nat.reduceSub, Nat.reduceLT, Nat.reduceLeDiff, reduceCtorEq, Int.reduceToNat, Int.reduceLE, Int.reduceLT, Int.reduceEq, sem_isochroneref11_Agree, h1, x1, Int.toNat_natCast, hQ, Bd.cells, ch, gg, cs, h2])); try (conv => lhs; whnf); try rfl)
          exact key
theorem call_Agree11 (al : Bool) (l : List ByteArray) (hl : l.length ≤ 1000) (hn : NmsOk l) (A B : List Bd) (hA : StOk A) (hB : StOk B) (lA : A.length ≤ 1000) (lB : B.length ≤ 1000) : callL Tryz.prog hints 28 [.sl (stRows A) false, .sl (stRows B) false, .agg [.bool al, .sl (ssRows l) false]] = some (agrR al l A B) := by
  have hM : 3000000 ≤ maxLen := by decide
  have va := fun S => Valid11_o S A hA (by omega)
  have vb := fun S => Valid11_o S B hB (by omega)
  have vn := fun S => nValid10_o S al l hn (by omega)
  unfold agrR agrOK
  cases k1 : stOK A
  · rw [k1] at va
    simp only [Bool.false_and, Bool.false_eq_true, if_false]
    refine FX.callL (r := (.tup [.bool false, .int .i64 3], [.arr [[.bool al, .sl (ssRows l) false]] none false])) ok_isochroneref11_Agree 1000 rfl rfl ?_ rfl
    ((repeat ((conv => lhs; whnf); simp only [go_sem, ↓reduceIte, Nat.reduceEqDiff, Nat.reduceBEq, Nat.reduceAdd, Nat.reduceMul, Nat.reduceSub, Nat.reduceLT, Nat.reduceLeDiff, reduceCtorEq, Int.reduceToNat, Int.reduceLE, Int.reduceLT, Int.reduceEq, sem_isochroneref11_Agree, va])); try (conv => lhs; whnf); try rfl)
  · rw [k1] at va
    cases k2 : stOK B
    · rw [k2] at vb
      simp only [Bool.and_false, Bool.false_and, Bool.false_eq_true, if_false]
      refine FX.callL (r := (.tup [.bool false, .int .i64 3], [.arr [[.bool al, .sl (ssRows l) false]] none false])) ok_isochroneref11_Agree 1000 rfl rfl ?_ rfl
      ((repeat ((conv => lhs; whnf); simp only [go_sem, ↓reduceIte, Nat.reduceEqDiff, Nat.reduceBEq, Nat.reduceAdd, Nat.reduceMul, Nat.reduceSub, Nat.reduceLT, Nat.reduceLeDiff, reduceCtorEq, Int.reduceToNat, Int.reduceLE, Int.reduceLT, Int.reduceEq, sem_isochroneref11_Agree, va, vb])); try (conv => lhs; whnf); try rfl)
    · rw [k2] at vb
      cases k3 : nmsOK l l.length 0
      · rw [k3] at vn
        simp only [Bool.and_false, Bool.false_and, Bool.false_eq_true, if_false]
        refine FX.callL (r := (.tup [.bool false, .int .i64 3], [.arr [[.bool al, .sl (ssRows l) false]] none false])) ok_isochroneref11_Agree 1000 rfl rfl ?_ rfl
        ((repeat ((conv => lhs; whnf); simp only [go_sem, ↓reduceIte, Nat.reduceEqDiff, Nat.reduceBEq, Nat.reduceAdd, Nat.reduceMul, Nat.reduceSub, Nat.reduceLT, Nat.reduceLeDiff, reduceCtorEq, Int.reduceToNat, Int.reduceLE, Int.reduceLT, Int.reduceEq, sem_isochroneref11_Agree, va, vb, vn])); try (conv => lhs; whnf); try rfl)
      · rw [k3] at vn
        simp only [Bool.and_self, Bool.true_and, if_true]
        obtain ⟨p1, p2⟩ := loop_AgreeA al l hl A B hA hB k1 k2 [.blk 0, .seq 0 15] A.length 0 (by omega)
        obtain ⟨q1, q2⟩ := loop_AgreeB al l hl A B hA hB k1 k2 [.blk 2, .seq 0 31] B.length 0 (by omega)
        rw [List.drop_zero] at p1 p2 q1 q2
        cases d1 : anyDis al l A B A
        · cases d2 : anyDis al l A B B
          · simp only [Bool.or_self, Bool.not_false]
            refine FX.callL (r := (.tup [.bool true, .int .i64 0], [.arr [[.bool al, .sl (ssRows l) false]] none false])) ok_isochroneref11_Agree 1000 rfl rfl ?_ rfl
            ((repeat ((conv => lhs; whnf); simp only [go_sem, ↓reduceIte, Nat.reduceEqDiff, Nat.reduceBEq, Nat.reduceAdd, Nat.reduceMul, Nat.reduceSub, Nat.reduceLT, Nat.reduceLeDiff, reduceCtorEq, Int.reduceToNat, Int.reduceLE, Int.reduceLT, Int.reduceEq, sem_isochroneref11_Agree, va, vb, vn])); try (conv => lhs; whnf); try rfl)
            refine p2 d1 _ ?_
            refine exit_run ok_isochroneref11_Agree.good 1000 ?_
            ((repeat ((conv => lhs; whnf); simp only [go_sem, ↓reduceIte, Nat.reduceEqDiff, Nat.reduceBEq, Nat.reduceAdd, Nat.reduceMul, Nat.reduceSub, Nat.reduceLT, Nat.reduceLeDiff, reduceCtorEq, Int.reduceToNat, Int.reduceLE, Int.reduceLT, Int.reduceEq, sem_isochroneref11_Agree])); try (conv => lhs; whnf); try rfl)
            refine q2 d2 _ ?_
            refine exit_run ok_isochroneref11_Agree.good 1000 ?_
            ((repeat ((conv => lhs; whnf); simp only [go_sem, ↓reduceIte, Nat.reduceEqDiff, Nat.reduceBEq, Nat.reduceAdd, Nat.reduceMul, Nat.reduceSub, Nat.reduceLT, Nat.reduceLeDiff, reduceCtorEq, Int.reduceToNat, Int.reduceLE, Int.reduceLT, Int.reduceEq, sem_isochroneref11_Agree])); try (conv => lhs; whnf); try rfl)
          · have key := q1 d2
            simp only [Bool.or_true, Bool.not_true]
            refine FX.callL (r := (.tup [.bool false, .int .i64 0], [.arr [[.bool al, .sl (ssRows l) false]] none false])) ok_isochroneref11_Agree 1000 rfl rfl ?_ rfl
            ((repeat ((conv => lhs; whnf); simp only [go_sem, ↓reduceIte, Nat.reduceEqDiff, Nat.reduceBEq, Nat.reduceAdd, Nat.reduceMul, Nat.reduceSub, Nat.reduceLT, Nat.reduceLeDiff, reduceCtorEq, Int.reduceToNat, Int.reduceLE, Int.reduceLT, Int.reduceEq, sem_isochroneref11_Agree, va, vb, vn])); try (conv => lhs; whnf); try rfl)
            refine p2 d1 _ ?_
            refine exit_run ok_isochroneref11_Agree.good 1000 ?_
            ((repeat ((conv => lhs; whnf); simp only [go_sem, ↓reduceIte, Nat.reduceEqDiff, Nat.reduceBEq, Nat.reduceAdd, Nat.reduceMul, Nat.reduceSub, Nat.reduceLT, Nat.reduceLeDiff, reduceCtorEq, Int.reduceToNat, Int.reduceLE, Int.reduceLT, Int.reduceEq, sem_isochroneref11_Agree])); try (conv => lhs; whnf); try rfl)
            exact key
        · have key := p1 d1
          simp only [Bool.true_or, Bool.not_true]
          refine FX.callL (r := (.tup [.bool false, .int .i64 0], [.arr [[.bool al, .sl (ssRows l) false]] none false])) ok_isochroneref11_Agree 1000 rfl rfl ?_ rfl
          ((repeat ((conv => lhs; whnf); simp only [go_sem, ↓reduceIte, Nat.reduceEqDiff, Nat.reduceBEq, Nat.reduceAdd, Nat.reduceMul, Nat.reduceSub, Nat.reduceLT, Nat.reduceLeDiff, reduceCtorEq, Int.reduceToNat, Int.reduceLE, Int.reduceLT, Int.reduceEq, sem_isochroneref11_Agree, va, vb, vn])); try (conv => lhs; whnf); try rfl)
          exact key
end
end Go.Vs
end
/- States: what Set leaves. -/
section
set_option linter.unusedVariables false
set_option linter.unusedSimpArgs false
set_option maxRecDepth 100000
namespace Go.Vs
open Go Go.Proofs
theorem ins_mem {nm : ByteArray} {v : RV} : ∀ {L : List Bd} {b : Bd}, b ∈ insP nm v L → b ∈ L ∨ (b = Bd.mk nm v ∧ v.num.length ≠ 0)
  | [], b, h => by
    rw [insP_nil] at h
    split at h
    · cases h
    · rename_i h0
      exact .inr ⟨by simpa using h, h0⟩
  | c :: r, b, h => by
    cases hb : Op.bytesLess c.name.toList nm.toList
    · rw [insP_ge hb, List.mem_append] at h
      rcases h with h | h
      · split at h
        · cases h
        · rename_i h0
          exact .inr ⟨by simpa using h, h0⟩
      · split at h
        · exact .inl (List.mem_cons_of_mem _ h)
        · exact .inl h
    · rw [insP_lt hb, List.mem_cons] at h
      rcases h with rfl | h
      · exact .inl (by simp)
      · rcases ins_mem h with h | h
        · exact .inl (List.mem_cons_of_mem _ h)
        · exact .inr h
theorem ins_sorted (nm : ByteArray) (v : RV) : ∀ {L : List Bd}, Sorted L → Sorted (insP nm v L)
  | [], _ => by
    rw [insP_nil]
    unfold Sorted
    split <;> simp
  | c :: r, h => by
    have h' := h
    unfold Sorted at h'
    rw [List.pairwise_cons] at h'
    cases hb : Op.bytesLess c.name.toList nm.toList
    · rw [insP_ge hb]
      have hr := sorted_after h hb
      have tail : Sorted (if eqN c nm = true then r else c :: r) ∧ ∀ d ∈ (if eqN c nm = true then r else c :: r), before nm d.name := by
        cases he : eqN c nm
        · simp only [Bool.false_eq_true, if_false]
          refine ⟨h, fun d hd => ?_⟩
          rcases List.mem_cons.1 hd with rfl | hd
          · exact (not_before.1 hb).resolve_left (beq_eq_false_iff_ne.1 he)
          · exact hr d hd
        · simp only [if_true]
          exact ⟨h'.2, hr⟩
      split
      · rw [List.nil_append]; exact tail.1
      · unfold Sorted
        rw [List.singleton_append, List.pairwise_cons]
        exact ⟨tail.2, tail.1⟩
    · rw [insP_lt hb]
      unfold Sorted
      rw [List.pairwise_cons]
      refine ⟨fun d hd => ?_, ins_sorted nm v h'.2⟩
      rcases ins_mem hd with hd | ⟨rfl, _⟩
      · exact h'.1 d hd
      · exact hb
theorem getV_ins (nm : ByteArray) (v : RV) : ∀ {L : List Bd}, Sorted L → getV nm (insP nm v L) = if v.num.length = 0 then rv0 else v
  | [], _ => by
    rw [insP_nil]
    by_cases h0 : v.num.length = 0
    · rw [if_pos h0, if_pos h0]; rfl
    · rw [if_neg h0, if_neg h0]; simp [getV]
  | c :: r, h => by
    have h' := h
    unfold Sorted at h'
    rw [List.pairwise_cons] at h'
    cases hb : Op.bytesLess c.name.toList nm.toList
    · rw [insP_ge hb]
      have hr := sorted_after h hb
      by_cases h0 : v.num.length = 0
      · rw [if_pos h0, if_pos h0, List.nil_append]
        refine getV_none fun d hd => ?_
        cases he : eqN c nm
        · rw [he] at hd
          simp only [Bool.false_eq_true, if_false, List.mem_cons] at hd
          rcases hd with rfl | hd
          · exact beq_eq_false_iff_ne.1 he
          · exact fun e => before.ne (hr d hd) e.symm
        · rw [he] at hd
          simp only [if_true] at hd
          exact fun e => before.ne (hr d hd) e.symm
      · rw [if_neg h0, if_neg h0]
        simp [getV]
    · rw [insP_lt hb]
      simp only [getV, before.ne hb, if_false]
      exact getV_ins nm v h'.2
theorem getV_other {nm o : ByteArray} (ho : o.toList ≠ nm.toList) (v : RV) : ∀ {L : List Bd}, Sorted L → getV o (insP nm v L) = getV o L
  | [], _ => by
    rw [insP_nil]
    split
    · rfl
    · simp [getV, ho.symm]
  | c :: r, h => by
    have h' := h
    unfold Sorted at h'
    rw [List.pairwise_cons] at h'
    cases hb : Op.bytesLess c.name.toList nm.toList
    · rw [insP_ge hb]
      have e : getV o (if eqN c nm = true then r else c :: r) = getV o (c :: r) := by
        cases he : eqN c nm
        · rfl
        · have : c.name.toList = nm.toList := beq_iff_eq.1 he
          simp [getV, this, ho.symm]
      split
      · rw [List.nil_append, e]
      · rw [List.singleton_append]
        simp only [getV, ho.symm, if_false]
        exact e
    · rw [insP_lt hb]
      simp only [getV, getV_other ho v h'.2]
theorem ins_ok {nm : ByteArray} {v : RV} {L : List Bd} (hL : StOk L) (hn : nm.size ≤ maxLen) (hv : v.ok) : StOk (insP nm v L) := fun b hb => by
  rcases ins_mem hb with h | ⟨rfl, _⟩
  · exact hL b h
  · exact ⟨hn, hv⟩
theorem ins_stOK {nm : ByteArray} {v : RV} {L : List Bd} (h : setOK L nm v = true) (hl : (insP nm v L).length ≤ 40) : stOK (insP nm v L) = true := by
  unfold setOK at h
  simp only [Bool.and_eq_true] at h
  obtain ⟨⟨h1, h2⟩, h3⟩ := h
  obtain ⟨a1, a2, a3⟩ := stOK_iff.1 h1
  refine stOK_iff.2 ⟨hl, fun b hb => ?_, ins_sorted nm v a3⟩
  rcases ins_mem hb with h | ⟨rfl, h0⟩
  · exact a2 b h
  · exact ⟨h2, h0, h3⟩
/-- A valid number without words is zero. -/
theorem zero_rv {v : RV} (h : v.fit = true) (h0 : v.num.length = 0) : sameRV rv0 v = true := by
  unfold RV.fit at h
  simp only [Bool.and_eq_true] at h
  have h' := h.2
  unfold validR at h'
  rw [if_pos h0] at h'
  simp only [Bool.and_eq_true, Bool.not_eq_true', decide_eq_true_eq] at h'
  have e := List.eq_nil_of_length_eq_zero h0
  simp [sameRV, rv0, h'.2.1, e, h'.2.2]
end Go.Vs
end
/- A sanity check of the law's own holds: by the kernel. -/
section
set_option linter.unusedVariables false
namespace Go.Vs
open Go Go.Proofs
theorem awake_run : callP Tryz.prog hints 60 8 [] = some (.bool true) := by kernel_rfl
theorem awake_L : callL Tryz.prog hints 8 [] = some (.bool true) := callL_run awake_run
end Go.Vs
end
/- StateSets: the law returns true. -/
section
set_option linter.unusedVariables false
set_option linter.unusedSimpArgs false
set_option maxRecDepth 100000
namespace Go.Vs
open Go Go.Proofs
theorem FX.callB {F : FX} {f : FuncId} (ok : F.ok f) (n : Nat) {args : List PV} (ha : Nat.ble args.length F.fn.ntmps = true) {e : Env} (he : (List.range args.length).zip args = e) {b : Bool} (h : ∃ S', run 0 F n (.at 0 1) [] e [] = some (.bool b, S')) : Vs.callL Tryz.prog hints f args = some (.bool b) := by
  obtain ⟨S', h⟩ := h
  exact FX.callL ok n ha he h rfl
theorem getR_form (L : List Bd) (nm : ByteArray) (hL : StOk L) : ∃ (R : RV) (c : Int), getR L nm = .tup [.agg R.cells, .int .i64 c] ∧ R.num.length ≤ 400 ∧ R.den.length ≤ 400 := by
  refine ⟨_, _, rfl, ?_⟩
  cases k : getOK L nm
  · rw [if_neg (by simp)]; exact ⟨by decide, by decide⟩
  · unfold getOK at k
    simp only [Bool.and_eq_true] at k
    have := fine_getV (nm := nm) hL (stOK_iff.1 k.1).2.1
    rw [if_pos rfl]
    exact ⟨this.n, this.d⟩
theorem getR_ok {L : List Bd} {nm : ByteArray} (h : getOK L nm = true) : getR L nm = .tup [.agg (getV nm L).cells, .int .i64 0] := by
  unfold getR; rw [if_pos h, if_pos h]
section
attribute [local irreducible] Vs.callL Vs.callRL tyi callO callM callMV appendE storeE evLoad indexAddrO sliceO evFieldAddr evField buildO buildSliceO makeSliceO allocO boxed lenO copyE convertO indexO Vs.gc freezeAll
noncomputable def fx_isochronelaw11_StateSets : FX := ⟨Tryz.f6, hints.of 6, []⟩
theorem ok_isochronelaw11_StateSets : fx_isochronelaw11_StateSets.ok 6 := ⟨by kernel_rfl, of_decide_eq_true (by kernel_rfl), by kernel_rfl, by kernel_rfl, by kernel_rfl, by kernel_rfl⟩
theorem sem_isochronelaw11_StateSets (b0 : Nat) (m : Md) (fs : List Fr) (e : Env) (S : Store) : sem b0 fx_isochronelaw11_StateSets m fs e S = run b0 fx_isochronelaw11_StateSets 1000 m fs e S := (sem_eq _ _ _ _ _ _).trans (run_sem b0 fx_isochronelaw11_StateSets ok_isochronelaw11_StateSets.good 1000 m fs e S).symm
theorem call_StateSets (A B : List Bd) (nm ot : ByteArray) (v : RV) (al : Bool) (l : List ByteArray) (hA : StOk A) (hB : StOk B) (hn : nm.size ≤ maxLen) (ho : ot.size ≤ maxLen) (hv : v.ok) (hl : NmsOk l) :
    callL Tryz.prog hints 6 [.sl (stRows A) false, .sl (stRows B) false, .str nm, .str ot, .agg v.cells, .agg [.bool al, .sl (ssRows l) false]] = some (.bool true) := by
  have hM : 3000000 ≤ maxLen := by decide
  have aw : ∀ S, callO (callL Tryz.prog hints) S 8 [] = some { v := .bool true } := fun S => callO_plain awake_L (by simp)
  by_cases c1 : A.length ≤ 100
  case neg =>
    have c1' : (100 : Int) < (A.length : Int) := by omega
    refine FX.callB ok_isochronelaw11_StateSets 1000 rfl rfl ?_
    apply Exists.intro
    unfold RV.cells
    ((repeat ((conv => lhs; whnf); simp only [go_sem, ↓reduceIte, Nat.reduceEqDiff, Nat.reduceBEq, Nat.reduceAdd, Nat.reduceMul, Nat.reduceSub, Nat.reduceLT, Nat.reduceLeDiff, reduceCtorEq, Int.reduceToNat, Int.reduceLE, Int.reduceLT, Int.reduceEq, sem_isochronelaw11_StateSets, aw, c1'])); try (conv => lhs; whnf); try rfl)
  have c1' : ¬ (100 : Int) < (A.length : Int) := by omega
  by_cases c2 : B.length ≤ 100
  case neg =>
    have c2' : (100 : Int) < (B.length : Int) := by omega
    refine FX.callB ok_isochronelaw11_StateSets 1000 rfl rfl ?_
    apply Exists.intro
    unfold RV.cells
    ((repeat ((conv => lhs; whnf); simp only [go_sem, ↓reduceIte, Nat.reduceEqDiff, Nat.reduceBEq, Nat.reduceAdd, Nat.reduceMul, Nat.reduceSub, Nat.reduceLT, Nat.reduceLeDiff, reduceCtorEq, Int.reduceToNat, Int.reduceLE, Int.reduceLT, Int.reduceEq, sem_isochronelaw11_StateSets, aw, c1', c2'])); try (conv => lhs; whnf); try rfl)
  have c2' : ¬ (100 : Int) < (B.length : Int) := by omega
  by_cases c3 : l.length ≤ 200
  case neg =>
    have c3' : (200 : Int) < (l.length : Int) := by omega
    refine FX.callB ok_isochronelaw11_StateSets 1000 rfl rfl ?_
    apply Exists.intro
    unfold RV.cells
    ((repeat ((conv => lhs; whnf); simp only [go_sem, ↓reduceIte, Nat.reduceEqDiff, Nat.reduceBEq, Nat.reduceAdd, Nat.reduceMul, Nat.reduceSub, Nat.reduceLT, Nat.reduceLeDiff, reduceCtorEq, Int.reduceToNat, Int.reduceLE, Int.reduceLT, Int.reduceEq, sem_isochronelaw11_StateSets, aw, c1', c2', c3'])); try (conv => lhs; whnf); try rfl)
  have c3' : ¬ (200 : Int) < (l.length : Int) := by omega
  have vA := fun S => stValid_o S A hA (by omega)
  have wA := fun S => Valid11_o S A hA (by omega)
  have g1 := fun S => Get_o S A nm hA (by omega) hn
  have g2 := fun S => Get11_o S A nm hA (by omega) hn
  have t1 := fun S => callO_plain (S := S) (call_Set A nm v hA (by omega) hn hv) (by simp [Plain.str]; exact ⟨st_plain A, rv_plain v⟩)
  have t2 := fun S => callO_plain (S := S) (call_Set11 A nm v hA (by omega) hn hv) (by simp [Plain.str]; exact ⟨st_plain A, rv_plain v⟩)
  have pN : Plain (.agg [.bool al, .sl (ssRows l) false]) := ⟨rfl, fun _ => rfl⟩
  have a1 := fun S => callO_plain (S := S) (call_Agree al l (by omega) hl A B hA hB (by omega) (by omega)) (by simp; exact ⟨st_plain A, st_plain B, pN⟩)
  have a2 := fun S => callO_plain (S := S) (call_Agree11 al l (by omega) hl A B hA hB (by omega) (by omega)) (by simp; exact ⟨st_plain A, st_plain B, pN⟩)
  unfold agrR at a1 a2
  generalize (agrOK al l A B && !(anyDis al l A B A || anyDis al l A B B)) = p at a1 a2
  generalize (if agrOK al l A B = true then (0 : Int) else 3) = q at a1 a2
  obtain ⟨R, c, eR, r1, r2⟩ := getR_form A nm hA
  rw [eR] at g1 g2
  have sR := fun S => SameRat_o S R R ⟨r1, r2⟩
  rw [sameRV_self] at sR
  unfold RV.cells at g1 g2 sR t1 t2
  generalize stOK A = sv at vA wA
  by_cases hs : setOK A nm v = true ∧ (insP nm v A).length ≤ 40
  case neg =>
    have e : ∃ k : Int, k ≠ 0 ∧ setR A nm v = .tup [.sl (stRows []) true, .int .i64 k] := by
      unfold setR
      by_cases h1 : setOK A nm v = true
      · rw [if_pos h1, if_neg (fun h => hs ⟨h1, h⟩)]; exact ⟨2, by decide, rfl⟩
      · rw [if_neg h1]; exact ⟨3, by decide, rfl⟩
    obtain ⟨k, k0, e⟩ := e
    rw [e] at t1 t2
    have sm := fun S => callO_plain (S := S) (call_Same [] true (by simp) (by simp)) (by simp; exact Plain.nil)
    refine FX.callB ok_isochronelaw11_StateSets 1000 rfl rfl ?_
    apply Exists.intro
    unfold RV.cells
    ((repeat ((conv => lhs; whnf); simp only [go_sem, ↓reduceIte, Nat.reduceEqDiff, Nat.reduceBEq, Nat.reduceAdd, Nat.reduceMul, Nat.reduceSub, Nat.reduceLT, Nat.reduceLeDiff, reduceCtorEq, Int.reduceToNat, Int.reduceLE, Int.reduceLT, Int.reduceEq, sem_isochronelaw11_StateSets, aw, c1', c2', c3', g1, g2, t1, t2, vA, wA, sR, sm, a1, a2, k0, eq_self, beq_self_eq_true, decide_true, Bool.not_true])); try (conv => lhs; whnf); try rfl)
  obtain ⟨hs1, hs2⟩ := hs
  have e : setR A nm v = .tup [.sl (stRows (insP nm v A)) false, .int .i64 0] := by
    unfold setR
    rw [if_pos hs1, if_pos hs2]
  rw [e] at t1 t2
  have hI := ins_ok (nm := nm) (v := v) hA hn hv
  have oI := ins_stOK hs1 hs2
  have hs1' := hs1
  unfold setOK at hs1'
  simp only [Bool.and_eq_true] at hs1'
  obtain ⟨⟨h1, h2⟩, h3⟩ := hs1'
  have sA := (stOK_iff.1 h1).2.2
  have gI := (stOK_iff.1 oI).2.1
  have lI : (insP nm v A).length ≤ maxLen := by omega
  have sm := fun S => callO_plain (S := S) (call_Same (insP nm v A) false (fun b hb => ⟨(fine_of (hI b hb).v (gI b hb).fit).n, (fine_of (hI b hb).v (gI b hb).fit).d⟩) (by omega)) (by simp; exact st_plain _)
  have u1 := fun S => Get_o S (insP nm v A) nm hI lI hn
  rw [getR_ok (show getOK (insP nm v A) nm = true by unfold getOK; rw [oI, h2]; rfl)] at u1
  have fI := fine_getV (nm := nm) hI gI
  have sC := fun S => SameRat_o S (getV nm (insP nm v A)) v ⟨fI.n, fI.d⟩
  have eC : sameRV (getV nm (insP nm v A)) v = true := by
    rw [getV_ins nm v sA]
    split
    · rename_i h0; exact zero_rv h3 h0
    · exact sameRV_self v
  rw [eC] at sC
  unfold RV.cells at u1 sC
  cases ce : (ot.toList == nm.toList)
  case true =>
    refine FX.callB ok_isochronelaw11_StateSets 1000 rfl rfl ?_
    apply Exists.intro
    unfold RV.cells
    ((repeat ((conv => lhs; whnf); simp only [go_sem, ↓reduceIte, Nat.reduceEqDiff, Nat.reduceBEq, Nat.reduceAdd, Nat.reduceMul, Nat.reduceSub, Nat.reduceLT, Nat.reduceLeDiff, reduceCtorEq, Int.reduceToNat, Int.reduceLE, Int.reduceLT, Int.reduceEq, sem_isochronelaw11_StateSets, aw, c1', c2', c3', g1, g2, t1, t2, vA, wA, sR, sm, a1, a2, u1, sC, ce, eq_self, beq_self_eq_true, decide_true, Bool.not_true])); try (conv => lhs; whnf); try rfl)
  have vo := fun S => Var_o S ot ho
  cases ko : varOK ot
  case false =>
    rw [ko] at vo
    refine FX.callB ok_isochronelaw11_StateSets 1000 rfl rfl ?_
    apply Exists.intro
    unfold RV.cells
    ((repeat ((conv => lhs; whnf); simp only [go_sem, ↓reduceIte, Nat.reduceEqDiff, Nat.reduceBEq, Nat.reduceAdd, Nat.reduceMul, Nat.reduceSub, Nat.reduceLT, Nat.reduceLeDiff, reduceCtorEq, Int.reduceToNat, Int.reduceLE, Int.reduceLT, Int.reduceEq, sem_isochronelaw11_StateSets, aw, c1', c2', c3', g1, g2, t1, t2, vA, wA, sR, sm, a1, a2, u1, sC, ce, vo, eq_self, beq_self_eq_true, decide_true, Bool.not_true])); try (conv => lhs; whnf); try rfl)
  rw [ko] at vo
  have u2 := fun S => Get_o S (insP nm v A) ot hI lI ho
  have u3 := fun S => Get_o S A ot hA (by omega) ho
  rw [getR_ok (show getOK (insP nm v A) ot = true by unfold getOK; rw [oI, ko]; rfl), getV_other (beq_eq_false_iff_ne.1 ce) v sA] at u2
  rw [getR_ok (show getOK A ot = true by unfold getOK; rw [h1, ko]; rfl)] at u3
  have fo := fine_getV (nm := ot) hA (stOK_iff.1 h1).2.1
  have sO := fun S => SameRat_o S (getV ot A) (getV ot A) ⟨fo.n, fo.d⟩
  rw [sameRV_self] at sO
  unfold RV.cells at u2 u3 sO
  refine FX.callB ok_isochronelaw11_StateSets 1000 rfl rfl ?_
  apply Exists.intro
  unfold RV.cells
  ((repeat ((conv => lhs; whnf); simp only [go_sem, ↓reduceIte, Nat.reduceEqDiff, Nat.reduceBEq, Nat.reduceAdd, Nat.reduceMul, Nat.reduceSub, Nat.reduceLT, Nat.reduceLeDiff, reduceCtorEq, Int.reduceToNat, Int.reduceLE, Int.reduceLT, Int.reduceEq, sem_isochronelaw11_StateSets, aw, c1', c2', c3', g1, g2, t1, t2, vA, wA, sR, sm, a1, a2, u1, sC, ce, vo, u2, u3, sO, eq_self, beq_self_eq_true, decide_true, Bool.not_true])); try (conv => lhs; whnf); try rfl)
end
end Go.Vs
end
/- The library's strings.Builder at this program: String as the shelf has it; copyCheck and WriteString walked here (this dump's copyCheck has another last branch than the shelf's). -/
section
set_option linter.unusedVariables false
set_option linter.unusedSimpArgs false
namespace Go.Proofs
open Go.Shelf
shelf_lay Lays.n169 Nm 169 at Tryz as Tryz.lays169
theorem Tryz.Builder_Extra_169 : Builder.Extra Tryz.prog Tryz.lays169_ren where
  sizeBuilder := by kernel_rfl
  liesBuilder := by kernel_rfl
  t5 := Tryz.underlying5
  a5 := Tryz.isAgg5
  z5 := Tryz.sizeOf5
  v5 := Tryz.zeroValue5
  infoByte := by kernel_rfl
  cellsByte := by kernel_rfl
  sizeByte := by kernel_rfl
  neB5 := by decide
open Go.RowKit in
theorem Tryz.Builder_String (B b : Nat) (l : List UInt8) (w : World) (h : Lib.IsBuilder 166 5 B b (Lib.byteCells l) w) (h0 : l ≠ []) :
    Calls Tryz.prog 158 #[.pointer (some ⟨b, 0, none⟩)] w fun e w' => e = .returned (.string ⟨l.toArray⟩) ∧ Below B w w' := Any.Builder_String Tryz.lays169 Tryz.Builder_Extra_169 B b l w h h0
open Go.RowKit
set_option maxHeartbeats 1000000 in
set_option maxRecDepth 100000 in
theorem Tryz.copyCheck_fresh (b : Nat) (w : World) (h0 : w.cell? ⟨b, 0, none⟩ = some (.pointer none)) (hsh : w.shape? b = some (166, 2)) (hfz : w.frozen? ⟨b, 0, none⟩ = false) :
    Calls Tryz.prog 174 #[.pointer (some ⟨b, 0, none⟩)] w fun e w' => e = .returned (.tuple #[]) ∧ w' = w.setCell ⟨b, 0, none⟩ (.pointer (some ⟨b, 0, none⟩)) := by
  obtain ⟨j, hj, hjs⟩ := Option.map_eq_some_iff.1 Tryz.Builder_Extra_169.sizeBuilder
  go_enter Tryz.func174, Tryz.ntmps174
  go_wp2
  rw [Lib.run_to_unsafe w ⟨b, 0, none⟩ Tryz.underlying164 Tryz.underlying197 hj (by rw [hjs]; decide) hsh (Nat.zero_lt_succ 1)]
  simp only [Result.andThen]
  rw [Oper.upon_value]
  go_wp2
  rw [run_callFunc_extern Tryz.func188 (by kernel_rfl) (by kernel_rfl) (by kernel_rfl) (e := Extern.AbiNoEscape.same) (by kernel_rfl)]
  rw [Lib.run_noEscape]
  simp only [Result.andThen]
  rw [Oper.upon_value]
  go_wp2
  rw [Lib.run_from_unsafe w ⟨b, 0, none⟩ Tryz.underlying197 Tryz.underlying164 hj hsh Tryz.Builder_Extra_169.liesBuilder]
  simp only [Result.andThen]
  rw [Oper.upon_value]
  go_wp2
  go_end0
  exact ⟨rfl, rfl⟩
set_option maxHeartbeats 2000000 in
set_option maxRecDepth 100000 in
/-- A builder that has not been written. -/
theorem Tryz.WriteString_fresh (B b : Nat) (bs : List Value) (s : ByteArray) (w : World) (h : Lib.BuilderAt 166 5 B b (.pointer none) bs w) (hlen : bs.length + s.size ≤ 140737488355328) (hBw : B ≤ w.heap.size) :
    Calls Tryz.prog 156 #[.pointer (some ⟨b, 0, none⟩), .string s] w fun e w' => e = .returned (.tuple #[.int .i64 s.size, .nilIface]) ∧ (Lib.BuilderAt 166 5 B b (.pointer (some ⟨b, 0, none⟩)) (bs ++ Lib.strCells s) w' ∧ Below B w w') := by
  obtain ⟨i0, hi, hz0, hz1, hz2⟩ := info_parts Tryz.Builder_Extra_169.infoByte
  go_enter Tryz.func156, Tryz.ntmps156
  go_wp2_with (go_at_call 174; refine (Tryz.copyCheck_fresh b _ h.cell0 h.shape h.frozen0).mono ?_)
  rintro e w1 ⟨rfl, rfl⟩
  have h1 := h.used (.pointer (some ⟨b, 0, none⟩))
  have hb1 : Below B w (w.setCell ⟨b, 0, none⟩ (.pointer (some ⟨b, 0, none⟩))) := (Below.refl B w).setCell (p := ⟨b, 0, none⟩) h.1 _
  generalize w.setCell ⟨b, 0, none⟩ (.pointer (some ⟨b, 0, none⟩)) = w1 at h1 hb1 ⊢
  obtain ⟨hB, v, hbk, hown, hne⟩ := h1
  have c0 : w1.cell? ⟨b, 0, none⟩ = some (.pointer (some ⟨b, 0, none⟩)) := by rw [Lib.cell_of_heap hbk]; rfl
  have c1 : w1.cell? ⟨b, 1, none⟩ = some v := by rw [Lib.cell_of_heap hbk]; rfl
  go_wp2_with (at_builtin; refine Lib.wpList_append_own_string _ rfl _ _ 144 9 rfl B 5 i0 Tryz.underlying144 Tryz.underlying9 hi hz0 hz1 hz2 _ _ _ rfl hown s rfl ?c3 ?c4 ?c5 ?_)
  case c3 => unfold maxLen; omega
  case c4 => omega
  case c5 => have := hb1.size; omega
  intro v' w2 hown' hgrow _
  have hlt : b < w1.heap.size := by
    rcases Nat.lt_or_ge b w1.heap.size with h' | h'
    · exact h'
    · simp [Array.getElem?_eq_none h'] at hbk
  have hb2 : w2.heap[b]? = some (.cells #[.pointer (some ⟨b, 0, none⟩), v] 166 (0, 0)) := by
    rw [hgrow.block b hlt (fun e => hne e.symm)]
    exact hbk
  have d0 : w2.cell? ⟨b, 0, none⟩ = some (.pointer (some ⟨b, 0, none⟩)) := by rw [Lib.cell_of_heap hb2]; rfl
  have d1 : w2.cell? ⟨b, 1, none⟩ = some v := by rw [Lib.cell_of_heap hb2]; rfl
  have f1 : w2.frozen? ⟨b, 1, none⟩ = false := Lib.frozen_of_heap hb2 1
  obtain ⟨ao, n', cap, rfl⟩ : ∃ ao n' cap, v' = .slice ao n' cap := by
    rcases hown'.2 with ⟨hv, _⟩ | ⟨g, cap, cur, hv, _⟩
    · exact ⟨_, _, _, hv⟩
    · exact ⟨_, _, _, hv⟩
  go_wp2
  go_ret2
  refine ⟨rfl, ?_, ?_⟩
  · exact Lib.BuilderAt.put (T := 166) (e := 5) hB hb2 (bs' := bs ++ Lib.strCells s) (by simpa [Lib.strCells_length] using hown') (by decide)
  · exact (hb1.grown hgrow (by have := hb1.size; omega) (fun k hk => (hown.lt k hk).1)).setCell (p := ⟨b, 1, none⟩) hB _
end Go.Proofs
end

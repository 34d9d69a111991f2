/- States: Set, whole. -/

import Derived.Test.YtkaeejkajfinhaaGreatMS24
section
set_option linter.unusedVariables false
set_option linter.unusedSimpArgs false
set_option maxRecDepth 100000
namespace Go.Vs
open Go Go.Proofs
/-- A name set to a value: zero takes it out. -/
def insP (nm : ByteArray) (v : RV) (L : List Bd) : List Bd :=
  L.take (posL nm L) ++ (if v.num.length = 0 then [] else [Bd.mk nm v]) ++ L.drop (if foundL nm L then posL nm L + 1 else posL nm L)
def setOK (L : List Bd) (nm : ByteArray) (v : RV) : Bool := stOK L && varOK nm && v.fit
def setR (L : List Bd) (nm : ByteArray) (v : RV) : PV :=
  if setOK L nm v = true then (if (insP nm v L).length ≤ 40 then .tup [.sl (stRows (insP nm v L)) false, .int .i64 0] else .tup [.sl [] true, .int .i64 2]) else .tup [.sl [] true, .int .i64 3]
theorem find_o (S : Store) (L : List Bd) (nm : ByteArray) (hl : L.length ≤ 1000000) (hs : Sorted L) : callO (callL Tryz.prog hints) S 62 [.sl (stRows L) false, .str nm] = some { v := .tup [.int .i64 (posL nm L), .bool (foundL nm L)] } := callO_plain (call_find L nm hl (posL_turns nm hs)) (by simp [Plain.str]; exact st_plain L)
section
attribute [local irreducible] Vs.callL Vs.callRL tyi callO callM callMV appendE storeE evLoad indexAddrO sliceO evFieldAddr evField buildO buildSliceO makeSliceO allocO boxed lenO copyE convertO indexO Vs.gc freezeAll
theorem call_Set (L : List Bd) (nm : ByteArray) (v : RV) (hL : StOk L) (hl : L.length ≤ maxLen) (hn : nm.size ≤ maxLen) (hv : v.ok) : callL Tryz.prog hints 22 [.sl (stRows L) false, .str nm, .agg v.cells] = some (setR L nm v) := by
  have cv := fun S => stValid_o S L hL hl
  have cn := fun S => var_o S nm hn
  have cf := fun S => fits_o S v hv
  unfold RV.cells at cf
  unfold setR setOK
  cases k1 : stOK L
  · rw [k1] at cv
    simp only [Bool.false_and, Bool.false_eq_true, if_false]
    refine FX.callL (r := (.tup [.sl [] true, .int .i64 3], [.arr [v.cells] none false])) ok_state_Set 1000 rfl rfl ?_ rfl
    unfold RV.cells
    ((repeat ((conv => lhs; whnf); simp only [go_sem, ↓reduceIte, Nat.reduceEqDiff, Nat.reduceBEq, Nat.reduceAdd, Nat.reduceMul, Nat.reduceSub, Nat.reduceLT, Nat.reduceLeDiff, reduceCtorEq, Int.reduceToNat, Int.reduceLE, Int.reduceLT, Int.reduceEq, sem_state_Set, cv])); try (conv => lhs; whnf); try rfl)
  · rw [k1] at cv
    cases k2 : varOK nm
    · rw [k2] at cn
      simp only [Bool.and_false, Bool.false_and, Bool.false_eq_true, if_false]
      refine FX.callL (r := (.tup [.sl [] true, .int .i64 3], [.arr [v.cells] none false])) ok_state_Set 1000 rfl rfl ?_ rfl
      unfold RV.cells
      ((repeat ((conv => lhs; whnf); simp only [go_sem, ↓reduceIte, Nat.reduceEqDiff, Nat.reduceBEq, Nat.reduceAdd, Nat.reduceMul, Nat.reduceSub, Nat.reduceLT, Nat.reduceLeDiff, reduceCtorEq, Int.reduceToNat, Int.reduceLE, Int.reduceLT, Int.reduceEq, sem_state_Set, cv, cn])); try (conv => lhs; whnf); try rfl)
    · rw [k2] at cn
      cases k3 : v.fit
      · rw [k3] at cf
        simp only [Bool.and_false, Bool.false_eq_true, if_false]
        refine FX.callL (r := (.tup [.sl [] true, .int .i64 3], [.arr [v.cells] none false])) ok_state_Set 1000 rfl rfl ?_ rfl
        unfold RV.cells
        ((repeat ((conv => lhs; whnf); simp only [go_sem, ↓reduceIte, Nat.reduceEqDiff, Nat.reduceBEq, Nat.reduceAdd, Nat.reduceMul, Nat.reduceSub, Nat.reduceLT, Nat.reduceLeDiff, reduceCtorEq, Int.reduceToNat, Int.reduceLE, Int.reduceLT, Int.reduceEq, sem_state_Set, cv, cn, cf])); try (conv => lhs; whnf); try rfl)
      · rw [k3] at cf
        simp only [Bool.and_self, if_true]
        obtain ⟨h40, hg, hs⟩ := stOK_iff.1 k1
        have fo := fun S => find_o S L nm (by omega) hs
        have ht := (posL_turns nm hs).1
        unfold insP
        generalize hp : posL nm L = r at fo ht ⊢
        generalize hq : foundL nm L = fd at fo ⊢
        have hfd : fd = true → r < L.length := fun h => by
          unfold foundL at hq
          rw [hp, h] at hq
          simp only [Bool.and_eq_true, decide_eq_true_eq] at hq
          exact hq.1
        have cu := fun S => cut_st S L r ht
        have mo : ∀ M : List Bd, (∀ b ∈ M, b ∈ L) → ∀ b ∈ M, b.val.ok ∧ b.val.fit = true := fun M hM b hb => ⟨(hL b (hM b hb)).v, (hg b (hM b hb)).fit⟩
        obtain ⟨g1, hg1, l1⟩ := loop_Set0 v nm L r fd (L.take r) (by simp; omega) (mo _ fun b hb => List.mem_of_mem_take hb) [.blk 0, .seq 0 63] (L.take r).length 0 none (by omega) (.inl rfl)
        have z1 : L.take r = L.take r ++ [] := by simp
        have wr : fd = true → IntKind.i64.wrap ((r : Int) + 1) = ((r + 1 : Nat) : Int) := fun h => by have := hfd h; rw [IntKind.wrap_i64]; omega
        have cc := fun S => CopyV_o S v hv k3
        unfold RV.cells at cc
        have el : (L.take r).length = r := by rw [List.length_take]; omega
        by_cases c0 : v.num.length = 0
        · have c0' : ¬ (0 : Int) < (v.num.length : Int) := by omega
          simp only [c0, if_true, List.append_nil]
          have step : ∀ r2 : Nat, r2 ≤ L.length → ∃ g2 : Option Nat, (g2 = none ∨ g2 = some 4) ∧ ∀ z : PV × Store, exitTo 0 fx_state_Set 2 [.blk 2, .seq 0 511] [(10, .msl 1 0 (L.take r ++ L.drop r2).length false), (68, .undef), (69, .undef), (70, .undef), (71, .undef)] [.arr [[.bool v.neg, .sl (kRows .u32 v.num) false, .sl (kRows .u32 v.den) false]] none false, .arr (stRows (L.take r ++ L.drop r2)) (some g2) false] = some z → loopAt 0 fx_state_Set 2 4084 2 [.blk 2, .seq 0 511] [(10, .msl 1 0 (L.take r).length false), (68, .sl (stRows (L.drop r2)) false), (69, .int .i64 (L.drop r2).length), (70, .int .i64 (0 : Nat))] [.arr [[.bool v.neg, .sl (kRows .u32 v.num) false, .sl (kRows .u32 v.den) false]] none false, .arr (stRows (L.take r)) (some g1) false] = some z := fun r2 h2 => by
            have := loop_Set2 v nm (L.take r) (L.drop r2) (by simp; omega) (by simp; omega) (mo _ fun b hb => List.mem_of_mem_drop hb) [.blk 2, .seq 0 511] (L.drop r2).length 0 g1 (by omega) hg1
            simp only [List.take_zero, List.append_nil, Int.natCast_zero] at this
            exact this
          cases fd
          · obtain ⟨g2, hg2, l2⟩ := step r ht
            have re := fun S => rest_st S L r ht
            simp only [Bool.false_eq_true, if_false]
            by_cases c4 : (L.take r ++ L.drop r).length ≤ 40
            · have c4' : ¬ (40 : Int) < ((L.take r ++ L.drop r).length : Int) := by omega
              rw [if_pos c4]
              refine FX.callL (r := (.tup [.msl 1 0 (L.take r ++ L.drop r).length false, .int .i64 0], [.arr [[.bool v.neg, .sl (kRows .u32 v.num) false, .sl (kRows .u32 v.den) false]] none false, .arr (stRows (L.take r ++ L.drop r)) (some g2) false])) ok_state_Set 1000 rfl rfl ?_ (stTup_fzV rfl rfl)
              unfold RV.cells
              ((repeat ((conv => lhs; whnf); simp only [go_sem, ↓reduceIte, Nat.reduceEqDiff, Nat.reduceBEq, Nat.reduceAdd, Nat.reduceMul, Nat.reduceSub, Nat.reduceLT, Nat.reduceLeDiff, reduceCtorEq, Int.reduceToNat, Int.reduceLE, Int.reduceLT, Int.reduceEq, sem_state_Set, cv, cn, cf, fo, cu])); try (conv => lhs; whnf); try rfl)
              refine l1 _ ?_
              refine exit_run ok_state_Set.good 1000 ?_
              ((repeat ((conv => lhs; whnf); simp only [go_sem, ↓reduceIte, Nat.reduceEqDiff, Nat.reduceBEq, Nat.reduceAdd, Nat.reduceMul, Nat.reduceSub, Nat.reduceLT, Nat.reduceLeDiff, reduceCtorEq, Int.reduceToNat, Int.reduceLE, Int.reduceLT, Int.reduceEq, sem_state_Set, c0', re])); try (conv => lhs; whnf); try rfl)
              refine l2 _ ?_
              refine exit_run ok_state_Set.good 1000 ?_
              ((repeat ((conv => lhs; whnf); simp only [go_sem, ↓reduceIte, Nat.reduceEqDiff, Nat.reduceBEq, Nat.reduceAdd, Nat.reduceMul, Nat.reduceSub, Nat.reduceLT, Nat.reduceLeDiff, reduceCtorEq, Int.reduceToNat, Int.reduceLE, Int.reduceLT, Int.reduceEq, sem_state_Set, c4'])); try (conv => lhs; whnf); try rfl)
            · have c4' : (40 : Int) < ((L.take r ++ L.drop r).length : Int) := by omega
              rw [if_neg c4]
              refine FX.callL (r := (.tup [.sl [] true, .int .i64 2], [.arr [[.bool v.neg, .sl (kRows .u32 v.num) false, .sl (kRows .u32 v.den) false]] none false, .arr (stRows (L.take r ++ L.drop r)) (some g2) false])) ok_state_Set 1000 rfl rfl ?_ rfl
              unfold RV.cells
              ((repeat ((conv => lhs; whnf); simp only [go_sem, ↓reduceIte, Nat.reduceEqDiff, Nat.reduceBEq, Nat.reduceAdd, Nat.reduceMul, Nat.reduceSub, Nat.reduceLT, Nat.reduceLeDiff, reduceCtorEq, Int.reduceToNat, Int.reduceLE, Int.reduceLT, Int.reduceEq, sem_state_Set, cv, cn, cf, fo, cu])); try (conv => lhs; whnf); try rfl)
              refine l1 _ ?_
              refine exit_run ok_state_Set.good 1000 ?_
              ((repeat ((conv => lhs; whnf); simp only [go_sem, ↓reduceIte, Nat.reduceEqDiff, Nat.reduceBEq, Nat.reduceAdd, Nat.reduceMul, Nat.reduceSub, Nat.reduceLT, Nat.reduceLeDiff, reduceCtorEq, Int.reduceToNat, Int.reduceLE, Int.reduceLT, Int.reduceEq, sem_state_Set, c0', re])); try (conv => lhs; whnf); try rfl)
              refine l2 _ ?_
              refine exit_run ok_state_Set.good 1000 ?_
              ((repeat ((conv => lhs; whnf); simp only [go_sem, ↓reduceIte, Nat.reduceEqDiff, Nat.reduceBEq, Nat.reduceAdd, Nat.reduceMul, Nat.reduceSub, Nat.reduceLT, Nat.reduceLeDiff, reduceCtorEq, Int.reduceToNat, Int.reduceLE, Int.reduceLT, Int.reduceEq, sem_state_Set, c4'])); try (conv => lhs; whnf); try rfl)
          · obtain ⟨g2, hg2, l2⟩ := step (r + 1) (hfd rfl)
            have re := fun S => rest_st S L (r + 1) (hfd rfl)
            have wr' := wr rfl
            simp only [if_true]
            by_cases c4 : (L.take r ++ L.drop (r + 1)).length ≤ 40
            · have c4' : ¬ (40 : Int) < ((L.take r ++ L.drop (r + 1)).length : Int) := by omega
              rw [if_pos c4]
              refine FX.callL (r := (.tup [.msl 1 0 (L.take r ++ L.drop (r + 1)).length false, .int .i64 0], [.arr [[.bool v.neg, .sl (kRows .u32 v.num) false, .sl (kRows .u32 v.den) false]] none false, .arr (stRows (L.take r ++ L.drop (r + 1))) (some g2) false])) ok_state_Set 1000 rfl rfl ?_ (stTup_fzV rfl rfl)
              unfold RV.cells
              ((repeat ((conv => lhs; whnf); simp only [go_sem, ↓reduceIte, Nat.reduceEqDiff, Nat.reduceBEq, Nat.reduceAdd, Nat.reduceMul, Nat.reduceSub, Nat.reduceLT, Nat.reduceLeDiff, reduceCtorEq, Int.reduceToNat, Int.reduceLE, Int.reduceLT, Int.reduceEq, sem_state_Set, cv, cn, cf, fo, cu])); try (conv => lhs; whnf); try rfl)
              refine l1 _ ?_
              refine exit_run ok_state_Set.good 1000 ?_
              ((repeat ((conv => lhs; whnf); simp only [go_sem, ↓reduceIte, Nat.reduceEqDiff, Nat.reduceBEq, Nat.reduceAdd, Nat.reduceMul, Nat.reduceSub, Nat.reduceLT, Nat.reduceLeDiff, reduceCtorEq, Int.reduceToNat, Int.reduceLE, Int.reduceLT, Int.reduceEq, sem_state_Set, c0', re, wr'])); try (conv => lhs; whnf); try rfl)
              refine l2 _ ?_
              refine exit_run ok_state_Set.good 1000 ?_
              ((repeat ((conv => lhs; whnf); simp only [go_sem, ↓reduceIte, Nat.reduceEqDiff, Nat.reduceBEq, Nat.reduceAdd, Nat.reduceMul, Nat.reduceSub, Nat.reduceLT, Nat.reduceLeDiff, reduceCtorEq, Int.reduceToNat, Int.reduceLE, Int.reduceLT, Int.reduceEq, sem_state_Set, c4'])); try (conv => lhs; whnf); try rfl)
            · have c4' : (40 : Int) < ((L.take r ++ L.drop (r + 1)).length : Int) := by omega
              rw [if_neg c4]
              refine FX.callL (r := (.tup [.sl [] true, .int .i64 2], [.arr [[.bool v.neg, .sl (kRows .u32 v.num) false, .sl (kRows .u32 v.den) false]] none false, .arr (stRows (L.take r ++ L.drop (r + 1))) (some g2) false])) ok_state_Set 1000 rfl rfl ?_ rfl
              unfold RV.cells
              ((repeat ((conv => lhs; whnf); simp only [go_sem, ↓reduceIte, Nat.reduceEqDiff, Nat.reduceBEq, Nat.reduceAdd, Nat.reduceMul, Nat.reduceSub, Nat.reduceLT, Nat.reduceLeDiff, reduceCtorEq, Int.reduceToNat, Int.reduceLE, Int.reduceLT, Int.reduceEq, sem_state_Set, cv, cn, cf, fo, cu])); try (conv => lhs; whnf); try rfl)
              refine l1 _ ?_
              refine exit_run ok_state_Set.good 1000 ?_
              ((repeat ((conv => lhs; whnf); simp only [go_sem, ↓reduceIte, Nat.reduceEqDiff, Nat.reduceBEq, Nat.reduceAdd, Nat.reduceMul, Nat.reduceSub, Nat.reduceLT, Nat.reduceLeDiff, reduceCtorEq, Int.reduceToNat, Int.reduceLE, Int.reduceLT, Int.reduceEq, sem_state_Set, c0', re, wr'])); try (conv => lhs; whnf); try rfl)
              refine l2 _ ?_
              refine exit_run ok_state_Set.good 1000 ?_
              ((repeat ((conv => lhs; whnf); simp only [go_sem, ↓reduceIte, Nat.reduceEqDiff, Nat.reduceBEq, Nat.reduceAdd, Nat.reduceMul, Nat.reduceSub, Nat.reduceLT, Nat.reduceLeDiff, reduceCtorEq, Int.reduceToNat, Int.reduceLE, Int.reduceLT, Int.reduceEq, sem_state_Set, c4'])); try (conv => lhs; whnf); try rfl)
        · have c0' : (0 : Int) < (v.num.length : Int) := by omega
          simp only [c0, if_false]
          have ap := app_st (S := [.arr [[.bool v.neg, .sl (kRows .u32 v.num) false, .sl (kRows .u32 v.den) false]] none false, .arr (stRows (L.take r)) (some g1) false, .arr [[.str nm, .bool v.neg, .sl (kRows .u32 v.num) false, .sl (kRows .u32 v.den) false]] (some (some 4)) false]) (S' := [.arr [[.bool v.neg, .sl (kRows .u32 v.num) false, .sl (kRows .u32 v.den) false]] none false, .arr (stRows (L.take r ++ [Bd.mk nm v])) (some (some 4)) false, .arr [[.str nm, .bool v.neg, .sl (kRows .u32 v.num) false, .sl (kRows .u32 v.den) false]] (some (some 4)) false]) (j := 2) (L.take r) (Bd.mk nm v) g1 hg1 (by omega) true rfl rfl (by simp only [List.map_cons, List.map_nil, killObj_flat (stRows_refs _)]; rfl)
          have eA : (L.take r).length + 1 = (L.take r ++ [Bd.mk nm v]).length := by simp
          rw [eA] at ap
          have step : ∀ r2 : Nat, r2 ≤ L.length → ∃ g2 : Option Nat, (g2 = none ∨ g2 = some 4) ∧ ∀ z : PV × Store, exitTo 0 fx_state_Set 2 [.blk 2, .seq 0 511] [(10, .msl 1 0 ((L.take r ++ [Bd.mk nm v]) ++ L.drop r2).length false), (68, .undef), (69, .undef), (70, .undef), (71, .undef)] [.arr [[.bool v.neg, .sl (kRows .u32 v.num) false, .sl (kRows .u32 v.den) false]] none false, .arr (stRows ((L.take r ++ [Bd.mk nm v]) ++ L.drop r2)) (some g2) false, .arr [[.str nm, .bool v.neg, .sl (kRows .u32 v.num) false, .sl (kRows .u32 v.den) false]] (some (some 4)) false] = some z → loopAt 0 fx_state_Set 2 4084 3 [.blk 2, .seq 0 511] [(10, .msl 1 0 (L.take r ++ [Bd.mk nm v]).length false), (68, .sl (stRows (L.drop r2)) false), (69, .int .i64 (L.drop r2).length), (70, .int .i64 (0 : Nat))] [.arr [[.bool v.neg, .sl (kRows .u32 v.num) false, .sl (kRows .u32 v.den) false]] none false, .arr (stRows (L.take r ++ [Bd.mk nm v])) (some (some 4)) false, .arr [[.str nm, .bool v.neg, .sl (kRows .u32 v.num) false, .sl (kRows .u32 v.den) false]] (some (some 4)) false] = some z := fun r2 h2 => by
            have := loop_Set2' v nm (L.take r ++ [Bd.mk nm v]) (L.drop r2) (by simp; omega) (by simp; omega) (mo _ fun b hb => List.mem_of_mem_drop hb) [.blk 2, .seq 0 511] (L.drop r2).length 0 (some 4) (by omega) (.inr rfl)
            simp only [List.take_zero, List.append_nil, Int.natCast_zero] at this
            exact this
          cases fd
          · obtain ⟨g2, hg2, l2⟩ := step r ht
            have re := fun S => rest_st S L r ht
            simp only [Bool.false_eq_true, if_false]
            by_cases c4 : ((L.take r ++ [Bd.mk nm v]) ++ L.drop r).length ≤ 40
            · have c4' : ¬ (40 : Int) < (((L.take r ++ [Bd.mk nm v]) ++ L.drop r).length : Int) := by omega
              rw [if_pos c4]
              refine FX.callL (r := (.tup [.msl 1 0 ((L.take r ++ [Bd.mk nm v]) ++ L.drop r).length false, .int .i64 0], [.arr [[.bool v.neg, .sl (kRows .u32 v.num) false, .sl (kRows .u32 v.den) false]] none false, .arr (stRows ((L.take r ++ [Bd.mk nm v]) ++ L.drop r)) (some g2) false, .arr [[.str nm, .bool v.neg, .sl (kRows .u32 v.num) false, .sl (kRows .u32 v.den) false]] (some (some 4)) false])) ok_state_Set 1000 rfl rfl ?_ (stTup_fzV rfl rfl)
              unfold RV.cells
              ((repeat ((conv => lhs; whnf); simp only [go_sem, ↓reduceIte, Nat.reduceEqDiff, Nat.reduceBEq, Nat.reduceAdd, Nat.reduceMul, Nat.reduceSub, Nat.reduceLT, Nat.reduceLeDiff, reduceCtorEq, Int.reduceToNat, Int.reduceLE, Int.reduceLT, Int.reduceEq, sem_state_Set, cv, cn, cf, fo, cu])); try (conv => lhs; whnf); try rfl)
              refine l1 _ ?_
              refine exit_run ok_state_Set.good 1000 ?_
              ((repeat ((conv => lhs; whnf); simp only [go_sem, ↓reduceIte, Nat.reduceEqDiff, Nat.reduceBEq, Nat.reduceAdd, Nat.reduceMul, Nat.reduceSub, Nat.reduceLT, Nat.reduceLeDiff, reduceCtorEq, Int.reduceToNat, Int.reduceLE, Int.reduceLT, Int.reduceEq, sem_state_Set, c0', re, cc, ap, stRows_refs])); try (conv => lhs; whnf); try rfl)
              refine l2 _ ?_
              refine exit_run ok_state_Set.good 1000 ?_
              ((repeat ((conv => lhs; whnf); simp only [go_sem, ↓reduceIte, Nat.reduceEqDiff, Nat.reduceBEq, Nat.reduceAdd, Nat.reduceMul, Nat.reduceSub, Nat.reduceLT, Nat.reduceLeDiff, reduceCtorEq, Int.reduceToNat, Int.reduceLE, Int.reduceLT, Int.reduceEq, sem_state_Set, c4'])); try (conv => lhs; whnf); try rfl)
            · have c4' : (40 : Int) < (((L.take r ++ [Bd.mk nm v]) ++ L.drop r).length : Int) := by omega
              rw [if_neg c4]
              refine FX.callL (r := (.tup [.sl [] true, .int .i64 2], [.arr [[.bool v.neg, .sl (kRows .u32 v.num) false, .sl (kRows .u32 v.den) false]] none false, .arr (stRows ((L.take r ++ [Bd.mk nm v]) ++ L.drop r)) (some g2) false, .arr [[.str nm, .bool v.neg, .sl (kRows .u32 v.num) false, .sl (kRows .u32 v.den) false]] (some (some 4)) false])) ok_state_Set 1000 rfl rfl ?_ rfl
              unfold RV.cells
              ((repeat ((conv => lhs; whnf); simp only [go_sem, ↓reduceIte, Nat.reduceEqDiff, Nat.reduceBEq, Nat.reduceAdd, Nat.reduceMul, Nat.reduceSub, Nat.reduceLT, Nat.reduceLeDiff, reduceCtorEq, Int.reduceToNat, Int.reduceLE, Int.reduceLT, Int.reduceEq, sem_state_Set, cv, cn, cf, fo, cu])); try (conv => lhs; whnf); try rfl)
              refine l1 _ ?_
              refine exit_run ok_state_Set.good 1000 ?_
              ((repeat ((conv => lhs; whnf); simp only [go_sem, ↓reduceIte, Nat.reduceEqDiff, Nat.reduceBEq, Nat.reduceAdd, Nat.reduceMul, Nat.reduceSub, Nat.reduceLT, Nat.reduceLeDiff, reduceCtorEq, Int.reduceToNat, Int.reduceLE, Int.reduceLT, Int.reduceEq, sem_state_Set, c0', re, cc, ap, stRows_refs])); try (conv => lhs; whnf); try rfl)
              refine l2 _ ?_
              refine exit_run ok_state_Set.good 1000 ?_
              ((repeat ((conv => lhs; whnf); simp only [go_sem, ↓reduceIte, Nat.reduceEqDiff, Nat.reduceBEq, Nat.reduceAdd, Nat.reduceMul, Nat.reduceSub, Nat.reduceLT, Nat.reduceLeDiff, reduceCtorEq, Int.reduceToNat, Int.reduceLE, Int.reduceLT, Int.reduceEq, sem_state_Set, c4'])); try (conv => lhs; whnf); try rfl)
          · obtain ⟨g2, hg2, l2⟩ := step (r + 1) (hfd rfl)
            have re := fun S => rest_st S L (r + 1) (hfd rfl)
            have wr' := wr rfl
            simp only [if_true]
            by_cases c4 : ((L.take r ++ [Bd.mk nm v]) ++ L.drop (r + 1)).length ≤ 40
            · have c4' : ¬ (40 : Int) < (((L.take r ++ [Bd.mk nm v]) ++ L.drop (r + 1)).length : Int) := by omega
              rw [if_pos c4]
              refine FX.callL (r := (.tup [.msl 1 0 ((L.take r ++ [Bd.mk nm v]) ++ L.drop (r + 1)).length false, .int .i64 0], [.arr [[.bool v.neg, .sl (kRows .u32 v.num) false, .sl (kRows .u32 v.den) false]] none false, .arr (stRows ((L.take r ++ [Bd.mk nm v]) ++ L.drop (r + 1))) (some g2) false, .arr [[.str nm, .bool v.neg, .sl (kRows .u32 v.num) false, .sl (kRows .u32 v.den) false]] (some (some 4)) false])) ok_state_Set 1000 rfl rfl ?_ (stTup_fzV rfl rfl)
              unfold RV.cells
              ((repeat ((conv => lhs; whnf); simp only [go_sem, ↓reduceIte, Nat.reduceEqDiff, Nat.reduceBEq, Nat.reduceAdd, Nat.reduceMul, Nat.reduceSub, Nat.reduceLT, Nat.reduceLeDiff, reduceCtorEq, Int.reduceToNat, Int.reduceLE, Int.reduceLT, Int.reduceEq, sem_state_Set, cv, cn, cf, fo, cu])); try (conv => lhs; whnf); try rfl)
              refine l1 _ ?_
              refine exit_run ok_state_Set.good 1000 ?_
              ((repeat ((conv => lhs; whnf); simp only [go_sem, ↓reduceIte, Nat.reduceEqDiff, Nat.reduceBEq, Nat.reduceAdd, Nat.reduceMul, Nat.reduceSub, Nat.reduceLT, Nat.reduceLeDiff, reduceCtorEq, Int.reduceToNat, Int.reduceLE, Int.reduceLT, Int.reduceEq, sem_state_Set, c0', re, wr', cc, ap, stRows_refs])); try (conv => lhs; whnf); try rfl)
              refine l2 _ ?_
              refine exit_run ok_state_Set.good 1000 ?_
              ((repeat ((conv => lhs; whnf); simp only [go_sem, ↓reduceIte, Nat.reduceEqDiff, Nat.reduceBEq, Nat.reduceAdd, Nat.reduceMul, Nat.reduceSub, Nat.reduceLT, Nat.reduceLeDiff, reduceCtorEq, Int.reduceToNat, Int.reduceLE, Int.reduceLT, Int.reduceEq, sem_state_Set, c4'])); try (conv => lhs; whnf); try rfl)
            · have c4' : (40 : Int) < (((L.take r ++ [Bd.mk nm v]) ++ L.drop (r + 1)).length : Int) := by omega
              rw [if_neg c4]
              refine FX.callL (r := (.tup [.sl [] true, .int .i64 2], [.arr [[.bool v.neg, .sl (kRows .u32 v.num) false, .sl (kRows .u32 v.den) false]] none false, .arr (stRows ((L.take r ++ [Bd.mk nm v]) ++ L.drop (r + 1))) (some g2) false, .arr [[.str nm, .bool v.neg, .sl (kRows .u32 v.num) false, .sl (kRows .u32 v.den) false]] (some (some 4)) false])) ok_state_Set 1000 rfl rfl ?_ rfl
              unfold RV.cells
              ((repeat ((conv => lhs; whnf); simp only [go_sem, ↓reduceIte, Nat.reduceEqDiff, Nat.reduceBEq, Nat.reduceAdd, Nat.reduceMul, Nat.reduceSub, Nat.reduceLT, Nat.reduceLeDiff, reduceCtorEq, Int.reduceToNat, Int.reduceLE, Int.reduceLT, Int.reduceEq, sem_state_Set, cv, cn, cf, fo, cu])); try (conv => lhs; whnf); try rfl)
              refine l1 _ ?_
              refine exit_run ok_state_Set.good 1000 ?_
              ((repeat ((conv => lhs; whnf); simp only [go_sem, ↓reduceIte, Nat.reduceEqDiff, Nat.reduceBEq, Nat.reduceAdd, Nat.reduceMul, Nat.reduceSub, Nat.reduceLT, Nat.reduceLeDiff, reduceCtorEq, Int.reduceToNat, Int.reduceLE, Int.reduceLT, Int.reduceEq, sem_state_Set, c0', re, wr', cc, ap, stRows_refs])); try (conv => lhs; whnf); try rfl)
              refine l2 _ ?_
              refine exit_run ok_state_Set.good 1000 ?_
              ((repeat ((conv => lhs; whnf); simp only [go_sem, ↓reduceIte, Nat.reduceEqDiff, Nat.reduceBEq, Nat.reduceAdd, Nat.reduceMul, Nat.reduceSub, Nat.reduceLT, Nat.reduceLeDiff, reduceCtorEq, Int.reduceToNat, Int.reduceLE, Int.reduceLT, Int.reduceEq, sem_state_Set, c4'])); try (conv => lhs; whnf); try rfl)
end
end Go.Vs
end
/- States: the reference's Set. -/
section
set_option linter.unusedVariables false
set_option linter.unusedSimpArgs false
set_option maxRecDepth 100000
namespace Go.Vs
open Go Go.Proofs
def gtN (b : Bd) (nm : ByteArray) : Bool := !(Op.bytesLess b.name.toList nm.toList || b.name.toList == nm.toList)
def eqN (b : Bd) (nm : ByteArray) : Bool := b.name.toList == nm.toList
/-- The reference's loop. -/
def setLoop (nm : ByteArray) (v : RV) : Bool → List Bd → List Bd → List Bd × Bool
  | put, acc, [] => (acc, put)
  | put, acc, b :: r => setLoop nm v (put || gtN b nm) ((if (!put && gtN b nm) = true then acc ++ [Bd.mk nm v] else acc) ++ (if eqN b nm = true then [] else [b])) r
theorem setLoop_len (nm : ByteArray) (v : RV) : ∀ (M : List Bd) (put : Bool) (acc : List Bd), (setLoop nm v put acc M).1.length ≤ acc.length + 2 * M.length
  | [], put, acc => by simp [setLoop]
  | b :: r, put, acc => by
    have := setLoop_len nm v r (put || gtN b nm) ((if (!put && gtN b nm) = true then acc ++ [Bd.mk nm v] else acc) ++ (if eqN b nm = true then [] else [b]))
    simp only [setLoop]
    have h2 : ((if (!put && gtN b nm) = true then acc ++ [Bd.mk nm v] else acc) ++ (if eqN b nm = true then [] else [b])).length ≤ acc.length + 2 := by
      rw [List.length_append]
      split <;> split <;> simp
    simp only [List.length_cons]
    omega
section
attribute [local irreducible] Vs.callL Vs.callRL tyi callO callM callMV appendE storeE evLoad indexAddrO sliceO evFieldAddr evField buildO buildSliceO makeSliceO allocO boxed lenO copyE convertO indexO Vs.gc freezeAll
noncomputable def fx_isochroneref11_set : FX := ⟨Tryz.f65, hints.of 65, []⟩
theorem ok_isochroneref11_set : fx_isochroneref11_set.ok 65 := ⟨by kernel_rfl, of_decide_eq_true (by kernel_rfl), by kernel_rfl, by kernel_rfl, by kernel_rfl, by kernel_rfl⟩
theorem sem_isochroneref11_set (b0 : Nat) (m : Md) (fs : List Fr) (e : Env) (S : Store) : sem b0 fx_isochroneref11_set m fs e S = run b0 fx_isochroneref11_set 1000 m fs e S := (sem_eq _ _ _ _ _ _).trans (run_sem b0 fx_isochroneref11_set ok_isochroneref11_set.good 1000 m fs e S).symm
theorem loop_set11 (v : RV) (nm : ByteArray) (L : List Bd) (hL : L.length ≤ 1000) (fs : List Fr) : ∀ (m i : Nat) (put : Bool) (acc : List Bd) (g : Option Nat), i + m = L.length → acc.length + 2 * m ≤ 10000 → (g = none ∨ g = some 4) →
    ∃ g' : Option Nat, (g' = none ∨ g' = some 4) ∧ ∀ z : PV × Store, exitTo 0 fx_isochroneref11_set 0 fs [(0, .undef), (1, .str nm), (5, .mp 0 0 0), (7, .msl 1 0 (setLoop nm v put acc (L.drop i)).1.length false), (8, .bool (setLoop nm v put acc (L.drop i)).2), (9, .undef), (17, .undef)] [.arr [[.bool v.neg, .sl (kRows .u32 v.num) false, .sl (kRows .u32 v.den) false]] none false, .arr (stRows (setLoop nm v put acc (L.drop i)).1) (some g') false] = some z →
    loopAt 0 fx_isochroneref11_set 0 244 2 fs [(0, .sl (stRows L) false), (1, .str nm), (5, .mp 0 0 0), (7, .msl 1 0 acc.length false), (8, .bool put), (9, .int .i64 i)] [.arr [[.bool v.neg, .sl (kRows .u32 v.num) false, .sl (kRows .u32 v.den) false]] none false, .arr (stRows acc) (some g) false] = some z := by
  intro m
  induction m with
  | zero =>
    intro i put acc g hi ha hg
    have h1 : ¬ (i : Int) < (L.length : Int) := by omega
    have e : L.drop i = [] := List.drop_eq_nil_of_le (by omega)
    rw [e]
    refine ⟨g, hg, fun z hz => ?_⟩
    simp only [setLoop] at hz
    refine loopAt_step ok_isochroneref11_set.good 1000 ?_
    ((repeat ((conv => lhs; whnf); simp only [go_sem, ↓reduceIte, Nat.reduceEqDiff, Nat.reduceBEq, Nat.reduceAdd, Nat.reduceMul, Nat.reduceSub, Nat.reduceLT, Nat.reduceLeDiff, reduceCtorEq, Int.reduceToNat, Int.reduceLE, Int.reduceLT, Int.reduceEq, sem_isochroneref11_set, h1])); try (conv => lhs; whnf); try rfl)
    exact hz
  | succ m ih =>
    intro i put acc g hi ha hg
    have h1 : (i : Int) < (L.length : Int) := by omega
    have h2 := wrap_succ (i := i) (n := L.length) (by omega) (by unfold maxLen; omega)
    have x1 : 0 ≤ (i : Int) ∧ (i : Int) < (L.length : Int) := ⟨by omega, h1⟩
    have e : L.drop i = L.getD i bd0 :: L.drop (i + 1) := by rw [getD_lt (by omega)]; exact List.drop_eq_getElem_cons (by omega)
    rw [e]
    simp only [setLoop]
    generalize hB : L.getD i bd0 = B
    have one : ∀ (X : List Bd) (g : Option Nat), X.length ≤ 10000 → (g = none ∨ g = some 4) → appendE Tryz.prog 0 35 35 [.arr [[.bool v.neg, .sl (kRows .u32 v.num) false, .sl (kRows .u32 v.den) false]] none false, .arr (stRows X) (some g) false, .arr [[.str B.name, .bool B.val.neg, .sl (kRows .u32 B.val.num) false, .sl (kRows .u32 B.val.den) false]] (some (some 4)) false] (.msl 1 0 X.length false) (.msl 2 0 1 true) = some { v := .msl 1 0 (X.length + 1) false, S := [.arr [[.bool v.neg, .sl (kRows .u32 v.num) false, .sl (kRows .u32 v.den) false]] none false, .arr (stRows (X ++ [B])) (some (some 4)) false, .arr [[.str B.name, .bool B.val.neg, .sl (kRows .u32 B.val.num) false, .sl (kRows .u32 B.val.den) false]] (some (some 4)) false], kill := [1] } := fun X g hX hg => app_st X B g hg (by omega) true rfl rfl (by simp only [List.map_cons, List.map_nil, killObj_flat (stRows_refs _)]; rfl)
    have new : ∀ (X : List Bd) (g : Option Nat), X.length ≤ 10000 → (g = none ∨ g = some 4) → appendE Tryz.prog 0 35 35 [.arr [[.bool v.neg, .sl (kRows .u32 v.num) false, .sl (kRows .u32 v.den) false]] none false, .arr (stRows X) (some g) false, .arr [[.str nm, .bool v.neg, .sl (kRows .u32 v.num) false, .sl (kRows .u32 v.den) false]] (some (some 4)) false] (.msl 1 0 X.length false) (.msl 2 0 1 true) = some { v := .msl 1 0 (X.length + 1) false, S := [.arr [[.bool v.neg, .sl (kRows .u32 v.num) false, .sl (kRows .u32 v.den) false]] none false, .arr (stRows (X ++ [Bd.mk nm v])) (some (some 4)) false, .arr [[.str nm, .bool v.neg, .sl (kRows .u32 v.num) false, .sl (kRows .u32 v.den) false]] (some (some 4)) false], kill := [1] } := fun X g hX hg => app_st X (Bd.mk nm v) g hg (by omega) true rfl rfl (by simp only [List.map_cons, List.map_nil, killObj_flat (stRows_refs _)]; rfl)
    have two : ∀ (X : List Bd) (g : Option Nat), X.length ≤ 10000 → (g = none ∨ g = some 4) → appendE Tryz.prog 0 35 35 [.arr [[.bool v.neg, .sl (kRows .u32 v.num) false, .sl (kRows .u32 v.den) false]] none false, .arr (stRows X) (some g) false, .arr [[.str nm, .bool v.neg, .sl (kRows .u32 v.num) false, .sl (kRows .u32 v.den) false]] (some (some 4)) false, .arr [[.str B.name, .bool B.val.neg, .sl (kRows .u32 B.val.num) false, .sl (kRows .u32 B.val.den) false]] (some (some 4)) false] (.msl 1 0 X.length false) (.msl 3 0 1 true) = some { v := .msl 1 0 (X.length + 1) false, S := [.arr [[.bool v.neg, .sl (kRows .u32 v.num) false, .sl (kRows .u32 v.den) false]] none false, .arr (stRows (X ++ [B])) (some (some 4)) false, .arr [[.str nm, .bool v.neg, .sl (kRows .u32 v.num) false, .sl (kRows .u32 v.den) false]] (some (some 4)) false, .arr [[.str B.name, .bool B.val.neg, .sl (kRows .u32 B.val.num) false, .sl (kRows .u32 B.val.den) false]] (some (some 4)) false], kill := [1] } := fun X g hX hg => app_st X B g hg (by omega) true rfl rfl (by simp only [List.map_cons, List.map_nil, killObj_flat (stRows_refs _)]; rfl)
    have gl : gtN B nm = !(Op.bytesLess B.name.toList nm.toList || B.name.toList == nm.toList) := rfl
    have el : eqN B nm = (B.name.toList == nm.toList) := rfl
    cases put
    · cases he : eqN B nm
      · cases hb : Op.bytesLess B.name.toList nm.toList
        · rw [el] at he
          rw [hb, he] at gl
          simp only [Bool.or_self, Bool.not_false] at gl
          simp only [gl, Bool.not_false, Bool.and_self, if_true, Bool.or_true, Bool.false_eq_true, if_false]
          obtain ⟨g', hg', key⟩ := ih (i + 1) true (acc ++ [Bd.mk nm v] ++ [B]) (some 4) (by omega) (by first | omega | (simp; omega)) (.inr rfl)
          refine ⟨g', hg', fun z hz => ?_⟩
          replace key := key z hz
          clear hz
          have a1 := new acc g (by omega) hg
          have a2 := two (acc ++ [Bd.mk nm v]) (some 4) (by simp; omega) (.inr rfl)
          simp only [List.length_append, List.length_singleton] at key a1 a2
          refine loopAt_step ok_isochroneref11_set.good 1000 ?_
          ((repeat ((conv => lhs; whnf); simp only [go_sem, ↓reduceIte, Nat.reduceEqDiff, Nat.reduceBEq, Nat.reduceAdd, Nat.reduceMul, Nat.reduceSub, Nat.reduceLT, Nat.reduceLeDiff, reduceCtorEq, Int.reduceToNat, Int.reduceLE, Int.reduceLT, Int.reduceEq, sem_isochroneref11_set, h1, h2, x1, Int.toNat_natCast, hB, Bd.cells, stRows_refs, hb, he, a1, a2])); try (conv => lhs; whnf); try rfl)
          exact key
        · rw [el] at he
          rw [hb, he] at gl
          simp only [Bool.or_false, Bool.not_true] at gl
          simp only [gl, Bool.not_false, Bool.and_false, Bool.false_eq_true, if_false, Bool.or_self]
          obtain ⟨g', hg', key⟩ := ih (i + 1) false (acc ++ [B]) (some 4) (by omega) (by first | omega | (simp; omega)) (.inr rfl)
          refine ⟨g', hg', fun z hz => ?_⟩
          replace key := key z hz
          clear hz
          have a1 := one acc g (by omega) hg
          simp only [List.length_append, List.length_singleton] at key a1
          refine loopAt_step ok_isochroneref11_set.good 1000 ?_
          ((repeat ((conv => lhs; whnf); simp only [go_sem, ↓reduceIte, Nat.reduceEqDiff, Nat.reduceBEq, Nat.reduceAdd, Nat.reduceMul, Nat.reduceSub, Nat.reduceLT, Nat.reduceLeDiff, reduceCtorEq, Int.reduceToNat, Int.reduceLE, Int.reduceLT, Int.reduceEq, sem_isochroneref11_set, h1, h2, x1, Int.toNat_natCast, hB, Bd.cells, stRows_refs, hb, he, a1])); try (conv => lhs; whnf); try rfl)
          exact key
      · rw [el] at he
        have hb : Op.bytesLess B.name.toList nm.toList = false := by rw [beq_iff_eq.1 he]; exact bytesLess_irrefl _
        rw [hb, he] at gl
        simp only [Bool.false_or, Bool.not_true] at gl
        simp only [gl, Bool.not_false, Bool.and_false, Bool.false_eq_true, if_false, Bool.or_self, if_true, List.append_nil]
        obtain ⟨g', hg', key⟩ := ih (i + 1) false acc g (by omega) (by first | omega | (simp; omega)) hg
        refine ⟨g', hg', fun z hz => ?_⟩
        replace key := key z hz
        clear hz
        refine loopAt_step ok_isochroneref11_set.good 1000 ?_
        ((repeat ((conv => lhs; whnf); simp only [go_sem, ↓reduceIte, Nat.reduceEqDiff, Nat.reduceBEq, Nat.reduceAdd, Nat.reduceMul, Nat.reduceSub, Nat.reduceLT, Nat.reduceLeDiff, reduceCtorEq, Int.reduceToNat, Int.reduceLE, Int.reduceLT, Int.reduceEq, sem_isochroneref11_set, h1, h2, x1, Int.toNat_natCast, hB, Bd.cells, stRows_refs, hb, he])); try (conv => lhs; whnf); try rfl)
        exact key
    · simp only [Bool.not_true, Bool.false_and, Bool.false_eq_true, if_false, Bool.true_or]
      cases he : eqN B nm
      · rw [el] at he
        simp only [Bool.false_eq_true, if_false]
        obtain ⟨g', hg', key⟩ := ih (i + 1) true (acc ++ [B]) (some 4) (by omega) (by first | omega | (simp; omega)) (.inr rfl)
        refine ⟨g', hg', fun z hz => ?_⟩
        replace key := key z hz
        clear hz
        have a1 := one acc g (by omega) hg
        simp only [List.length_append, List.length_singleton] at key a1
        refine loopAt_step ok_isochroneref11_set.good 1000 ?_
        ((repeat ((conv => lhs; whnf); simp only [go_sem, ↓reduceIte, Nat.reduceEqDiff, Nat.reduceBEq, Nat.reduceAdd, Nat.reduceMul, Nat.reduceSub, Nat.reduceLT, Nat.reduceLeDiff, reduceCtorEq, Int.reduceToNat, Int.reduceLE, Int.reduceLT, Int.reduceEq, sem_isochroneref11_set, h1, h2, x1, Int.toNat_natCast, hB, Bd.cells, stRows_refs, he, a1])); try (conv => lhs; whnf); try rfl)
        exact key
      · rw [el] at he
        simp only [if_true, List.append_nil]
        obtain ⟨g', hg', key⟩ := ih (i + 1) true acc g (by omega) (by first | omega | (simp; omega)) hg
        refine ⟨g', hg', fun z hz => ?_⟩
        replace key := key z hz
        clear hz
        refine loopAt_step ok_isochroneref11_set.good 1000 ?_
        ((repeat ((conv => lhs; whnf); simp only [go_sem, ↓reduceIte, Nat.reduceEqDiff, Nat.reduceBEq, Nat.reduceAdd, Nat.reduceMul, Nat.reduceSub, Nat.reduceLT, Nat.reduceLeDiff, reduceCtorEq, Int.reduceToNat, Int.reduceLE, Int.reduceLT, Int.reduceEq, sem_isochroneref11_set, h1, h2, x1, Int.toNat_natCast, hB, Bd.cells, stRows_refs, he])); try (conv => lhs; whnf); try rfl)
        exact key
end
end Go.Vs
end
/- States: the reference's Set, whole; that it is the program's. -/
section
set_option linter.unusedVariables false
set_option linter.unusedSimpArgs false
set_option maxRecDepth 100000
namespace Go.Vs
open Go Go.Proofs
def insR (nm : ByteArray) (v : RV) (L : List Bd) : List Bd :=
  if (setLoop nm v (decide (v.num.length = 0)) [] L).2 = true then (setLoop nm v (decide (v.num.length = 0)) [] L).1 else (setLoop nm v (decide (v.num.length = 0)) [] L).1 ++ [Bd.mk nm v]
section
attribute [local irreducible] Vs.callL Vs.callRL tyi callO callM callMV appendE storeE evLoad indexAddrO sliceO evFieldAddr evField buildO buildSliceO makeSliceO allocO boxed lenO copyE convertO indexO Vs.gc freezeAll
theorem call_set11 (L : List Bd) (nm : ByteArray) (v : RV) (hl : L.length ≤ 1000) : callL Tryz.prog hints 65 [.sl (stRows L) false, .str nm, .agg v.cells] = some (.sl (stRows (insR nm v L)) false) := by
  have hk := setLoop_len nm v L (decide (v.num.length = 0)) []
  obtain ⟨g, hg, lp⟩ := loop_set11 v nm L hl [.blk 0, .seq 0 31] L.length 0 (decide (v.num.length = 0)) [] none (by omega) (by simp; omega) (.inl rfl)
  rw [List.drop_zero] at lp
  unfold insR
  generalize hX : setLoop nm v (decide (v.num.length = 0)) [] L = X at hk lp ⊢
  obtain ⟨acc, put⟩ := X
  simp only at hk lp ⊢
  have start : (decide ((v.num.length : Int) = 0)) = decide (v.num.length = 0) := by
    by_cases h : v.num.length = 0
    · simp [h]
    · have : ¬ (v.num.length : Int) = 0 := by omega
      simp [h, this]
  cases put
  · simp only [Bool.false_eq_true, if_false]
    have ap := app_st (S := [.arr [[.bool v.neg, .sl (kRows .u32 v.num) false, .sl (kRows .u32 v.den) false]] none false, .arr (stRows acc) (some g) false, .arr [[.str nm, .bool v.neg, .sl (kRows .u32 v.num) false, .sl (kRows .u32 v.den) false]] (some (some 4)) false]) (S' := [.arr [[.bool v.neg, .sl (kRows .u32 v.num) false, .sl (kRows .u32 v.den) false]] none false, .arr (stRows (acc ++ [Bd.mk nm v])) (some (some 4)) false, .arr [[.str nm, .bool v.neg, .sl (kRows .u32 v.num) false, .sl (kRows .u32 v.den) false]] (some (some 4)) false]) (j := 2) acc (Bd.mk nm v) g hg (by simp at hk; omega) true rfl rfl (by simp only [List.map_cons, List.map_nil, killObj_flat (stRows_refs _)]; rfl)
    have eA : acc.length + 1 = (acc ++ [Bd.mk nm v]).length := by simp
    rw [eA] at ap
    refine FX.callL (r := (.msl 1 0 (acc ++ [Bd.mk nm v]).length false, [.arr [[.bool v.neg, .sl (kRows .u32 v.num) false, .sl (kRows .u32 v.den) false]] none false, .arr (stRows (acc ++ [Bd.mk nm v])) (some (some 4)) false, .arr [[.str nm, .bool v.neg, .sl (kRows .u32 v.num) false, .sl (kRows .u32 v.den) false]] (some (some 4)) false])) ok_isochroneref11_set 1000 rfl rfl ?_ (stRows_fzV rfl rfl)
    unfold RV.cells
    ((repeat ((conv => lhs; whnf); simp only [go_sem, ↓reduceIte, Nat.reduceEqDiff, Nat.reduceBEq, Nat.reduceAdd, Nat.reduceMul, Nat.reduceSub, Nat.reduceLT, Nat.reduceLeDiff, reduceCtorEq, Int.reduceToNat, Int.reduceLE, Int.reduceLT, Int.reduceEq, sem_isochroneref11_set, start])); try (conv => lhs; whnf); try rfl)
    refine lp _ ?_
    refine exit_run ok_isochroneref11_set.good 1000 ?_
    ((repeat ((conv => lhs; whnf); simp only [go_sem, ↓reduceIte, Nat.reduceEqDiff, Nat.reduceBEq, Nat.reduceAdd, Nat.reduceMul, Nat.reduceSub, Nat.reduceLT, Nat.reduceLeDiff, reduceCtorEq, Int.reduceToNat, Int.reduceLE, Int.reduceLT, Int.reduceEq, sem_isochroneref11_set, ap, stRows_refs])); try (conv => lhs; whnf); try rfl)
  · simp only [if_true]
    refine FX.callL (r := (.msl 1 0 acc.length false, [.arr [[.bool v.neg, .sl (kRows .u32 v.num) false, .sl (kRows .u32 v.den) false]] none false, .arr (stRows acc) (some g) false])) ok_isochroneref11_set 1000 rfl rfl ?_ (stRows_fzV rfl rfl)
    unfold RV.cells
    ((repeat ((conv => lhs; whnf); simp only [go_sem, ↓reduceIte, Nat.reduceEqDiff, Nat.reduceBEq, Nat.reduceAdd, Nat.reduceMul, Nat.reduceSub, Nat.reduceLT, Nat.reduceLeDiff, reduceCtorEq, Int.reduceToNat, Int.reduceLE, Int.reduceLT, Int.reduceEq, sem_isochroneref11_set, start])); try (conv => lhs; whnf); try rfl)
    refine lp _ ?_
    refine exit_run ok_isochroneref11_set.good 1000 ?_
    ((repeat ((conv => lhs; whnf); simp only [go_sem, ↓reduceIte, Nat.reduceEqDiff, Nat.reduceBEq, Nat.reduceAdd, Nat.reduceMul, Nat.reduceSub, Nat.reduceLT, Nat.reduceLeDiff, reduceCtorEq, Int.reduceToNat, Int.reduceLE, Int.reduceLT, Int.reduceEq, sem_isochroneref11_set])); try (conv => lhs; whnf); try rfl)
end
end Go.Vs
end
/- States: the reference's set is the program's, over a sorted state. -/
section
set_option linter.unusedVariables false
set_option linter.unusedSimpArgs false
set_option maxRecDepth 100000
namespace Go.Vs
open Go Go.Proofs
theorem found_cons_lt {nm : ByteArray} {b : Bd} {r : List Bd} (hb : Op.bytesLess b.name.toList nm.toList = true) : foundL nm (b :: r) = foundL nm r := by
  have e0 : posL nm (b :: r) = posL nm r + 1 := by simp [posL, hb]
  unfold foundL
  rw [e0]; simp
theorem insP_lt {nm : ByteArray} {v : RV} {b : Bd} {r : List Bd} (hb : Op.bytesLess b.name.toList nm.toList = true) : insP nm v (b :: r) = b :: insP nm v r := by
  have e0 : posL nm (b :: r) = posL nm r + 1 := by simp [posL, hb]
  unfold insP
  rw [found_cons_lt hb, e0]
  cases foundL nm r <;> simp
theorem insP_ge {nm : ByteArray} {v : RV} {b : Bd} {r : List Bd} (hb : Op.bytesLess b.name.toList nm.toList = false) : insP nm v (b :: r) = (if v.num.length = 0 then [] else [Bd.mk nm v]) ++ (if eqN b nm = true then r else b :: r) := by
  have e0 : posL nm (b :: r) = 0 := by simp [posL, hb]
  have e1 : foundL nm (b :: r) = eqN b nm := by
    unfold foundL eqN
    rw [e0]; simp
  unfold insP
  rw [e1, e0]
  cases eqN b nm <;> simp
theorem insP_nil (nm : ByteArray) (v : RV) : insP nm v [] = if v.num.length = 0 then [] else [Bd.mk nm v] := by simp [insP]
theorem setLoop_true (nm : ByteArray) (v : RV) : ∀ (M acc : List Bd), setLoop nm v true acc M = (acc ++ M.filter fun b => !eqN b nm, true)
  | [], acc => by simp [setLoop]
  | b :: r, acc => by
    simp only [setLoop, Bool.not_true, Bool.false_and, Bool.false_eq_true, if_false, Bool.true_or, setLoop_true nm v r, List.filter_cons]
    cases eqN b nm <;> simp
theorem sorted_after {nm : ByteArray} {b : Bd} {r : List Bd} (h : Sorted (b :: r)) (hb : Op.bytesLess b.name.toList nm.toList = false) : ∀ c ∈ r, before nm c.name := fun c hc => by
  unfold Sorted at h
  rw [List.pairwise_cons] at h
  have q := h.1 c hc
  rcases not_before.1 hb with e | e
  · unfold before at q ⊢; rw [← e]; exact q
  · exact e.trans q
theorem after_ne {nm : ByteArray} {c : Bd} (h : before nm c.name) : eqN c nm = false := beq_eq_false_iff_ne.2 fun e => before.ne h e.symm
theorem after_gt {nm : ByteArray} {c : Bd} (h : before nm c.name) : gtN c nm = true := by
  have e : (c.name.toList == nm.toList) = false := after_ne h
  have e2 : Op.bytesLess c.name.toList nm.toList = false := not_before.2 (.inr h)
  unfold gtN
  rw [e, e2]; rfl
theorem filter_after {nm : ByteArray} {r : List Bd} (h : ∀ c ∈ r, before nm c.name) : (r.filter fun b => !eqN b nm) = r := List.filter_eq_self.2 fun c hc => by rw [after_ne (h c hc)]; rfl
def finR (nm : ByteArray) (v : RV) (X : List Bd × Bool) : List Bd := if X.2 = true then X.1 else X.1 ++ [Bd.mk nm v]
theorem ins_zero (nm : ByteArray) (v : RV) (h0 : v.num.length = 0) : ∀ {M : List Bd}, Sorted M → (M.filter fun b => !eqN b nm) = insP nm v M
  | [], _ => by rw [insP_nil, if_pos h0]; rfl
  | b :: r, h => by
    have h' := h
    unfold Sorted at h'
    rw [List.pairwise_cons] at h'
    cases hb : Op.bytesLess b.name.toList nm.toList
    · rw [insP_ge hb, if_pos h0, List.nil_append, List.filter_cons, filter_after (sorted_after h hb)]
      cases eqN b nm <;> rfl
    · rw [insP_lt hb, ← ins_zero nm v h0 h'.2, List.filter_cons]
      have : eqN b nm = false := beq_eq_false_iff_ne.2 (before.ne hb)
      rw [this]; rfl
theorem ins_some (nm : ByteArray) (v : RV) (h0 : v.num.length ≠ 0) : ∀ {M : List Bd}, Sorted M → ∀ acc, finR nm v (setLoop nm v false acc M) = acc ++ insP nm v M
  | [], _, acc => by rw [insP_nil, if_neg h0]; rfl
  | b :: r, h, acc => by
    have h' := h
    unfold Sorted at h'
    rw [List.pairwise_cons] at h'
    simp only [setLoop, Bool.not_false, Bool.true_and, Bool.false_or]
    cases hb : Op.bytesLess b.name.toList nm.toList
    · rw [insP_ge hb, if_neg h0]
      have hr := sorted_after h hb
      cases he : eqN b nm
      · have hg : gtN b nm = true := by
          have e : (b.name.toList == nm.toList) = false := he
          unfold gtN; rw [hb, e]; rfl
        simp only [hg, if_true, Bool.false_eq_true, if_false, setLoop_true, finR, filter_after hr]
        simp
      · have hg : gtN b nm = false := by
          have e : (b.name.toList == nm.toList) = true := he
          unfold gtN; rw [e, Bool.or_true]; rfl
        simp only [hg, Bool.false_eq_true, if_false, if_true, List.append_nil]
        cases r with
        | nil => simp [setLoop, finR]
        | cons c t =>
          have hc := hr c (by simp)
          have ht := filter_after (r := t) (nm := nm) (fun d hd => hr d (List.mem_cons_of_mem _ hd))
          simp only [setLoop, after_gt hc, after_ne hc, Bool.not_false, Bool.and_self, if_true, Bool.or_true, Bool.false_eq_true, if_false, setLoop_true, finR, ht]
          simp
    · have he : eqN b nm = false := beq_eq_false_iff_ne.2 (before.ne hb)
      have hg : gtN b nm = false := by unfold gtN; rw [hb]; rfl
      simp only [hg, he, Bool.false_eq_true, if_false]
      rw [ins_some nm v h0 h'.2 (acc ++ [b]), insP_lt hb]
      simp
theorem insR_eq (nm : ByteArray) (v : RV) {L : List Bd} (h : Sorted L) : insR nm v L = insP nm v L := by
  have e : insR nm v L = finR nm v (setLoop nm v (decide (v.num.length = 0)) [] L) := rfl
  rw [e]
  by_cases h0 : v.num.length = 0
  · rw [decide_eq_true h0, setLoop_true, ← ins_zero nm v h0 h]
    simp [finR]
  · rw [decide_eq_false h0, ins_some nm v h0 h]
    rfl
theorem st_tup {S : Store} (L : List Bd) (c : Int) : fzPV S (.tup [.sl (stRows L) false, .int .i64 c]) = some (.tup [.sl (stRows L) false, .int .i64 c]) := by
  have e : fzPV1 S (.sl (stRows L) false) = some (.sl (stRows L) false) := (st_plain L).2 S
  show (mapO (fzPV1 S) [.sl (stRows L) false, .int .i64 c]).map PV.tup = _
  simp only [mapO, e, Option.bind_some]
  rfl
section
attribute [local irreducible] Vs.callL Vs.callRL tyi callO callM callMV appendE storeE evLoad indexAddrO sliceO evFieldAddr evField buildO buildSliceO makeSliceO allocO boxed lenO copyE convertO indexO Vs.gc freezeAll
noncomputable def fx_isochroneref11_Set : FX := ⟨Tryz.f23, hints.of 23, []⟩
theorem ok_isochroneref11_Set : fx_isochroneref11_Set.ok 23 := ⟨by kernel_rfl, of_decide_eq_true (by kernel_rfl), by kernel_rfl, by kernel_rfl, by kernel_rfl, by kernel_rfl⟩
theorem sem_isochroneref11_Set (b0 : Nat) (m : Md) (fs : List Fr) (e : Env) (S : Store) : sem b0 fx_isochroneref11_Set m fs e S = run b0 fx_isochroneref11_Set 1000 m fs e S := (sem_eq _ _ _ _ _ _).trans (run_sem b0 fx_isochroneref11_Set ok_isochroneref11_Set.good 1000 m fs e S).symm
theorem call_Set11 (L : List Bd) (nm : ByteArray) (v : RV) (hL : StOk L) (hl : L.length ≤ maxLen) (hn : nm.size ≤ maxLen) (hv : v.ok) : callL Tryz.prog hints 23 [.sl (stRows L) false, .str nm, .agg v.cells] = some (setR L nm v) := by
  have cv := fun S => Valid11_o S L hL hl
  have cn := fun S => Var_o S nm hn
  have cf := fun S => small11_o S v hv
  unfold RV.cells at cf
  unfold setR setOK
  cases k1 : stOK L
  · rw [k1] at cv
    simp only [Bool.false_and, Bool.false_eq_true, if_false]
    refine FX.callL (r := (.tup [.sl [] true, .int .i64 3], [.arr [v.cells] none false])) ok_isochroneref11_Set 1000 rfl rfl ?_ rfl
    unfold RV.cells
    ((repeat ((conv => lhs; whnf); simp only [go_sem, ↓reduceIte, Nat.reduceEqDiff, Nat.reduceBEq, Nat.reduceAdd, Nat.reduceMul, Nat.reduceSub, Nat.reduceLT, Nat.reduceLeDiff, reduceCtorEq, Int.reduceToNat, Int.reduceLE, Int.reduceLT, Int.reduceEq, sem_isochroneref11_Set, cv])); try (conv => lhs; whnf); try rfl)
  · rw [k1] at cv
    cases k2 : varOK nm
    · rw [k2] at cn
      simp only [Bool.and_false, Bool.false_and, Bool.false_eq_true, if_false]
      refine FX.callL (r := (.tup [.sl [] true, .int .i64 3], [.arr [v.cells] none false])) ok_isochroneref11_Set 1000 rfl rfl ?_ rfl
      unfold RV.cells
      ((repeat ((conv => lhs; whnf); simp only [go_sem, ↓reduceIte, Nat.reduceEqDiff, Nat.reduceBEq, Nat.reduceAdd, Nat.reduceMul, Nat.reduceSub, Nat.reduceLT, Nat.reduceLeDiff, reduceCtorEq, Int.reduceToNat, Int.reduceLE, Int.reduceLT, Int.reduceEq, sem_isochroneref11_Set, cv, cn])); try (conv => lhs; whnf); try rfl)
    · rw [k2] at cn
      cases k3 : v.fit
      · rw [k3] at cf
        simp only [Bool.and_false, Bool.false_eq_true, if_false]
        refine FX.callL (r := (.tup [.sl [] true, .int .i64 3], [.arr [v.cells] none false])) ok_isochroneref11_Set 1000 rfl rfl ?_ rfl
        unfold RV.cells
        ((repeat ((conv => lhs; whnf); simp only [go_sem, ↓reduceIte, Nat.reduceEqDiff, Nat.reduceBEq, Nat.reduceAdd, Nat.reduceMul, Nat.reduceSub, Nat.reduceLT, Nat.reduceLeDiff, reduceCtorEq, Int.reduceToNat, Int.reduceLE, Int.reduceLT, Int.reduceEq, sem_isochroneref11_Set, cv, cn, cf])); try (conv => lhs; whnf); try rfl)
      · rw [k3] at cf
        simp only [Bool.and_self, if_true]
        obtain ⟨h40, hg, hs⟩ := stOK_iff.1 k1
        have cs := fun S => callO_plain (S := S) (call_set11 L nm v (by omega)) (by simp [Plain.str]; exact ⟨st_plain L, rv_plain v⟩)
        rw [insR_eq nm v hs] at cs
        unfold RV.cells at cs
        by_cases c4 : (insP nm v L).length ≤ 40
        · have c4' : ¬ (40 : Int) < ((insP nm v L).length : Int) := by omega
          rw [if_pos c4]
          refine FX.callL (r := (.tup [.sl (stRows (insP nm v L)) false, .int .i64 0], [.arr [v.cells] none false])) ok_isochroneref11_Set 1000 rfl rfl ?_ (st_tup _ _)
          unfold RV.cells
          ((repeat ((conv => lhs; whnf); simp only [go_sem, ↓reduceIte, Nat.reduceEqDiff, Nat.reduceBEq, Nat.reduceAdd, Nat.reduceMul, Nat.reduceSub, Nat.reduceLT, Nat.reduceLeDiff, reduceCtorEq, Int.reduceToNat, Int.reduceLE, Int.reduceLT, Int.reduceEq, sem_isochroneref11_Set, cv, cn, cf, cs, c4'])); try (conv => lhs; whnf); try rfl)
        · have c4' : (40 : Int) < ((insP nm v L).length : Int) := by omega
          rw [if_neg c4]
          refine FX.callL (r := (.tup [.sl [] true, .int .i64 2], [.arr [v.cells] none false])) ok_isochroneref11_Set 1000 rfl rfl ?_ rfl
          unfold RV.cells
          ((repeat ((conv => lhs; whnf); simp only [go_sem, ↓reduceIte, Nat.reduceEqDiff, Nat.reduceBEq, Nat.reduceAdd, Nat.reduceMul, Nat.reduceSub, Nat.reduceLT, Nat.reduceLeDiff, reduceCtorEq, Int.reduceToNat, Int.reduceLE, Int.reduceLT, Int.reduceEq, sem_isochroneref11_Set, cv, cn, cf, cs, c4'])); try (conv => lhs; whnf); try rfl)
end
end Go.Vs
end

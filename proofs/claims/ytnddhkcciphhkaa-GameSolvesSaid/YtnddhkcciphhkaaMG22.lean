/- game.Strategy: the move that it takes. -/

import Derived.Test.YtnddhkcciphhkaaMG9
import Derived.Test.YtnddhkcciphhkaaMG20
import Derived.Test.YtnddhkcciphhkaaMG21
section
set_option linter.unusedVariables false
set_option linter.unusedSimpArgs false
namespace Go.Vs
open Go Go.Proofs
/-- Is the move to m one of the strategy? -/
def okM (p ri rm : Int) : Bool := (decide (p = 0) && decide (rm = ri - 1)) || (decide (p = 1) && decide (rm < 0))
/-- The first such move, -1 if there is none. -/
def pickM (p ri : Int) (R : List Int) : List Int → Int
  | [] => -1
  | m :: l => if okM p ri (R.getD m.toNat 0) = true then m else pickM p ri R l
theorem loop24_2 (g : Game) (p ri : Int) (R : List Int) (hri : -1000000000 ≤ ri ∧ ri ≤ 1000000000) (v : PV) (i : Nat) (hiR : i < R.length) (hr : R.getD i 0 = ri) (l : List Int) (hl : l.length ≤ 4000) (hx : ∀ x ∈ l, ∃ j : Nat, j < R.length ∧ x = j) (nn : Int) (S : Store) {z : PV × Store} : ∀ (m k : Nat), k + m = l.length →
    F24.k44 0 1 .normal (F24.ee8 (.int .i64 p) (.mp 0 0 0) (.sl (intRows R) false) v .undef (.int .i64 (pickM p ri R (l.drop k))) (.int .i64 nn) (.int .i64 i) .undef .undef .undef .undef .undef) S = some z →
    F24.L2 0 1 S.length (.int .i64 p) (.mp 0 0 0) (.sl (intRows R) false) v (.int .i64 i) (.int .i64 (-1)) (.int .i64 nn) (.int .i64 i) (.sl (intRows l) false) (.int .i64 l.length) (.int .i64 k) S = some z := by
  have hm4 : (4000 : Nat) ≤ maxLen := by decide
  intro m
  induction m with
  | zero =>
    intro k hk hz
    have c1 : ¬ (k : Int) < (l.length : Int) := by omega
    rw [List.drop_of_length_le (by omega), pickM] at hz
    refine F24.L2_step ?_
    have s1 : ∀ (K : KT), execL (F24.C 0) 2 F24.c61 K (F24.ee9 (.int .i64 p) (.mp 0 0 0) (.sl (intRows R) false) v (.int .i64 i) (.int .i64 (-1)) (.int .i64 nn) (.int .i64 i) (.sl (intRows l) false) (.int .i64 l.length) (.int .i64 k)) S = K .normal (F24.ee8 (.int .i64 p) (.mp 0 0 0) (.sl (intRows R) false) v (.int .i64 i) (.int .i64 (-1)) (.int .i64 nn) (.int .i64 i) .undef (.sl (intRows l) false) (.int .i64 l.length) (.int .i64 k) (.bool false)) S := fun K => by
      simp only [go_sem, ↓reduceIte, Nat.reduceEqDiff, Nat.reduceBEq, Nat.reduceAdd, Nat.reduceMul, Nat.reduceSub, Nat.reduceLT, Nat.reduceLeDiff, reduceCtorEq, Int.reduceToNat, Int.reduceLE, Int.reduceLT, Int.reduceEq, c1]
    simp only [F24.B2_eq, s1, F24.k87_n, condC_false, F24.k69_exit, F24.k60_x1, gc_full, F24.k57_exit, if_true]
    exact hz
  | succ m hm =>
    intro k hk hz
    have c1 : (k : Int) < (l.length : Int) := by omega
    have hkl : k < l.length := by omega
    have w1 := wrap_succ (i := k) (n := l.length) hkl (by omega)
    have h5 : 0 ≤ (k : Int) ∧ (k : Int) < (l.length : Int) := ⟨by omega, c1⟩
    obtain ⟨j, hj, ej⟩ := hx (l.getD k 0) (by simp [List.getD_eq_getElem?_getD, hkl])
    have ed : l.drop k = (j : Int) :: l.drop (k + 1) := by
      rw [List.drop_eq_getElem_cons hkl]
      simp only [List.getD_eq_getElem?_getD, List.getElem?_eq_getElem hkl, Option.getD_some] at ej
      rw [ej]
    rw [ed, pickM, Int.toNat_natCast] at hz
    have w2 := wrap_dec hri.1 hri.2
    have h6 : 0 ≤ (j : Int) ∧ (j : Int) < (R.length : Int) := ⟨by omega, by omega⟩
    have h7 : 0 ≤ (i : Int) ∧ (i : Int) < (R.length : Int) := ⟨by omega, by omega⟩
    have s1 : ∀ (K : KT), execL (F24.C 0) 2 F24.c61 K (F24.ee9 (.int .i64 p) (.mp 0 0 0) (.sl (intRows R) false) v (.int .i64 i) (.int .i64 (-1)) (.int .i64 nn) (.int .i64 i) (.sl (intRows l) false) (.int .i64 l.length) (.int .i64 k)) S = K .normal (F24.ee8 (.int .i64 p) (.mp 0 0 0) (.sl (intRows R) false) v (.int .i64 i) (.int .i64 (-1)) (.int .i64 nn) (.int .i64 i) .undef (.sl (intRows l) false) (.int .i64 l.length) (.int .i64 k) (.bool true)) S := fun K => by
      simp only [go_sem, ↓reduceIte, Nat.reduceEqDiff, Nat.reduceBEq, Nat.reduceAdd, Nat.reduceMul, Nat.reduceSub, Nat.reduceLT, Nat.reduceLeDiff, reduceCtorEq, Int.reduceToNat, Int.reduceLE, Int.reduceLT, Int.reduceEq, c1]
    have s2 : ∀ (K : KT), execL (F24.C 0) 3 F24.c72 K (F24.ee8 (.int .i64 p) (.mp 0 0 0) (.sl (intRows R) false) v (.int .i64 i) (.int .i64 (-1)) (.int .i64 nn) (.int .i64 i) .undef (.sl (intRows l) false) (.int .i64 l.length) (.int .i64 k) (.bool true)) S = K .normal (F24.ee5 (.int .i64 p) (.mp 0 0 0) (.sl (intRows R) false) v (.int .i64 i) (.int .i64 (-1)) (.int .i64 j) (.int .i64 nn) (.int .i64 i) (.sl (intRows l) false) (.int .i64 l.length) (.int .i64 k)) S := fun K => by
      simp only [go_sem, ↓reduceIte, Nat.reduceEqDiff, Nat.reduceBEq, Nat.reduceAdd, Nat.reduceMul, Nat.reduceSub, Nat.reduceLT, Nat.reduceLeDiff, reduceCtorEq, Int.reduceToNat, Int.reduceLE, Int.reduceLT, Int.reduceEq, withV_any, h5, Int.toNat_natCast, ej]
    have s3 : ∀ (K : KT), execL (F24.C 0) 3 F24.c74 K (F24.ee5 (.int .i64 p) (.mp 0 0 0) (.sl (intRows R) false) v (.int .i64 i) (.int .i64 (-1)) (.int .i64 j) (.int .i64 nn) (.int .i64 i) (.sl (intRows l) false) (.int .i64 l.length) (.int .i64 k)) S = K .normal (F24.ee6 (.int .i64 p) (.mp 0 0 0) (.sl (intRows R) false) v (.int .i64 i) (.int .i64 (-1)) (.int .i64 j) (.int .i64 nn) (.int .i64 i) (.sl (intRows l) false) (.int .i64 l.length) (.int .i64 k) (.bool (okM p ri (R.getD j 0)))) S := fun K => by
      by_cases a0 : p = 0
      · subst a0
        by_cases b : R.getD j 0 = ri - 1
        · have e : okM 0 ri (R.getD j 0) = true := by simp only [okM, b, decide_true, Bool.and_self, Bool.true_or]
          rw [e]
          simp only [go_sem, ↓reduceIte, Nat.reduceEqDiff, Nat.reduceBEq, Nat.reduceAdd, Nat.reduceMul, Nat.reduceSub, Nat.reduceLT, Nat.reduceLeDiff, reduceCtorEq, Int.reduceToNat, Int.reduceLE, Int.reduceLT, Int.reduceEq, withV_any, h6, h7, Int.toNat_natCast, hr, w2, b, decide_true]
        · have e : okM 0 ri (R.getD j 0) = false := by simp only [okM, b, decide_false, Bool.and_false, show ¬ (0 : Int) = 1 by decide, Bool.false_and, Bool.or_self]
          rw [e]
          simp only [go_sem, ↓reduceIte, Nat.reduceEqDiff, Nat.reduceBEq, Nat.reduceAdd, Nat.reduceMul, Nat.reduceSub, Nat.reduceLT, Nat.reduceLeDiff, reduceCtorEq, Int.reduceToNat, Int.reduceLE, Int.reduceLT, Int.reduceEq, withV_any, h6, h7, Int.toNat_natCast, hr, w2, b, decide_false]
      · by_cases a1 : p = 1
        · subst a1
          by_cases b : R.getD j 0 < 0
          · have e : okM 1 ri (R.getD j 0) = true := by simp only [okM, b, decide_true, Bool.and_self, Bool.or_true]
            rw [e]
            simp only [go_sem, ↓reduceIte, Nat.reduceEqDiff, Nat.reduceBEq, Nat.reduceAdd, Nat.reduceMul, Nat.reduceSub, Nat.reduceLT, Nat.reduceLeDiff, reduceCtorEq, Int.reduceToNat, Int.reduceLE, Int.reduceLT, Int.reduceEq, withV_any, h6, h7, Int.toNat_natCast, b, decide_true]
          · have e : okM 1 ri (R.getD j 0) = false := by simp only [okM, b, decide_false, Bool.and_false, show ¬ (1 : Int) = 0 by decide, Bool.false_and, Bool.or_self]
            rw [e]
            simp only [go_sem, ↓reduceIte, Nat.reduceEqDiff, Nat.reduceBEq, Nat.reduceAdd, Nat.reduceMul, Nat.reduceSub, Nat.reduceLT, Nat.reduceLeDiff, reduceCtorEq, Int.reduceToNat, Int.reduceLE, Int.reduceLT, Int.reduceEq, withV_any, h6, h7, Int.toNat_natCast, b, decide_false]
        · have e : okM p ri (R.getD j 0) = false := by simp [okM, a0, a1]
          rw [e]
          simp only [go_sem, ↓reduceIte, Nat.reduceEqDiff, Nat.reduceBEq, Nat.reduceAdd, Nat.reduceMul, Nat.reduceSub, Nat.reduceLT, Nat.reduceLeDiff, reduceCtorEq, Int.reduceToNat, Int.reduceLE, Int.reduceLT, Int.reduceEq, withV_any, a0, a1]
    have s9 : ∀ (K : KT) (x : PV), execL (F24.C 0) 2 F24.c66 K (F24.ee6 (.int .i64 p) (.mp 0 0 0) (.sl (intRows R) false) v (.int .i64 i) (.int .i64 (-1)) (.int .i64 j) (.int .i64 nn) (.int .i64 i) (.sl (intRows l) false) (.int .i64 l.length) (.int .i64 k) x) S = K .normal (F24.ee9 (.int .i64 p) (.mp 0 0 0) (.sl (intRows R) false) v (.int .i64 i) (.int .i64 (-1)) (.int .i64 nn) (.int .i64 i) (.sl (intRows l) false) (.int .i64 l.length) (.int .i64 (k + 1 : Nat))) S := fun K x => by
      simp only [go_sem, ↓reduceIte, Nat.reduceEqDiff, Nat.reduceBEq, Nat.reduceAdd, Nat.reduceMul, Nat.reduceSub, Nat.reduceLT, Nat.reduceLeDiff, reduceCtorEq, Int.reduceToNat, Int.reduceLE, Int.reduceLT, Int.reduceEq, withV_any, w1]
    refine F24.L2_step ?_
    cases hb : okM p ri (R.getD j 0) with
    | true =>
      rw [hb, if_pos rfl] at hz
      rw [hb] at s3
      have s4 : ∀ (K : KT), execL (F24.C 0) 3 F24.c80 K (F24.ee6 (.int .i64 p) (.mp 0 0 0) (.sl (intRows R) false) v (.int .i64 i) (.int .i64 (-1)) (.int .i64 j) (.int .i64 nn) (.int .i64 i) (.sl (intRows l) false) (.int .i64 l.length) (.int .i64 k) (.bool true)) S = K .normal (F24.ee8 (.int .i64 p) (.mp 0 0 0) (.sl (intRows R) false) v (.int .i64 i) (.int .i64 j) (.int .i64 nn) (.int .i64 i) .undef (.sl (intRows l) false) (.int .i64 l.length) (.int .i64 k) .undef) S := fun K => by
        simp only [F24.g83, withV_any]
      have ne3 : ¬ (2 : Nat) = 3 := by decide
      simp only [F24.B2_eq, s1, F24.k87_n, condC_true, F24.k69_n, s2, F24.k84_n, s3, F24.k76_n, s4, F24.k82_n, F24.k71_exit, ne3, if_false, F24.k67_exit, F24.k60_x1, gc_full, F24.k57_exit, if_true]
      exact hz
    | false =>
      rw [hb, if_neg (by simp)] at hz
      rw [hb] at s3
      simp only [F24.B2_eq, s1, F24.k87_n, condC_true, F24.k69_n, s2, F24.k84_n, s3, F24.k76_n, condC_false, F24.k71_n, F24.k67_n, s9, F24.k60_n, gc_full]
      exact hm (k + 1) (by omega) hz
end Go.Vs
end
/- game.Strategy: its loop. -/
section
set_option linter.unusedVariables false
set_option linter.unusedSimpArgs false
namespace Go.Vs
open Go Go.Proofs
/-- Has the player's strategy a move here? -/
def takeB (p ow ri : Int) : Bool := decide (ow = p) && ((decide (0 < ri) && decide (p = 0)) || (decide (ri < 0) && decide (p = 1)))
def stratAt (g : Game) (p : Int) (R : List Int) (i : Nat) : Int := if takeB p (g.owner.getD i 0) (R.getD i 0) = true then pickM p (R.getD i 0) R (g.moves.getD i []) else -1
theorem loop24_0 (g : Game) (hg : g.good) (p : Int) (R : List Int) (hR : R.length = g.owner.length) (hri : ∀ i, -1000000000 ≤ R.getD i 0 ∧ R.getD i 0 ≤ 1000000000) : ∀ (m i : Nat), i + m = g.owner.length → ∀ (S : Store) (v : PV) (L : List Int), S[0]? = some (.arr [g.cells] none false) → IntO S v L → (∀ r ∈ v.refs, 1 ≤ r) → L.length + m ≤ 2000000 →
    ∃ v' S', F24.L0 0 1 (.int .i64 p) (.mp 0 0 0) (.sl (intRows R) false) v (.int .i64 g.owner.length) (.int .i64 i) S = some (.tup [v', .int .i64 0], S') ∧ IntO S' v' (L ++ (List.range' i m).map (stratAt g p R)) := by
  have hN := hg.n
  have hm4 : (4000 : Nat) ≤ maxLen := by decide
  have gcO : ∀ (e : Env) (S : Store) (v : PV) (L : List Int), (∃ t, (t, v) ∈ e) → IntO S v L → (∀ r ∈ v.refs, 1 ≤ r) → IntO (Vs.gc 1 e S) v L := fun e S v L he h hv => by
    cases h with
    | nil => exact .nil
    | arr id L g hg h =>
      obtain ⟨t, ht⟩ := he
      rw [gc_no ht (r := id) (by simp [PV.refs]) (hv id (by simp [PV.refs]))]
      exact .arr id L g hg h
  intro m
  induction m with
  | zero =>
    intro i hi S v L h0 h hv hL
    have c1 : ¬ (i : Int) < (g.owner.length : Int) := by omega
    rw [List.range'_zero, List.map_nil, List.append_nil]
    refine ⟨v, Vs.gc 1 (F24.ee12 .undef .undef .undef v .undef .undef .undef) S, F24.L0_step ?_, gcO _ S v L ⟨8, by simp [F24.ee12]⟩ h hv⟩
    have s1 : ∀ (K : KT), execL (F24.C 0) 0 F24.c27 K (F24.ee11 (.int .i64 p) (.mp 0 0 0) (.sl (intRows R) false) v (.int .i64 g.owner.length) (.int .i64 i)) S = K .normal (F24.ee12 (.int .i64 p) (.mp 0 0 0) (.sl (intRows R) false) v (.int .i64 g.owner.length) (.int .i64 i) (.bool false)) S := fun K => by
      simp only [go_sem, ↓reduceIte, Nat.reduceEqDiff, Nat.reduceBEq, Nat.reduceAdd, Nat.reduceMul, Nat.reduceSub, Nat.reduceLT, Nat.reduceLeDiff, reduceCtorEq, Int.reduceToNat, Int.reduceLE, Int.reduceLT, Int.reduceEq, c1]
    simp only [F24.B0_eq, s1, F24.k97_n, condC_false, F24.k35_exit, F24.k26_x1, F24.k23_exit, if_true, F24.k16_n, F24.g17, withV_any, F24.k15_n, F24.k0_ret14]
  | succ m hm =>
    intro i hi S v L h0 h hv hL
    have c1 : (i : Int) < (g.owner.length : Int) := by omega
    have hiN : i < g.owner.length := by omega
    have w1 := wrap_succ (i := i) (n := g.owner.length) hiN (by omega)
    have h5 : 0 ≤ (i : Int) ∧ (i : Int) < (g.owner.length : Int) := ⟨by omega, c1⟩
    have h6 : 0 ≤ (i : Int) ∧ (i : Int) < (R.length : Int) := ⟨by omega, by omega⟩
    have h4 : 0 ≤ (i : Int) ∧ (i : Int) < (g.moves.length : Int) := ⟨by omega, by rw [hg.m]; exact c1⟩
    have r0 := rowsAt_of h0
    have hSl := (List.getElem?_eq_some_iff.1 h0).1
    -- the append
    have hO1 : IntO (S ++ [.arr [[.int .i64 (stratAt g p R i)]] (some (some 1)) false]) v L := h.same fun r hr => by rw [List.getElem?_append_left (h.lt r hr)]
    obtain ⟨v1, S1, ks, a1, a2, a3, a4, a5, a6⟩ := appendInt (b := 0) hO1 (y := .msl S.length 0 1 true) (l := [stratAt g p R i]) (.msl S.length [stratAt g p R i] true (some (some 1)) false (by simp [intRows])) (by simp) (by simp only [List.length_cons, List.length_nil]; omega)
    have h01 : S1[0]? = some (.arr [g.cells] none false) := by
      rw [a6 0 (by simp) (fun hx => by have := hv 0 hx; omega), List.getElem?_append_left hSl, h0]
      simp only [Option.map_some, killObj_arr]
      rw [killRows_id (fun r hr => by
        simp only [rowsRefs_cons, rowsRefs_nil, Game.refs, List.append_nil] at hr
        cases hr)]
    have hv1 : ∀ r ∈ v1.refs, 1 ≤ r := fun r hr => by
      rcases a5 r hr with hx | hx
      · exact hv r hx
      · simp only [List.length_append, List.length_cons, List.length_nil] at hx; omega
    have hex : ∃ r, r ∈ v1.refs := by
      cases hh : v1 with
      | msl id o n ex => exact ⟨id, by simp [PV.refs]⟩
      | _ =>
        rw [hh] at a2
        generalize eL : L ++ [stratAt g p R i] = L1 at a2
        cases a2
        all_goals (simp at eL)
    obtain ⟨r1, hr1⟩ := hex
    have e1 : Vs.gc 1 (F24.ee11 (.int .i64 p) (.mp 0 0 0) (.sl (intRows R) false) v1 (.int .i64 g.owner.length) (.int .i64 (i + 1 : Nat))) S1 = S1 := gc_no (t := 8) (v := v1) (by simp [F24.ee11]) hr1 (hv1 r1 hr1)
    obtain ⟨v', S', q1, q2⟩ := hm (i + 1) (by omega) S1 v1 (L ++ [stratAt g p R i]) h01 a2 hv1 (by simp only [List.length_append, List.length_cons, List.length_nil]; omega)
    refine ⟨v', S', F24.L0_step ?_, by rw [List.range'_succ, List.map_cons]; simpa using q2⟩
    have ki : ∀ z : Int, kill1 ks (.int .i64 z) = .int .i64 z := fun z => rfl
    have kl : kill1 ks (.sl (intRows R) false) = .sl (intRows R) false := rfl
    have km : kill1 ks (.mp 0 0 0) = .mp 0 0 0 := kill1_id fun r hr hx => by
      simp only [PV.refs, List.mem_singleton] at hr
      subst hr
      have := hv 0 (a4 0 hx)
      omega
    have s1 : ∀ (K : KT), execL (F24.C 0) 0 F24.c27 K (F24.ee11 (.int .i64 p) (.mp 0 0 0) (.sl (intRows R) false) v (.int .i64 g.owner.length) (.int .i64 i)) S = K .normal (F24.ee12 (.int .i64 p) (.mp 0 0 0) (.sl (intRows R) false) v (.int .i64 g.owner.length) (.int .i64 i) (.bool true)) S := fun K => by
      simp only [go_sem, ↓reduceIte, Nat.reduceEqDiff, Nat.reduceBEq, Nat.reduceAdd, Nat.reduceMul, Nat.reduceSub, Nat.reduceLT, Nat.reduceLeDiff, reduceCtorEq, Int.reduceToNat, Int.reduceLE, Int.reduceLT, Int.reduceEq, c1]
    have s2 : ∀ (K : KT), execL (F24.C 0) 1 F24.c38 K (F24.ee12 (.int .i64 p) (.mp 0 0 0) (.sl (intRows R) false) v (.int .i64 g.owner.length) (.int .i64 i) (.bool true)) S = K .normal (F24.ee10 (.int .i64 p) (.mp 0 0 0) (.sl (intRows R) false) v (.int .i64 i) (.int .i64 g.owner.length) (.int .i64 i)) S := fun K => by
      simp only [go_sem, ↓reduceIte, Nat.reduceEqDiff, Nat.reduceBEq, Nat.reduceAdd, Nat.reduceMul, Nat.reduceSub, Nat.reduceLT, Nat.reduceLeDiff, reduceCtorEq, Int.reduceToNat, Int.reduceLE, Int.reduceLT, Int.reduceEq, withV_any]
    have s3 : ∀ (K : KT), execL (F24.C 0) 1 F24.c47 K (F24.ee7 (.int .i64 p) (.mp 0 0 0) (.sl (intRows R) false) v (.int .i64 i) (.int .i64 (-1)) (.int .i64 g.owner.length) (.int .i64 i)) S = K .normal (F24.ee8 (.int .i64 p) (.mp 0 0 0) (.sl (intRows R) false) v (.int .i64 i) (.int .i64 (-1)) (.int .i64 g.owner.length) (.int .i64 i) (.bool (takeB p (g.owner.getD i 0) (R.getD i 0))) .undef .undef .undef .undef) S := fun K => by
      by_cases b0 : g.owner.getD i 0 = p
      · by_cases b1 : 0 < R.getD i 0 <;> by_cases b2 : p = 0 <;> by_cases b3 : R.getD i 0 < 0 <;> by_cases b4 : p = 1 <;> simp only [takeB, go_sem, ↓reduceIte, Nat.reduceEqDiff, Nat.reduceBEq, Nat.reduceAdd, Nat.reduceMul, Nat.reduceSub, Nat.reduceLT, Nat.reduceLeDiff, reduceCtorEq, Int.reduceToNat, Int.reduceLE, Int.reduceLT, Int.reduceEq, withV_any, r0, h5, h6, Int.toNat_natCast, b0, b1, b2, b3, b4, decide_true, decide_false, Bool.and_self, Bool.and_false, Bool.false_and, Bool.or_self, Bool.or_false, Bool.or_true, Bool.true_or, Bool.false_or, Bool.true_and]
      · simp only [takeB, go_sem, ↓reduceIte, Nat.reduceEqDiff, Nat.reduceBEq, Nat.reduceAdd, Nat.reduceMul, Nat.reduceSub, Nat.reduceLT, Nat.reduceLeDiff, reduceCtorEq, Int.reduceToNat, Int.reduceLE, Int.reduceLT, Int.reduceEq, withV_any, r0, h5, h6, Int.toNat_natCast, b0, decide_false, Bool.false_and]
    have s5 : ∀ (K : KT) (x9 x60 x65 x66 x67 x68 : PV), execL (F24.C 0) 1 F24.c43 K (F24.ee8 (.int .i64 p) (.mp 0 0 0) (.sl (intRows R) false) v x9 (.int .i64 (stratAt g p R i)) (.int .i64 g.owner.length) (.int .i64 i) x60 x65 x66 x67 x68) S = K .normal (F24.ee11 (.int .i64 p) (.mp 0 0 0) (.sl (intRows R) false) v1 (.int .i64 g.owner.length) (.int .i64 i)) S1 := fun K x9 x60 x65 x66 x67 x68 => by
      simp only [go_sem, ↓reduceIte, Nat.reduceEqDiff, Nat.reduceBEq, Nat.reduceAdd, Nat.reduceMul, Nat.reduceSub, Nat.reduceLT, Nat.reduceLeDiff, reduceCtorEq, Int.reduceToNat, Int.reduceLE, Int.reduceLT, Int.reduceEq, withV_any, a1, get_put, get_killE, ki, kl, km]
    have s6 : ∀ (K : KT), execL (F24.C 0) 0 F24.c32 K (F24.ee11 (.int .i64 p) (.mp 0 0 0) (.sl (intRows R) false) v1 (.int .i64 g.owner.length) (.int .i64 i)) S1 = K .normal (F24.ee11 (.int .i64 p) (.mp 0 0 0) (.sl (intRows R) false) v1 (.int .i64 g.owner.length) (.int .i64 (i + 1 : Nat))) S1 := fun K => by
      simp only [go_sem, ↓reduceIte, Nat.reduceEqDiff, Nat.reduceBEq, Nat.reduceAdd, Nat.reduceMul, Nat.reduceSub, Nat.reduceLT, Nat.reduceLeDiff, reduceCtorEq, Int.reduceToNat, Int.reduceLE, Int.reduceLT, Int.reduceEq, withV_any, w1]
    have rest : ∀ x9 x60 x65 x66 x67 x68 : PV, F24.k44 0 1 .normal (F24.ee8 (.int .i64 p) (.mp 0 0 0) (.sl (intRows R) false) v x9 (.int .i64 (stratAt g p R i)) (.int .i64 g.owner.length) (.int .i64 i) x60 x65 x66 x67 x68) S = some (.tup [v', .int .i64 0], S') := fun x9 x60 x65 x66 x67 x68 => by
      simp only [F24.k44_n, s5, F24.k37_n, F24.k33_n, s6, F24.k26_n, e1]
      exact q1
    cases ht : takeB p (g.owner.getD i 0) (R.getD i 0) with
    | false =>
      rw [ht] at s3
      have es : stratAt g p R i = -1 := by unfold stratAt; rw [ht]; rfl
      have := rest (.int .i64 i) (.bool false) .undef .undef .undef .undef
      rw [es] at this
      simp only [F24.B0_eq, s1, F24.k97_n, condC_true, F24.k35_n, s2, F24.k94_n, F24.g95, withV_any, F24.k46_n, s3, F24.k49_n, condC_false]
      exact this
    | true =>
      rw [ht] at s3
      have es : stratAt g p R i = pickM p (R.getD i 0) R (g.moves.getD i []) := by unfold stratAt; rw [ht, if_pos rfl]
      have s4 : ∀ (K : KT), execL (F24.C 0) 1 F24.c53 K (F24.ee8 (.int .i64 p) (.mp 0 0 0) (.sl (intRows R) false) v (.int .i64 i) (.int .i64 (-1)) (.int .i64 g.owner.length) (.int .i64 i) (.bool true) .undef .undef .undef .undef) S = K .normal (F24.ee9 (.int .i64 p) (.mp 0 0 0) (.sl (intRows R) false) v (.int .i64 i) (.int .i64 (-1)) (.int .i64 g.owner.length) (.int .i64 i) (.sl (intRows (g.moves.getD i [])) false) (.int .i64 (g.moves.getD i []).length) (.int .i64 (0 : Nat))) S := fun K => by
        simp only [go_sem, ↓reduceIte, Nat.reduceEqDiff, Nat.reduceBEq, Nat.reduceAdd, Nat.reduceMul, Nat.reduceSub, Nat.reduceLT, Nat.reduceLeDiff, reduceCtorEq, Int.reduceToNat, Int.reduceLE, Int.reduceLT, Int.reduceEq, withV_any, r0, h4, Int.toNat_natCast, Int.natCast_zero]
      have hx : ∀ x ∈ g.moves.getD i [], ∃ j : Nat, j < R.length ∧ x = j := fun x hx => by
        obtain ⟨y1, y2⟩ := hg.ok.mv i (by simp only [Game.toG]; omega) x hx
        simp only [Game.toG] at y2
        exact ⟨x.toNat, by omega, by omega⟩
      have key := loop24_2 g p (R.getD i 0) R (hri i) v i (by omega) rfl (g.moves.getD i []) (hg.s i) hx g.owner.length S (z := (.tup [v', .int .i64 0], S')) (g.moves.getD i []).length 0 (by omega) (by
        rw [List.drop_zero, ← es]
        exact rest .undef .undef .undef .undef .undef .undef)
      simp only [F24.B0_eq, s1, F24.k97_n, condC_true, F24.k35_n, s2, F24.k94_n, F24.g95, withV_any, F24.k46_n, s3, F24.k49_n, s4, F24.k55_n]
      exact key
end Go.Vs
end
/- game.Strategy: what it returns. -/
section
set_option linter.unusedVariables false
set_option linter.unusedSimpArgs false
namespace Go.Vs
open Go Go.Proofs
/-- A list of ints as a value; nil only if it is empty. -/
def IsInts (v : PV) (l : List Int) : Prop := ∃ ex, v = .sl (intRows l) ex ∧ (ex = true → l = [])
theorem IsInts.plain {v : PV} {l : List Int} (h : IsInts v l) : Plain v := by
  obtain ⟨ex, rfl, h2⟩ := h
  cases ex with
  | false => exact .sl _
  | true => rw [h2 rfl]; exact .nil
theorem IntO.fz {S : Store} {v : PV} {L : List Int} (h : IntO S v L) : ∃ w, IsInts w L ∧ fzPV1 S v = some w := by
  cases h with
  | nil => exact ⟨.sl [] true, ⟨true, rfl, fun _ => rfl⟩, rfl⟩
  | arr id L g hg h => exact ⟨.sl (intRows L) false, ⟨false, rfl, fun h => by cases h⟩, (Ints.msl id L false _ _ h).fz 6⟩
def Game.strat (g : Game) (p : Int) : List Int := (List.range g.owner.length).map (stratAt g p g.ranks)
theorem ranks_range (g : Game) (h : g.owner.length ≤ 400) (i : Nat) : -1000000000 ≤ g.ranks.getD i 0 ∧ g.ranks.getD i 0 ≤ 1000000000 := by
  by_cases hi : i < g.owner.length
  · have := Rk.rk_range g.toG (g.owner.length + 1) i hi
    have e : g.ranks.getD i 0 = Rk.rk (Rk.lvl g.toG (g.owner.length + 1)) i := getD_rk (by rw [ranks_len]; exact hi)
    rw [e]
    omega
  · have e : g.ranks.getD i 0 = 0 := by
      rw [List.getD_eq_getElem?_getD, List.getElem?_eq_none (by rw [ranks_len]; omega)]; rfl
    omega
/-- A result of Strategy: the list if there is no error, nil otherwise. -/
def IsStrat (g : Game) (p : Int) (v : PV) : Prop := ∃ w, v = .tup [w, .int .i64 (g.winsErr p)] ∧ (g.winsErr p = 0 → IsInts w (g.strat p)) ∧ (g.winsErr p ≠ 0 → w = .sl [] true)
theorem call24 (g : Game) (hg : g.ok) (p : Int) : ∃ v, IsStrat g p v ∧ callL Try.prog hints 24 [.agg g.cells, .int .i64 p] = some v := by
  have c1 := fun S => callG S (call17 g hg)
  by_cases h : g.check = 0
  · by_cases hp : p = 0 ∨ p = 1
    · have hgood := good_of h
      have c2' : ∀ S, callO (callL Try.prog hints) S 57 [.agg g.cells] = some { v := .sl (intRows g.ranks) false } := fun S => callG S (call57 g hgood)
      have hN := hgood.n
      obtain ⟨v', S', a1, a2⟩ := loop24_0 g hgood p g.ranks (ranks_len g) (ranks_range g hN) g.owner.length 0 (by omega) [.arr [g.cells] none false] (.sl [] true) [] rfl .nil (by intro r hr; cases hr) (by simp; omega)
      rw [List.nil_append, ← List.range_eq_range'] at a2
      obtain ⟨w, b1, b2⟩ := a2.fz
      have e0 := winsErr_ok h hp
      refine ⟨.tup [w, .int .i64 (g.winsErr p)], ⟨w, rfl, fun _ => b1, fun hn => absurd e0 hn⟩, ?_⟩
      rw [e0]
      refine F24.call (r := (.tup [v', .int .i64 0], S')) ?_ ?_
      · simp only [Int.natCast_zero] at a1
        rcases hp with rfl | rfl
        · simp only [go_sem, ↓reduceIte, Nat.reduceEqDiff, Nat.reduceBEq, Nat.reduceAdd, Nat.reduceMul, Nat.reduceSub, Nat.reduceLT, Nat.reduceLeDiff, reduceCtorEq, Int.reduceToNat, Int.reduceLE, Int.reduceLT, Int.reduceEq, withV_any, c1, h, c2', a1]
        · simp only [go_sem, ↓reduceIte, Nat.reduceEqDiff, Nat.reduceBEq, Nat.reduceAdd, Nat.reduceMul, Nat.reduceSub, Nat.reduceLT, Nat.reduceLeDiff, reduceCtorEq, Int.reduceToNat, Int.reduceLE, Int.reduceLT, Int.reduceEq, withV_any, c1, h, c2', a1]
      · show (mapO (fzPV1 S') [v', .int .i64 0]).map PV.tup = _
        simp only [mapO, b2, Option.bind_some]
        rfl
    · have e0 : g.winsErr p = 1 := by unfold Game.winsErr; rw [if_pos h, if_neg hp]
      refine ⟨.tup [.sl [] true, .int .i64 (g.winsErr p)], ⟨.sl [] true, rfl, fun hn => by rw [e0] at hn; exact absurd hn (by decide), fun _ => rfl⟩, ?_⟩
      rw [e0]
      have h0 : ¬ p = 0 := fun e => hp (.inl e)
      have h1 : ¬ p = 1 := fun e => hp (.inr e)
      refine F24.call (r := (.tup [.sl [] true, .int .i64 1], [.arr [g.cells] none false])) ?_ rfl
      simp only [go_sem, ↓reduceIte, Nat.reduceEqDiff, Nat.reduceBEq, Nat.reduceAdd, Nat.reduceMul, Nat.reduceSub, Nat.reduceLT, Nat.reduceLeDiff, reduceCtorEq, Int.reduceToNat, Int.reduceLE, Int.reduceLT, Int.reduceEq, withV_any, c1, h, h0, h1, decide_false, Bool.not_false]
  · have e0 : g.winsErr p = g.check := by unfold Game.winsErr; rw [if_neg h]
    refine ⟨.tup [.sl [] true, .int .i64 (g.winsErr p)], ⟨.sl [] true, rfl, fun hn => absurd (e0 ▸ hn) h, fun _ => rfl⟩, ?_⟩
    rw [e0]
    refine F24.call (r := (.tup [.sl [] true, .int .i64 g.check], [.arr [g.cells] none false])) ?_ rfl
    simp only [go_sem, ↓reduceIte, Nat.reduceEqDiff, Nat.reduceBEq, Nat.reduceAdd, Nat.reduceMul, Nat.reduceSub, Nat.reduceLT, Nat.reduceLeDiff, reduceCtorEq, Int.reduceToNat, Int.reduceLE, Int.reduceLT, Int.reduceEq, withV_any, c1, h, decide_false, Bool.not_false]
end Go.Vs
end
/- The reference's Strategy: its inner loop. -/
section
set_option linter.unusedVariables false
set_option linter.unusedSimpArgs false
namespace Go.Vs
open Go Go.Proofs
theorem loop25_2 (g : Game) (hg : g.good) (p ri : Int) (R : List Int) (hR : R.length = g.owner.length) (hri : -1000000000 ≤ ri ∧ ri ≤ 1000000000) (i : Nat) (hi : i < g.owner.length) (hr : R.getD i 0 = ri) (U : List Int) (hU : U.length = g.owner.length) (n2 : Nat) : ∀ k : Nat, k ≤ (g.moves.getD i []).length → ∀ S : Store, S.length = n2 → FS g 1 (U.set i (pickM p ri R ((g.moves.getD i []).drop k))) S →
    ∃ S', S'.length = n2 ∧ FS g 1 (U.set i (pickM p ri R (g.moves.getD i []))) S' ∧ ∀ z : PV × Store, F25.k35 0 2 .normal (F25.ee9 (.int .i64 p) (.mp 0 0 0) (.sl (intRows R) false) (.msl 1 0 g.owner.length true) (.int .i64 i) .undef .undef .undef) S' = some z →
      F25.L2 0 2 n2 (.int .i64 p) (.mp 0 0 0) (.sl (intRows R) false) (.msl 1 0 g.owner.length true) (.int .i64 i) (.int .i64 ((k : Int) - 1)) S = some z := by
  have hN := hg.n
  have hL := hg.s i
  have hm4 : (4000 : Nat) ≤ maxLen := by decide
  have h4 : 0 ≤ (i : Int) ∧ (i : Int) < (g.moves.length : Int) := ⟨by omega, by rw [hg.m]; omega⟩
  intro k
  induction k with
  | zero =>
    intro hk S hS h
    rw [List.drop_zero] at h
    refine ⟨S, hS, h, fun z hz => F25.L2_step ?_⟩
    have c1 : ¬ (0 : Int) ≤ ((0 : Nat) : Int) - 1 := by decide
    have s1 : ∀ (K : KT), execL (F25.C 0) 2 F25.c69 K (F25.ee6 (.int .i64 p) (.mp 0 0 0) (.sl (intRows R) false) (.msl 1 0 g.owner.length true) (.int .i64 i) (.int .i64 (((0 : Nat) : Int) - 1))) S = K .normal (F25.ee9 (.int .i64 p) (.mp 0 0 0) (.sl (intRows R) false) (.msl 1 0 g.owner.length true) (.int .i64 i) (.int .i64 (((0 : Nat) : Int) - 1)) .undef (.bool false)) S := fun K => by
      simp only [F25.g74, withV_any, evBin_geq, c1, decide_false]
    subst hS
    simp only [F25.B2_eq, s1, F25.k71_n, condC_false, F25.k54_exit, F25.k47_x1, F25.k44_exit, if_true, gc_full]
    exact hz
  | succ k ih =>
    intro hk S hS h
    have hkl : k < (g.moves.getD i []).length := by omega
    have e0 : ((k + 1 : Nat) : Int) - 1 = (k : Int) := by omega
    rw [e0]
    have h5 : 0 ≤ (k : Int) ∧ (k : Int) < ((g.moves.getD i []).length : Int) := ⟨by omega, by omega⟩
    have c1 : (0 : Int) ≤ (k : Int) := by omega
    have r0 := rowsAt_of h.p0
    have r1 := rowsAt_of h.pR
    obtain ⟨q1, q2⟩ := hg.ok.mv i (by simp only [Game.toG]; omega) ((g.moves.getD i []).getD k 0) (by
      have e : (g.moves.getD i []).getD k 0 = (g.moves.getD i [])[k] := by rw [List.getD_eq_getElem?_getD (l := g.moves.getD i []), List.getElem?_eq_getElem hkl]; rfl
      rw [e]; exact List.getElem_mem hkl)
    obtain ⟨q, eq⟩ : ∃ q : Nat, (g.moves.getD i []).getD k 0 = q := ⟨((g.moves.getD i []).getD k 0).toNat, by omega⟩
    have hq : q < R.length := by simp only [Game.toG] at q2; omega
    have h6 : 0 ≤ (q : Int) ∧ (q : Int) < (R.length : Int) := ⟨by omega, by omega⟩
    have h7 : 0 ≤ (i : Int) ∧ (i : Int) < (R.length : Int) := ⟨by omega, by omega⟩
    have w2 := wrap_dec hri.1 hri.2
    have w3 : IntKind.i64.wrap ((k : Int) - 1) = (k : Int) - 1 := wrap_dec (by omega) (by omega)
    have ed : (g.moves.getD i []).drop k = (q : Int) :: (g.moves.getD i []).drop (k + 1) := by
      rw [List.drop_eq_getElem_cons hkl]
      rw [List.getD_eq_getElem?_getD (l := g.moves.getD i []), List.getElem?_eq_getElem hkl, Option.getD_some] at eq
      rw [eq]
    have s1 : ∀ (K : KT), execL (F25.C 0) 2 F25.c69 K (F25.ee6 (.int .i64 p) (.mp 0 0 0) (.sl (intRows R) false) (.msl 1 0 g.owner.length true) (.int .i64 i) (.int .i64 k)) S = K .normal (F25.ee9 (.int .i64 p) (.mp 0 0 0) (.sl (intRows R) false) (.msl 1 0 g.owner.length true) (.int .i64 i) (.int .i64 k) .undef (.bool true)) S := fun K => by
      simp only [go_sem, ↓reduceIte, Nat.reduceEqDiff, Nat.reduceBEq, Nat.reduceAdd, Nat.reduceMul, Nat.reduceSub, Nat.reduceLT, Nat.reduceLeDiff, reduceCtorEq, Int.reduceToNat, Int.reduceLE, Int.reduceLT, Int.reduceEq, withV_any, c1, decide_true]
    have s2 : ∀ (K : KT), execL (F25.C 0) 3 F25.c57 K (F25.ee9 (.int .i64 p) (.mp 0 0 0) (.sl (intRows R) false) (.msl 1 0 g.owner.length true) (.int .i64 i) (.int .i64 k) .undef (.bool true)) S = K .normal (F25.ee7 (.int .i64 p) (.mp 0 0 0) (.sl (intRows R) false) (.msl 1 0 g.owner.length true) (.int .i64 i) (.int .i64 k) (.int .i64 q)) S := fun K => by
      simp only [go_sem, ↓reduceIte, Nat.reduceEqDiff, Nat.reduceBEq, Nat.reduceAdd, Nat.reduceMul, Nat.reduceSub, Nat.reduceLT, Nat.reduceLeDiff, reduceCtorEq, Int.reduceToNat, Int.reduceLE, Int.reduceLT, Int.reduceEq, withV_any, r0, h4, h5, Int.toNat_natCast, eq]
    have s3 : ∀ (K : KT), execL (F25.C 0) 3 F25.c59 K (F25.ee7 (.int .i64 p) (.mp 0 0 0) (.sl (intRows R) false) (.msl 1 0 g.owner.length true) (.int .i64 i) (.int .i64 k) (.int .i64 q)) S = K .normal (F25.ee8 (.int .i64 p) (.mp 0 0 0) (.sl (intRows R) false) (.msl 1 0 g.owner.length true) (.int .i64 i) (.int .i64 k) (.int .i64 q) (.bool (okM p ri (R.getD q 0)))) S := fun K => by
      by_cases a0 : p = 0
      · subst a0
        by_cases b : R.getD q 0 = ri - 1
        · have e : okM 0 ri (R.getD q 0) = true := by simp only [okM, b, decide_true, Bool.and_self, Bool.true_or]
          rw [e]
          simp only [go_sem, ↓reduceIte, Nat.reduceEqDiff, Nat.reduceBEq, Nat.reduceAdd, Nat.reduceMul, Nat.reduceSub, Nat.reduceLT, Nat.reduceLeDiff, reduceCtorEq, Int.reduceToNat, Int.reduceLE, Int.reduceLT, Int.reduceEq, withV_any, h6, h7, Int.toNat_natCast, hr, w2, b, decide_true]
        · have e : okM 0 ri (R.getD q 0) = false := by simp only [okM, b, decide_false, Bool.and_false, show ¬ (0 : Int) = 1 by decide, Bool.false_and, Bool.or_self]
          rw [e]
          simp only [go_sem, ↓reduceIte, Nat.reduceEqDiff, Nat.reduceBEq, Nat.reduceAdd, Nat.reduceMul, Nat.reduceSub, Nat.reduceLT, Nat.reduceLeDiff, reduceCtorEq, Int.reduceToNat, Int.reduceLE, Int.reduceLT, Int.reduceEq, withV_any, h6, h7, Int.toNat_natCast, hr, w2, b, decide_false]
      · by_cases a1 : p = 1
        · subst a1
          by_cases b : R.getD q 0 < 0
          · have e : okM 1 ri (R.getD q 0) = true := by simp only [okM, b, decide_true, Bool.and_self, Bool.or_true]
            rw [e]
            simp only [go_sem, ↓reduceIte, Nat.reduceEqDiff, Nat.reduceBEq, Nat.reduceAdd, Nat.reduceMul, Nat.reduceSub, Nat.reduceLT, Nat.reduceLeDiff, reduceCtorEq, Int.reduceToNat, Int.reduceLE, Int.reduceLT, Int.reduceEq, withV_any, h6, h7, Int.toNat_natCast, b, decide_true]
          · have e : okM 1 ri (R.getD q 0) = false := by simp only [okM, b, decide_false, Bool.and_false, show ¬ (1 : Int) = 0 by decide, Bool.false_and, Bool.or_self]
            rw [e]
            simp only [go_sem, ↓reduceIte, Nat.reduceEqDiff, Nat.reduceBEq, Nat.reduceAdd, Nat.reduceMul, Nat.reduceSub, Nat.reduceLT, Nat.reduceLeDiff, reduceCtorEq, Int.reduceToNat, Int.reduceLE, Int.reduceLT, Int.reduceEq, withV_any, h6, h7, Int.toNat_natCast, b, decide_false]
        · have e : okM p ri (R.getD q 0) = false := by simp [okM, a0, a1]
          rw [e]
          simp only [go_sem, ↓reduceIte, Nat.reduceEqDiff, Nat.reduceBEq, Nat.reduceAdd, Nat.reduceMul, Nat.reduceSub, Nat.reduceLT, Nat.reduceLeDiff, reduceCtorEq, Int.reduceToNat, Int.reduceLE, Int.reduceLT, Int.reduceEq, withV_any, a0, a1]
    have s9 : ∀ (K : KT) (S : Store) (x y : PV), execL (F25.C 0) 2 F25.c51 K (F25.ee8 (.int .i64 p) (.mp 0 0 0) (.sl (intRows R) false) (.msl 1 0 g.owner.length true) (.int .i64 i) (.int .i64 k) x y) S = K .normal (F25.ee6 (.int .i64 p) (.mp 0 0 0) (.sl (intRows R) false) (.msl 1 0 g.owner.length true) (.int .i64 i) (.int .i64 ((k : Int) - 1))) S := fun K S x y => by
      simp only [go_sem, ↓reduceIte, Nat.reduceEqDiff, Nat.reduceBEq, Nat.reduceAdd, Nat.reduceMul, Nat.reduceSub, Nat.reduceLT, Nat.reduceLeDiff, reduceCtorEq, Int.reduceToNat, Int.reduceLE, Int.reduceLT, Int.reduceEq, withV_any, w3]
    cases hb : okM p ri (R.getD q 0) with
    | true =>
      rw [hb] at s3
      have ep : pickM p ri R ((g.moves.getD i []).drop k) = q := by rw [ed, pickM, Int.toNat_natCast, hb, if_pos rfl]
      have st := storeInt (j := i) (q : Int) h.pR (by rw [List.length_set]; omega)
      rw [List.set_set] at st
      have hl1 := (List.getElem?_eq_some_iff.1 h.pR).1
      have hF2 : FS g 1 (U.set i (pickM p ri R ((g.moves.getD i []).drop k))) (S.set 1 (.arr (intRows (U.set i (q : Int))) (some (some 1)) false)) := by
        rw [ep]
        exact ⟨by rw [List.getElem?_set_ne (by omega)]; exact h.p0, by rw [List.getElem?_set_self hl1], by rw [List.length_set]; exact hU⟩
      have hlS : (S.set 1 (.arr (intRows (U.set i (q : Int))) (some (some 1)) false)).length = n2 := by rw [List.length_set]; exact hS
      generalize S.set 1 (.arr (intRows (U.set i (q : Int))) (some (some 1)) false) = S1 at *
      obtain ⟨S', a1, a2, a3⟩ := ih (by omega) S1 hlS hF2
      refine ⟨S', a1, a2, fun z hz => F25.L2_step ?_⟩
      have x1 := idx22m (ex := true) i r1 (by rw [intRows_length, List.length_set, hU]) (intRows_ok _) hi
      have s4 : ∀ (K : KT), execL (F25.C 0) 3 F25.c62 K (F25.ee8 (.int .i64 p) (.mp 0 0 0) (.sl (intRows R) false) (.msl 1 0 g.owner.length true) (.int .i64 i) (.int .i64 k) (.int .i64 q) (.bool true)) S = K .normal (F25.ee8 (.int .i64 p) (.mp 0 0 0) (.sl (intRows R) false) (.msl 1 0 g.owner.length true) (.int .i64 i) (.int .i64 k) (.int .i64 q) (.bool true)) S1 := fun K => by
        simp only [storeE_eq, known3, if_true, size3] at st
        simp only [go_sem, ↓reduceIte, Nat.reduceEqDiff, Nat.reduceBEq, Nat.reduceAdd, Nat.reduceMul, Nat.reduceSub, Nat.reduceLT, Nat.reduceLeDiff, reduceCtorEq, Int.reduceToNat, Int.reduceLE, Int.reduceLT, Int.reduceEq, withV_any, x1, st]
      have e1 : ∀ e : Env, Vs.gc n2 e S1 = S1 := fun e => by rw [← hlS]; exact gc_full _ _
      simp only [F25.B2_eq, s1, F25.k71_n, condC_true, F25.k54_n, s2, F25.k66_n, s3, F25.k61_n, s4, F25.k56_n, F25.k52_n, s9, F25.k47_n, e1]
      exact a3 z hz
    | false =>
      rw [hb] at s3
      have ep : pickM p ri R ((g.moves.getD i []).drop k) = pickM p ri R ((g.moves.getD i []).drop (k + 1)) := by rw [ed, pickM, Int.toNat_natCast, hb, if_neg (by simp)]
      rw [← ep] at h
      obtain ⟨S', a1, a2, a3⟩ := ih (by omega) S hS h
      refine ⟨S', a1, a2, fun z hz => F25.L2_step ?_⟩
      have e1 : ∀ e : Env, Vs.gc n2 e S = S := fun e => by rw [← hS]; exact gc_full _ _
      simp only [F25.B2_eq, s1, F25.k71_n, condC_true, F25.k54_n, s2, F25.k66_n, s3, F25.k61_n, condC_false, F25.k56_n, F25.k52_n, s9, F25.k47_n, e1]
      exact a3 z hz
end Go.Vs
end
/- The reference's Strategy: what it returns. -/
section
set_option linter.unusedVariables false
set_option linter.unusedSimpArgs false
namespace Go.Vs
open Go Go.Proofs
def strF (g : Game) (p : Int) (R : List Int) : Nat → Nat → List Int → List Int
  | 0, _, W => W
  | m + 1, i, W => strF g p R m (i + 1) (W.set i (stratAt g p R i))
theorem strF_len (g : Game) (p : Int) (R : List Int) : ∀ (m i : Nat) (W : List Int), (strF g p R m i W).length = W.length
  | 0, _, _ => rfl
  | m + 1, i, W => by rw [strF, strF_len g p R m, List.length_set]
theorem strF_get (g : Game) (p : Int) (R : List Int) : ∀ (m i : Nat) (W : List Int), i + m = W.length → ∀ j, j < W.length → (strF g p R m i W).getD j 0 = if i ≤ j then stratAt g p R j else W.getD j 0
  | 0, i, W, hi, j, hj => by rw [strF, if_neg (by omega)]
  | m + 1, i, W, hi, j, hj => by
    rw [strF, strF_get g p R m (i + 1) _ (by rw [List.length_set]; omega) j (by rw [List.length_set]; exact hj), getD_set' hj]
    by_cases e : i = j
    · subst e
      rw [if_neg (by omega), if_pos rfl, if_pos (Nat.le_refl _)]
    · by_cases e3 : i ≤ j
      · rw [if_pos (by omega), if_pos e3]
      · rw [if_neg (by omega), if_neg e, if_neg e3]
theorem strF_all (g : Game) (p : Int) : strF g p g.ranks g.owner.length 0 (zint g.owner.length) = g.strat p := by
  have hz : (zint g.owner.length).length = g.owner.length := by simp [zint]
  apply List.ext_getElem (by rw [strF_len, hz]; simp [Game.strat])
  intro j h1 h2
  have hj : j < (zint g.owner.length).length := by rw [strF_len] at h1; exact h1
  have := strF_get g p g.ranks g.owner.length 0 (zint g.owner.length) (by rw [hz]; omega) j hj
  rw [if_pos (Nat.zero_le _), List.getD_eq_getElem?_getD, List.getElem?_eq_getElem h1, Option.getD_some] at this
  rw [this]
  simp [Game.strat]
theorem loop25_0 (g : Game) (hg : g.good) (p : Int) (hp : p = 0 ∨ p = 1) (R : List Int) (hR : R.length = g.owner.length) (hri : ∀ i, -1000000000 ≤ R.getD i 0 ∧ R.getD i 0 ≤ 1000000000) : ∀ (m i : Nat), i + m = g.owner.length → ∀ (S : Store) (W : List Int), S.length = 2 → FS g 1 W S →
    ∃ S', F25.L0 0 2 (.int .i64 p) (.mp 0 0 0) (.sl (intRows R) false) (.msl 1 0 g.owner.length true) (.int .i64 i) S = some (.tup [.msl 1 0 g.owner.length true, .int .i64 0], S') ∧ FS g 1 (strF g p R m i W) S' := by
  have hN := hg.n
  have hm4 : (4000 : Nat) ≤ maxLen := by decide
  have full : ∀ (e : Env) (S : Store), S.length = 2 → Vs.gc 2 e S = S := fun e S h => by rw [← h]; exact gc_full e S
  intro m
  induction m with
  | zero =>
    intro i hi S W hS h
    have c1 : ¬ (i : Int) < (R.length : Int) := by omega
    refine ⟨S, F25.L0_step ?_, h⟩
    have s1 : ∀ (K : KT), execL (F25.C 0) 0 F25.c86 K (F25.ee5 (.int .i64 p) (.mp 0 0 0) (.sl (intRows R) false) (.msl 1 0 g.owner.length true) (.int .i64 i)) S = K .normal (F25.ee10 (.int .i64 p) (.mp 0 0 0) (.sl (intRows R) false) (.msl 1 0 g.owner.length true) (.int .i64 i) (.bool false)) S := fun K => by
      simp only [go_sem, ↓reduceIte, Nat.reduceEqDiff, Nat.reduceBEq, Nat.reduceAdd, Nat.reduceMul, Nat.reduceSub, Nat.reduceLT, Nat.reduceLeDiff, reduceCtorEq, Int.reduceToNat, Int.reduceLE, Int.reduceLT, Int.reduceEq, withV_any, c1]
    simp only [F25.B0_eq, s1, F25.k88_n, condC_false, F25.k33_exit, F25.k26_x1, full _ S hS, F25.k23_exit, if_true, F25.k16_n, F25.g17, withV_any, F25.k15_n, F25.k0_ret12]
  | succ m hm =>
    intro i hi S W hS h
    have c1 : (i : Int) < (R.length : Int) := by omega
    have hiN : i < g.owner.length := by omega
    have w1 := wrap_succ (i := i) (n := g.owner.length) hiN (by omega)
    have h5 : 0 ≤ (i : Int) ∧ (i : Int) < (g.owner.length : Int) := ⟨by omega, by omega⟩
    have h6 : 0 ≤ (i : Int) ∧ (i : Int) < (R.length : Int) := ⟨by omega, by omega⟩
    have h4 : 0 ≤ (i : Int) ∧ (i : Int) < (g.moves.length : Int) := ⟨by omega, by rw [hg.m]; omega⟩
    have hL := hg.s i
    have r1 := rowsAt_of h.pR
    have x1 := idx22m (ex := true) i r1 (by rw [intRows_length, h.len]) (intRows_ok _) hiN
    have st := storeInt (j := i) (-1) h.pR (by rw [h.len]; exact hiN)
    have hl1 := (List.getElem?_eq_some_iff.1 h.pR).1
    have hF1 : FS g 1 (W.set i (-1)) (S.set 1 (.arr (intRows (W.set i (-1))) (some (some 1)) false)) := ⟨by rw [List.getElem?_set_ne (by omega)]; exact h.p0, by rw [List.getElem?_set_self hl1], by rw [List.length_set]; exact h.len⟩
    have hlS : (S.set 1 (.arr (intRows (W.set i (-1))) (some (some 1)) false)).length = 2 := by rw [List.length_set]; exact hS
    generalize S.set 1 (.arr (intRows (W.set i (-1))) (some (some 1)) false) = S1 at *
    have r0 := rowsAt_of hF1.p0
    have s1 : ∀ (K : KT), execL (F25.C 0) 0 F25.c86 K (F25.ee5 (.int .i64 p) (.mp 0 0 0) (.sl (intRows R) false) (.msl 1 0 g.owner.length true) (.int .i64 i)) S = K .normal (F25.ee10 (.int .i64 p) (.mp 0 0 0) (.sl (intRows R) false) (.msl 1 0 g.owner.length true) (.int .i64 i) (.bool true)) S := fun K => by
      simp only [go_sem, ↓reduceIte, Nat.reduceEqDiff, Nat.reduceBEq, Nat.reduceAdd, Nat.reduceMul, Nat.reduceSub, Nat.reduceLT, Nat.reduceLeDiff, reduceCtorEq, Int.reduceToNat, Int.reduceLE, Int.reduceLT, Int.reduceEq, withV_any, c1]
    have s2 : ∀ (K : KT), execL (F25.C 0) 1 F25.c36 K (F25.ee10 (.int .i64 p) (.mp 0 0 0) (.sl (intRows R) false) (.msl 1 0 g.owner.length true) (.int .i64 i) (.bool true)) S = K .normal (F25.ee5 (.int .i64 p) (.mp 0 0 0) (.sl (intRows R) false) (.msl 1 0 g.owner.length true) (.int .i64 i)) S1 := fun K => by
      simp only [storeE_eq, known3, if_true, size3] at st
      simp only [go_sem, ↓reduceIte, Nat.reduceEqDiff, Nat.reduceBEq, Nat.reduceAdd, Nat.reduceMul, Nat.reduceSub, Nat.reduceLT, Nat.reduceLeDiff, reduceCtorEq, Int.reduceToNat, Int.reduceLE, Int.reduceLT, Int.reduceEq, withV_any, x1, st]
    have s3 : ∀ (K : KT), execL (F25.C 0) 1 F25.c79 K (F25.ee5 (.int .i64 p) (.mp 0 0 0) (.sl (intRows R) false) (.msl 1 0 g.owner.length true) (.int .i64 i)) S1 = K .normal (F25.ee9 (.int .i64 p) (.mp 0 0 0) (.sl (intRows R) false) (.msl 1 0 g.owner.length true) (.int .i64 i) .undef (.bool (!takeB p (g.owner.getD i 0) (R.getD i 0))) .undef) S1 := fun K => by
      by_cases b0 : g.owner.getD i 0 = p
      · rcases hp with rfl | rfl
        · by_cases b1 : R.getD i 0 ≤ 0
          · have b2 : ¬ 0 < R.getD i 0 := by omega
            have e : takeB 0 (g.owner.getD i 0) (R.getD i 0) = false := by simp only [takeB, b2, decide_false, Bool.false_and, show ¬ (0 : Int) = 1 by decide, Bool.and_false, Bool.or_self]
            rw [e]
            simp only [go_sem, ↓reduceIte, Nat.reduceEqDiff, Nat.reduceBEq, Nat.reduceAdd, Nat.reduceMul, Nat.reduceSub, Nat.reduceLT, Nat.reduceLeDiff, reduceCtorEq, Int.reduceToNat, Int.reduceLE, Int.reduceLT, Int.reduceEq, withV_any, r0, h5, h6, Int.toNat_natCast, b0, b1, decide_true, decide_false, Bool.not_true, Bool.not_false]
          · have b2 : 0 < R.getD i 0 := by omega
            have e : takeB 0 (g.owner.getD i 0) (R.getD i 0) = true := by simp only [takeB, b0, b2, decide_true, Bool.and_self, Bool.true_or]
            rw [e]
            simp only [go_sem, ↓reduceIte, Nat.reduceEqDiff, Nat.reduceBEq, Nat.reduceAdd, Nat.reduceMul, Nat.reduceSub, Nat.reduceLT, Nat.reduceLeDiff, reduceCtorEq, Int.reduceToNat, Int.reduceLE, Int.reduceLT, Int.reduceEq, withV_any, r0, h5, h6, Int.toNat_natCast, b0, b1, decide_true, decide_false, Bool.not_true, Bool.not_false]
        · by_cases b1 : 0 ≤ R.getD i 0
          · have b2 : ¬ R.getD i 0 < 0 := by omega
            have e : takeB 1 (g.owner.getD i 0) (R.getD i 0) = false := by simp only [takeB, b2, decide_false, Bool.false_and, show ¬ (1 : Int) = 0 by decide, Bool.and_false, Bool.or_self]
            rw [e]
            simp only [go_sem, ↓reduceIte, Nat.reduceEqDiff, Nat.reduceBEq, Nat.reduceAdd, Nat.reduceMul, Nat.reduceSub, Nat.reduceLT, Nat.reduceLeDiff, reduceCtorEq, Int.reduceToNat, Int.reduceLE, Int.reduceLT, Int.reduceEq, withV_any, r0, h5, h6, Int.toNat_natCast, b0, b1, decide_true, decide_false, Bool.not_true, Bool.not_false]
          · have b2 : R.getD i 0 < 0 := by omega
            have e : takeB 1 (g.owner.getD i 0) (R.getD i 0) = true := by simp only [takeB, b0, b2, decide_true, Bool.and_self, Bool.or_true]
            rw [e]
            simp only [go_sem, ↓reduceIte, Nat.reduceEqDiff, Nat.reduceBEq, Nat.reduceAdd, Nat.reduceMul, Nat.reduceSub, Nat.reduceLT, Nat.reduceLeDiff, reduceCtorEq, Int.reduceToNat, Int.reduceLE, Int.reduceLT, Int.reduceEq, withV_any, r0, h5, h6, Int.toNat_natCast, b0, b1, decide_true, decide_false, Bool.not_true, Bool.not_false]
      · have e : takeB p (g.owner.getD i 0) (R.getD i 0) = false := by simp only [takeB, b0, decide_false, Bool.false_and]
        rw [e]
        simp only [go_sem, ↓reduceIte, Nat.reduceEqDiff, Nat.reduceBEq, Nat.reduceAdd, Nat.reduceMul, Nat.reduceSub, Nat.reduceLT, Nat.reduceLeDiff, reduceCtorEq, Int.reduceToNat, Int.reduceLE, Int.reduceLT, Int.reduceEq, withV_any, r0, h5, h6, Int.toNat_natCast, b0, decide_false, Bool.not_false]
    have s9 : ∀ (K : KT) (S : Store) (a b c : PV), execL (F25.C 0) 0 F25.c30 K (F25.ee9 (.int .i64 p) (.mp 0 0 0) (.sl (intRows R) false) (.msl 1 0 g.owner.length true) (.int .i64 i) a b c) S = K .normal (F25.ee5 (.int .i64 p) (.mp 0 0 0) (.sl (intRows R) false) (.msl 1 0 g.owner.length true) (.int .i64 (i + 1 : Nat))) S := fun K S a b c => by
      simp only [go_sem, ↓reduceIte, Nat.reduceEqDiff, Nat.reduceBEq, Nat.reduceAdd, Nat.reduceMul, Nat.reduceSub, Nat.reduceLT, Nat.reduceLeDiff, reduceCtorEq, Int.reduceToNat, Int.reduceLE, Int.reduceLT, Int.reduceEq, withV_any, w1]
    rw [strF]
    cases ht : takeB p (g.owner.getD i 0) (R.getD i 0) with
    | false =>
      rw [ht] at s3
      have es : stratAt g p R i = -1 := by unfold stratAt; rw [ht]; rfl
      rw [es]
      obtain ⟨S', q1, q2⟩ := hm (i + 1) (by omega) S1 _ hlS hF1
      refine ⟨S', F25.L0_step ?_, q2⟩
      simp only [F25.B0_eq, s1, F25.k88_n, condC_true, F25.k33_n, s2, F25.k78_n, s3, Bool.not_false, F25.k81_n, F25.k76_exit, F25.k35_exit, if_true, F25.k31_n, s9, F25.k26_n, full _ S1 hlS]
      exact q1
    | true =>
      rw [ht] at s3
      have es : stratAt g p R i = pickM p (R.getD i 0) R (g.moves.getD i []) := by unfold stratAt; rw [ht, if_pos rfl]
      rw [es]
      obtain ⟨S2, a1, a2, a3⟩ := loop25_2 g hg p (R.getD i 0) R hR (hri i) i hiN rfl W h.len 2 (g.moves.getD i []).length (Nat.le_refl _) S1 hlS (by rw [List.drop_length]; exact hF1)
      obtain ⟨S', q1, q2⟩ := hm (i + 1) (by omega) S2 _ a1 a2
      refine ⟨S', F25.L0_step ?_, q2⟩
      have w4 : IntKind.i64.wrap (((g.moves.getD i []).length : Int) - 1) = ((g.moves.getD i []).length : Int) - 1 := wrap_dec (by omega) (by omega)
      have s4 : ∀ (K : KT), execL (F25.C 0) 1 F25.c40 K (F25.ee9 (.int .i64 p) (.mp 0 0 0) (.sl (intRows R) false) (.msl 1 0 g.owner.length true) (.int .i64 i) .undef (.bool false) .undef) S1 = K .normal (F25.ee6 (.int .i64 p) (.mp 0 0 0) (.sl (intRows R) false) (.msl 1 0 g.owner.length true) (.int .i64 i) (.int .i64 (((g.moves.getD i []).length : Int) - 1))) S1 := fun K => by
        simp only [go_sem, ↓reduceIte, Nat.reduceEqDiff, Nat.reduceBEq, Nat.reduceAdd, Nat.reduceMul, Nat.reduceSub, Nat.reduceLT, Nat.reduceLeDiff, reduceCtorEq, Int.reduceToNat, Int.reduceLE, Int.reduceLT, Int.reduceEq, withV_any, r0, h4, Int.toNat_natCast, w4]
      have key := a3 (.tup [.msl 1 0 g.owner.length true, .int .i64 0], S') (by
        simp only [F25.k35_n, F25.k31_n, s9, F25.k26_n, full _ S2 a1]
        exact q1)
      simp only [F25.B0_eq, s1, F25.k88_n, condC_true, F25.k33_n, s2, F25.k78_n, s3, Bool.not_true, F25.k81_n, condC_false, F25.k76_n, s4, F25.k42_n, hlS]
      exact key
end Go.Vs
end
/- The reference's Strategy: what it returns. -/
section
set_option linter.unusedVariables false
set_option linter.unusedSimpArgs false
namespace Go.Vs
open Go Go.Proofs
theorem call25 (g : Game) (hg : g.ok) (p : Int) : ∃ v, IsStrat g p v ∧ callL Try.prog hints 25 [.agg g.cells, .int .i64 p] = some v := by
  have c1 := fun S => callG S (call18 g hg)
  by_cases h : g.check = 0
  · by_cases hp : p = 0 ∨ p = 1
    · have hgood := good_of h
      have hN := hgood.n
      have hrl := ranks_len g
      have c2' : ∀ S, callO (callL Try.prog hints) S 58 [.agg g.cells] = some { v := .sl (intRows g.ranks) false } := fun S => callG S (call58 g hgood)
      have hz : (zint g.owner.length).length = g.owner.length := by simp [zint]
      obtain ⟨S', a1, a2⟩ := loop25_0 g hgood p hp g.ranks hrl (ranks_range g hN) g.owner.length 0 (by omega) [.arr [g.cells] none false, .arr (intRows (zint g.owner.length)) (some (some 1)) false] (zint g.owner.length) rfl ⟨rfl, rfl, hz⟩
      rw [strF_all] at a2
      have m2 : ∀ id, makeSliceO Try.prog 22 id (.int .i64 g.ranks.length) (.int .i64 g.ranks.length) = some { v := .msl id 0 g.owner.length true, new := some (intRows (zint g.owner.length), some (some 1)) } := fun id => by
        rw [hrl, makeSlice22 id g.owner.length (by omega), zint_rows]
      have e0 := winsErr_ok h hp
      refine ⟨.tup [.sl (intRows (g.strat p)) false, .int .i64 (g.winsErr p)], ⟨_, rfl, fun _ => ⟨false, rfl, fun h => by cases h⟩, fun hn => absurd e0 hn⟩, ?_⟩
      rw [e0]
      refine F25.call (r := (.tup [.msl 1 0 g.owner.length true, .int .i64 0], S')) ?_ ?_
      · simp only [Int.natCast_zero] at a1
        rcases hp with rfl | rfl
        · simp only [go_sem, ↓reduceIte, Nat.reduceEqDiff, Nat.reduceBEq, Nat.reduceAdd, Nat.reduceMul, Nat.reduceSub, Nat.reduceLT, Nat.reduceLeDiff, reduceCtorEq, Int.reduceToNat, Int.reduceLE, Int.reduceLT, Int.reduceEq, withV_any, c1, h, c2', m2, a1]
        · simp only [go_sem, ↓reduceIte, Nat.reduceEqDiff, Nat.reduceBEq, Nat.reduceAdd, Nat.reduceMul, Nat.reduceSub, Nat.reduceLT, Nat.reduceLeDiff, reduceCtorEq, Int.reduceToNat, Int.reduceLE, Int.reduceLT, Int.reduceEq, withV_any, c1, h, c2', m2, a1]
      · show (mapO (fzPV1 S') [.msl 1 0 g.owner.length true, .int .i64 0]).map PV.tup = _
        have hl : (g.strat p).length = g.owner.length := by simp [Game.strat]
        have e : fzPV1 S' (.msl 1 0 g.owner.length true) = some (.sl (intRows (g.strat p)) false) := by
          rw [← hl]
          exact (Ints.msl 1 (g.strat p) true _ _ a2.pR).fz 6
        simp only [mapO, e, Option.bind_some]
        rfl
    · have e0 : g.winsErr p = 1 := by unfold Game.winsErr; rw [if_pos h, if_neg hp]
      refine ⟨.tup [.sl [] true, .int .i64 (g.winsErr p)], ⟨.sl [] true, rfl, fun hn => by rw [e0] at hn; exact absurd hn (by decide), fun _ => rfl⟩, ?_⟩
      rw [e0]
      have h0 : ¬ p = 0 := fun e => hp (.inl e)
      have h1 : ¬ p = 1 := fun e => hp (.inr e)
      refine F25.call (r := (.tup [.sl [] true, .int .i64 1], [.arr [g.cells] none false])) ?_ rfl
      simp only [go_sem, ↓reduceIte, Nat.reduceEqDiff, Nat.reduceBEq, Nat.reduceAdd, Nat.reduceMul, Nat.reduceSub, Nat.reduceLT, Nat.reduceLeDiff, reduceCtorEq, Int.reduceToNat, Int.reduceLE, Int.reduceLT, Int.reduceEq, withV_any, c1, h, h0, h1, decide_false, Bool.not_false]
  · have e0 : g.winsErr p = g.check := by unfold Game.winsErr; rw [if_neg h]
    refine ⟨.tup [.sl [] true, .int .i64 (g.winsErr p)], ⟨.sl [] true, rfl, fun hn => absurd (e0 ▸ hn) h, fun _ => rfl⟩, ?_⟩
    rw [e0]
    refine F25.call (r := (.tup [.sl [] true, .int .i64 g.check], [.arr [g.cells] none false])) ?_ rfl
    simp only [go_sem, ↓reduceIte, Nat.reduceEqDiff, Nat.reduceBEq, Nat.reduceAdd, Nat.reduceMul, Nat.reduceSub, Nat.reduceLT, Nat.reduceLeDiff, reduceCtorEq, Int.reduceToNat, Int.reduceLE, Int.reduceLT, Int.reduceEq, withV_any, c1, h, decide_false, Bool.not_false]
end Go.Vs
end
/- Printed by a program of mine (stage1.py): the functions 76, 49, 51, 33, 59, 10, piece by piece. -/
section
set_option linter.unusedVariables false
set_option linter.unusedSimpArgs false
namespace Go.Vs
open Go Go.Proofs
noncomputable section

/-! ### isochroneref08.walk -/
namespace F76
section
variable (b i n n0 : Nat) (K : KT) (x0 x1 x2 x3 x4 x6 x9 x10 x11 x12 x13 x20 x35 : PV) (e : Env) (S : Store)
end
end F76
/-! ### isochroneref08.Paths -/
namespace F49
section
variable (b : Nat) (K : KT) (x0 x1 x2 x3 x4 x8 : PV) (e : Env) (S : Store)
end
end F49
/-! ### isochroneref08.Find -/
namespace F51
section
variable (b : Nat) (K : KT) (x0 x1 x2 x3 x4 x5 x6 x10 : PV) (e : Env) (S : Store)
end
end F51
/-! ### isochroneref08.SamePaths -/
namespace F33
section
variable (b i n n0 : Nat) (K : KT) (x0 x1 x4 x5 x10 x14 x26 : PV) (e : Env) (S : Store)
end
end F33
/-! ### isochroneref08.SamePath -/
namespace F59
section
variable (b i n n0 : Nat) (K : KT) (x0 x1 x4 x5 x10 x14 x25 : PV) (e : Env) (S : Store)
noncomputable def hint : Hint := { keep := [], loops := [(0, { live := [0, 1, 5], after := [], own := [], fz := [] })], regs := [(0, [0, 1]), (1, [0, 1, 10]), (2, [4]), (3, [0, 1, 5]), (4, [0, 1, 5, 14]), (5, [0, 1, 5]), (6, [0, 1, 5, 25]), (7, [4]), (8, [4])] }
noncomputable def C (b : Nat) : Ctx := ctxL Try.prog hints b hint
noncomputable def code : Code := Try.f59.body.get rfl
noncomputable def k0 (b : Nat) : KT := endC Try.prog Try.f59
def ee0 (x0 x1 : PV) : Env := [(0, x0), (1, x1)]
def ee1 (x0 x1 x5 : PV) : Env := [(0, x0), (1, x1), (5, x5)]
def ee2 (x0 x1 x5 x14 : PV) : Env := [(0, x0), (1, x1), (5, x5), (14, x14)]
def ee3 (x0 x1 x5 x25 : PV) : Env := [(0, x0), (1, x1), (5, x5), (25, x25)]
def ee4 (x0 x1 x10 : PV) : Env := [(0, x0), (1, x1), (10, x10)]
def ee5 (x4 : PV) : Env := [(4, x4)]
def c1 : Code := at0 code
def c2 : Code := at1 code
def c3 : Code := at0 c2
def c4 : Code := at1 c2
def c5 : Code := at0 c4
def c6 : Code := at1 c4
def c7 : Code := at0 c6
def c8 : Code := at1 c6
def k9 (b : Nat) : KT := seqC (fun e S => execL (C b) 0 c8 (k0 b) e S) (k0 b)
@[go_sem] theorem k9_n : k9 b .normal (ee5 x4) S =
  (k0 b) .ret (ee5 x4) S := nr (seqN (execL_ret (by kernel_rfl)))
def k10 (b : Nat) : KT := seqC (fun e S => execL (C b) 0 c6 (k0 b) e S) (k0 b)
@[go_sem] theorem g11 : execL (C b) 0 c7 K (ee2 x0 x1 x5 x14) S =
  withV (some (.bool true)) fun x4 =>
    K .normal (ee5 x4) S := nr (by kernel_rfl)
@[go_sem] theorem k10_n : k10 b .normal e S = execL (C b) 0 c7 (k9 b) e S := nr (seqN (enterS (by kernel_rfl)))
def k12 (b : Nat) : KT := seqC (fun e S => execL (C b) 0 c4 (k0 b) e S) (k0 b)
def c13 : Code := at0 c5
def c14 : Code := at1 c5
def k15 (b : Nat) : KT := seqC (fun e S => execL (C b) 0 c14 (k10 b) e S) (k10 b)
def c16 : Code := atB c14
def k17 (b : Nat) : KT := blockC 0 (k10 b)
@[go_sem] theorem k17_exit : k17 b (.exit i) e S = if i = 0 then (k10 b) .normal e S else (k10 b) (.exit i) e S := nr (blockC_x _ _ _ _ _)
def c18 : Code := atL c16
def k19 (b n0 : Nat) : KT := afterC 0 n0 [] (k17 b)
def L0g (b n0 : Nat) (e : Env) (S : Store) : RT := loopL (fun K e S => execL (C b) 0 c18 K e S) (normG [0, 1, 5] [] n0) (k19 b n0) e S
def L0 (b n0 : Nat) (x0 x1 x5 : PV) (S : Store) : RT := L0g b n0 (ee1 x0 x1 x5) S
def k20 (b n0 : Nat) : KT := stepC (normG [0, 1, 5] [] n0) (k19 b n0) (L0g b n0)
@[go_sem] theorem k20_n : k20 b n0 .normal (ee1 x0 x1 x5) S = L0 b n0 x0 x1 x5 (gc n0 (ee1 x0 x1 x5) S) := nr (by kernel_rfl)
@[go_sem] theorem k20_x1 : k20 b n0 (.exit 0) (ee2 x0 x1 x5 x14) S = (k17 b) (.exit 0) (ee2 .undef .undef .undef .undef) (gc n0 (ee2 .undef .undef .undef .undef) S) := nr ((show k20 b n0 (.exit 0) (ee2 x0 x1 x5 x14) S = (k19 b n0) (.exit 0) (ee2 x0 x1 x5 x14) S from stepC_x _ _ _ _ _ _).trans ((show (k19 b n0) (.exit 0) (ee2 x0 x1 x5 x14) S = _ from afterC_x _ _ _ _ _ _ _).trans (if_pos rfl)))
def c21 : Code := at0 c18
def c22 : Code := at1 c18
def c23 : Code := at0 c22
def c24 : Code := at1 c22
def k25 (b n0 : Nat) : KT := seqC (fun e S => execL (C b) 0 c24 (k20 b n0) e S) (k20 b n0)
@[go_sem] theorem g26 : execL (C b) 0 c24 K (ee3 x0 x1 x5 x25) S =
  withV (some x5) fun x15 =>
    withV (evBin .add (tyi Try.prog 3) x15 (.int .i64 1)) fun x16 =>
    withV (some x16) fun x5 =>
    K .normal (ee1 x0 x1 x5) S := nr (by kernel_rfl)
@[go_sem] theorem k25_n : k25 b n0 .normal e S = execL (C b) 0 c24 (k20 b n0) e S := nr (seqN rfl)
def k27 (b n0 : Nat) : KT := seqC (fun e S => execL (C b) 0 c22 (k20 b n0) e S) (k20 b n0)
def c28 : Code := atB c23
def k29 (b n0 : Nat) : KT := blockC 1 (k25 b n0)
@[go_sem] theorem k29_n : k29 b n0 .normal e S = (k25 b n0) .normal e S := nr (blockC_n _ _ _ _)
def c30 : Code := at0 c28
def c31 : Code := at1 c28
def k32 (b n0 : Nat) : KT := seqC (fun e S => execL (C b) 1 c31 (k29 b n0) e S) (k29 b n0)
def c33 : Code := atT c31
def c36 : Code := at0 c33
def c37 : Code := at1 c33
def k38 (b n0 : Nat) : KT := seqC (fun e S => execL (C b) 1 c37 (k29 b n0) e S) (k29 b n0)
@[go_sem] theorem k32_n : k32 b n0 .normal (ee3 x0 x1 x5 x25) S =
  condC x25 (execL (C b) 1 c36 (k38 b n0) (ee3 x0 x1 x5 x25) S)
    ((k29 b n0) .normal (ee3 x0 x1 x5 x25) S) := nr (seqN (condE (t := 25) (by kernel_rfl) (enterS (by kernel_rfl)) (execL_skip (by kernel_rfl)) rfl))
@[go_sem] theorem g40 : execL (C b) 1 c30 K (ee2 x0 x1 x5 x14) S =
  withV (some x0) fun x17 =>
    withV (some x5) fun x18 =>
    withV (indexAddrO Try.prog 22 S x17 x18) fun x19 =>
    withV (evLoad (tyi Try.prog 3) S x19) fun x20 =>
    withV (some x1) fun x21 =>
    withV (some x5) fun x22 =>
    withV (indexAddrO Try.prog 22 S x21 x22) fun x23 =>
    withV (evLoad (tyi Try.prog 3) S x23) fun x24 =>
    withV (evBin .neq (tyi Try.prog 3) x20 x24) fun x25 =>
    K .normal (ee3 x0 x1 x5 x25) S := nr (by kernel_rfl)
@[go_sem] theorem k27_n : k27 b n0 .normal (ee2 x0 x1 x5 x14) S =
  execL (C b) 1 c30 (k32 b n0) (ee2 x0 x1 x5 x14) S := nr (seqN ((enterS (by kernel_rfl)).trans ((blockE (by kernel_rfl)).trans (enterS (by kernel_rfl)))))
@[go_sem] theorem k27_exit : k27 b n0 (.exit i) e S = (k20 b n0) (.exit i) e S := nr (seqC_x _ _ _ _ _)
def c41 : Code := at0 c21
def c42 : Code := at1 c21
def k43 (b n0 : Nat) : KT := seqC (fun e S => execL (C b) 0 c42 (k27 b n0) e S) (k27 b n0)
@[go_sem] theorem k43_n : k43 b n0 .normal (ee2 x0 x1 x5 x14) S =
  condC x14 ((k27 b n0) .normal (ee2 x0 x1 x5 x14) S)
    ((k27 b n0) (.exit 0) (ee2 x0 x1 x5 x14) S) := nr (seqN (condE (t := 14) (by kernel_rfl) (execL_skip (by kernel_rfl)) (execL_exit (by kernel_rfl)) rfl))
@[go_sem] theorem g46 : execL (C b) 0 c41 K (ee1 x0 x1 x5) S =
  withV (some x5) fun x11 =>
    withV (some x0) fun x12 =>
    withV (lenO (tyi Try.prog 22) x12) fun x13 =>
    withV (evBin .lss (tyi Try.prog 3) x11 x13) fun x14 =>
    K .normal (ee2 x0 x1 x5 x14) S := nr (by kernel_rfl)
def B0 (b n0 : Nat) (x0 x1 x5 : PV) (S : Store) : RT := execL (C b) 0 c18 (k20 b n0) (ee1 x0 x1 x5) S
@[go_sem] theorem B0_eq : B0 b n0 x0 x1 x5 S =
  execL (C b) 0 c41 (k43 b n0) (ee1 x0 x1 x5) S := nr ((enterS (by kernel_rfl)).trans (enterS (by kernel_rfl)))
theorem L0_step {b n0 : Nat} {x0 x1 x5 : PV} {S : Store} {z : PV × Store} (h : B0 b n0 x0 x1 x5 S = some z) : L0 b n0 x0 x1 x5 S = some z := loopL_step h
theorem L0_in (b : Nat) (x0 x1 x5 : PV) (S : Store) : execL (C b) 0 c16 (k17 b) (ee1 x0 x1 x5) S = L0 b (List.length S) x0 x1 x5 S := by kernel_rfl
@[go_sem] theorem k15_n : k15 b .normal (ee1 x0 x1 x5) S =
  L0 b (List.length S) x0 x1 x5 S := nr (seqN ((blockE (by kernel_rfl)).trans (L0_in b x0 x1 x5 S)))
@[go_sem] theorem g48 : execL (C b) 0 c13 K (ee4 x0 x1 x10) S =
  withV (some (.int .i64 0)) fun x5 =>
    K .normal (ee1 x0 x1 x5) S := nr (by kernel_rfl)
@[go_sem] theorem k12_n : k12 b .normal (ee4 x0 x1 x10) S =
  execL (C b) 0 c13 (k15 b) (ee4 x0 x1 x10) S := nr (seqN ((enterS (by kernel_rfl)).trans (enterS (by kernel_rfl))))
def k49 (b : Nat) : KT := seqC (fun e S => execL (C b) 0 c2 (k0 b) e S) (k0 b)
def c50 : Code := at0 c3
def c51 : Code := at1 c3
def k52 (b : Nat) : KT := seqC (fun e S => execL (C b) 0 c51 (k12 b) e S) (k12 b)
def c53 : Code := atT c51
def c56 : Code := at0 c53
def c57 : Code := at1 c53
def k58 (b : Nat) : KT := seqC (fun e S => execL (C b) 0 c57 (k12 b) e S) (k12 b)
@[go_sem] theorem k52_n : k52 b .normal (ee4 x0 x1 x10) S =
  condC x10 (execL (C b) 0 c56 (k58 b) (ee4 x0 x1 x10) S)
    ((k12 b) .normal (ee4 x0 x1 x10) S) := nr (seqN (condE (t := 10) (by kernel_rfl) (enterS (by kernel_rfl)) (execL_skip (by kernel_rfl)) rfl))
@[go_sem] theorem g60 : execL (C b) 0 c50 K (ee0 x0 x1) S =
  withV (some x0) fun x6 =>
    withV (lenO (tyi Try.prog 22) x6) fun x7 =>
    withV (some x1) fun x8 =>
    withV (lenO (tyi Try.prog 22) x8) fun x9 =>
    withV (evBin .neq (tyi Try.prog 3) x7 x9) fun x10 =>
    K .normal (ee4 x0 x1 x10) S := nr (by kernel_rfl)
@[go_sem] theorem k49_n : k49 b .normal (ee0 x0 x1) S =
  execL (C b) 0 c50 (k52 b) (ee0 x0 x1) S := nr (seqN ((enterS (by kernel_rfl)).trans (enterS (by kernel_rfl))))
@[go_sem] theorem g61 : execL (C b) 0 c1 K (ee0 x0 x1) S =
  withV (some (.bool false)) fun x4 =>
    K .normal (ee0 x0 x1) S := nr (by kernel_rfl)
def E (b : Nat) (x0 x1 : PV) (S : Store) : RT := execL (C b) 0 code (k0 b) (ee0 x0 x1) S
@[go_sem] theorem E_eq : E b x0 x1 S =
  execL (C b) 0 c1 (k49 b) (ee0 x0 x1) S := nr (enterS (by kernel_rfl))
@[go_sem] theorem k0_ret5 : k0 b .ret (ee5 x4) S = some (x4, S) := nr (by kernel_rfl)
theorem call {x0 x1 : PV} {r : PV × Store} {v : PV} (h : E 0 x0 x1 [] = some r) (hv : fzPV r.2 r.1 = some v) : callL Try.prog hints 59 [x0, x1] = some v := callL_of (fn := Try.f59) (c := code) (by kernel_rfl) (by kernel_rfl) (by decide) (by kernel_rfl) (Nat.le_of_ble_eq_true (by kernel_rfl)) h hv
end
end F59
/-! ### isochronelaw08.TreePaths -/
namespace F10
section
variable (b : Nat) (K : KT) (x0 x1 x2 x3 x4 x5 x6 x7 x8 x9 x10 x11 x12 x14 x22 : PV) (e : Env) (S : Store)
end
end F10
end
end Go.Vs
end
/- law 23's ints: lists that are the same. -/
section
set_option linter.unusedVariables false
set_option linter.unusedSimpArgs false
namespace Go.Vs
open Go Go.Proofs
theorem loopSame (l : List Int) (e1 e2 : Bool) (hl : l.length ≤ maxLen) : ∀ (m i : Nat), i + m = l.length → F59.L0 0 0 (.sl (intRows l) e1) (.sl (intRows l) e2) (.int .i64 i) [] = some (.bool true, []) := by
  intro m
  induction m with
  | zero =>
    intro i hi
    have h1 : ¬ (i : Int) < (l.length : Int) := by omega
    apply F59.L0_step
    simp only [go_sem, ↓reduceIte, Nat.reduceEqDiff, Nat.reduceBEq, Nat.reduceAdd, Nat.reduceMul, Nat.reduceSub, Nat.reduceLT, Nat.reduceLeDiff, reduceCtorEq, Int.reduceToNat, Int.reduceLE, Int.reduceLT, Int.reduceEq, withV_any, h1]
  | succ m hm =>
    intro i hi
    have h1 : (i : Int) < (l.length : Int) := by omega
    have h2 := wrap_succ (i := i) (n := l.length) (by omega) hl
    have h4 : 0 ≤ (i : Int) ∧ (i : Int) < (l.length : Int) := ⟨by omega, h1⟩
    apply F59.L0_step
    simp only [go_sem, ↓reduceIte, Nat.reduceEqDiff, Nat.reduceBEq, Nat.reduceAdd, Nat.reduceMul, Nat.reduceSub, Nat.reduceLT, Nat.reduceLeDiff, reduceCtorEq, Int.reduceToNat, Int.reduceLE, Int.reduceLT, Int.reduceEq, withV_any, h1, h2, h4, hm (i + 1) (by omega)]
theorem callSame {v w : PV} {l : List Int} (hv : IsInts v l) (hw : IsInts w l) (hl : l.length ≤ maxLen) : callL Try.prog hints 59 [v, w] = some (.bool true) := by
  obtain ⟨e1, rfl, _⟩ := hv
  obtain ⟨e2, rfl, _⟩ := hw
  refine F59.call (r := (.bool true, [])) ?_ rfl
  have h := loopSame l e1 e2 hl l.length 0 (by omega)
  simp only [Int.natCast_zero] at h
  simp only [go_sem, ↓reduceIte, Nat.reduceEqDiff, Nat.reduceBEq, Nat.reduceAdd, Nat.reduceMul, Nat.reduceSub, Nat.reduceLT, Nat.reduceLeDiff, reduceCtorEq, Int.reduceToNat, Int.reduceLE, Int.reduceLT, Int.reduceEq, withV_any, h, decide_true, Bool.not_true]
theorem call19 {v w : PV} {l : List Int} (hv : IsInts v l) (hw : IsInts w l) (hl : l.length ≤ maxLen) : callL Try.prog hints 19 [v, w] = some (.bool true) := by
  have c := fun S => callO_plain (S := S) (callSame hv hw hl) (by
    intro a ha
    rcases List.mem_cons.1 ha with rfl | ha
    · exact hv.plain
    · rw [List.mem_singleton.1 ha]; exact hw.plain)
  refine F19.call (r := (.bool true, [])) ?_ rfl
  simp only [go_sem, ↓reduceIte, Nat.reduceEqDiff, Nat.reduceBEq, Nat.reduceAdd, Nat.reduceMul, Nat.reduceSub, Nat.reduceLT, Nat.reduceLeDiff, reduceCtorEq, Int.reduceToNat, Int.reduceLE, Int.reduceLT, Int.reduceEq, withV_any, c]
end Go.Vs
end
/- The check of the statements' own package comes to true. -/
section
set_option linter.unusedVariables false
namespace Go.Vs
open Go Go.Proofs
def isTrue (x : Option PV) : Bool := match x with | some (.bool b) => b | _ => false
theorem isTrue_eq {x : Option PV} (h : isTrue x = true) : x = some (.bool true) := by
  unfold isTrue at h
  split at h
  · subst h; rfl
  · cases h
end Go.Vs
end
/- law 23's awake gives true. -/
section
set_option linter.unusedVariables false
set_option linter.unusedSimpArgs false
namespace Go.Vs
open Go Go.Proofs
theorem call13 : callL Try.prog hints 13 [] = some (.bool true) := callL_run (n := 60) (isTrue_eq (by kernel_rfl))
end Go.Vs
end

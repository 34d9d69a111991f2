/- game.Play and the reference's: what they return. -/

import Derived.Test.YtnddhkcciphhkaaMB9
import Derived.Test.YtnddhkcciphhkaaMB22
import Derived.Test.YtnddhkcciphhkaaMB24
import Derived.Test.YtnddhkcciphhkaaMB25
section
set_option linter.unusedVariables false
set_option linter.unusedSimpArgs false
set_option maxRecDepth 100000
namespace Go.Vs
open Go Go.Proofs
/-- The play, from a position on: what was seen, what lies behind. -/
def Game.playF (g : Game) (z o : List Int) : Nat → Nat → List Bool → List Int → List Int × Int
  | 0, _, _, P => (P, 0)
  | n + 1, j, seen, P =>
    if g.goal.getD j false = true then (P ++ [(j : Int)], 0)
    else if seen.getD j false = true then (P ++ [(j : Int)], 1)
    else if (if g.owner.getD j 0 = 1 then o.getD j 0 else z.getD j 0) < 0 then (P ++ [(j : Int)], 1 - g.owner.getD j 0)
    else g.playF z o n (if g.owner.getD j 0 = 1 then o.getD j 0 else z.getD j 0).toNat (seen.set j true) (P ++ [(j : Int)])
/-- How many positions were not seen yet. -/
def unseen (seen : List Bool) : Nat := seen.countP fun b => !b
theorem unseen_set : ∀ (seen : List Bool) (j : Nat), j < seen.length → seen.getD j false = false → unseen (seen.set j true) + 1 = unseen seen
  | [], j, h, _ => by simp at h
  | b :: r, 0, h, hb => by
    have : b = false := by simpa using hb
    subst this
    simp [unseen]
  | b :: r, j + 1, h, hb => by
    have ih := unseen_set r j (by simpa using h) (by simpa using hb)
    simp only [unseen] at ih
    simp only [List.set_cons_succ, unseen, List.countP_cons]
    omega
theorem boolRows_get {L : List Bool} {j : Nat} (h : j < L.length) : (boolRows L).getD j [] = [.bool (L.getD j false)] := by
  simp [boolRows, List.getD_eq_getElem?_getD, h]
noncomputable def playS (g : Game) (seen : List Bool) (P : List Int) (gr : Option Nat) : Store := [.arr [g.cells] none false, .arr (boolRows seen) (some (some 1)) false, .arr (intRows P) (some gr) false]
theorem play_append (g : Game) (seen : List Bool) (P : List Int) (gr : Option Nat) (hg : gr = none ∨ gr = some 1) (a : Int) (hn : P.length ≤ 2000000) :
    appendE Try.prog 0 22 22 [.arr [g.cells] none false, .arr (boolRows seen) (some (some 1)) false, .arr (intRows P) (some gr) false, .arr [[.int .i64 a]] (some (some 1)) false] (.msl 2 0 P.length false) (.msl 3 0 1 true) = some { v := .msl 2 0 (P.length + 1) false, S := [.arr [g.cells] none false, .arr (boolRows seen) (some (some 1)) false, .arr (intRows (P ++ [a])) (some (some 1)) false, .arr [[.int .i64 a]] (some (some 1)) false], kill := [2] } := by
  have h := appendHere (S := [.arr [g.cells] none false, .arr (boolRows seen) (some (some 1)) false, .arr (intRows P) (some gr) false, .arr [[.int .i64 a]] (some (some 1)) false]) (id := 2) (L := P) (l := [a]) (y := .msl 3 0 1 true) rfl hg (.msl 3 [a] true (some (some 1)) false rfl) (by simp; omega)
  rw [h]
  have e1 : killRows [2] [g.cells] = [g.cells] := killRows_id (fun r hr => by
    simp only [rowsRefs_cons, rowsRefs_nil, Game.refs, List.append_nil] at hr
    cases hr)
  have e2 : killRows [2] (boolRows seen) = boolRows seen := killRows_id (fun r hr => by rw [boolRows_refs] at hr; cases hr)
  simp only [List.map_cons, List.map_nil, killObj_arr, e1, e2, List.set_cons_succ, List.set_cons_zero, List.length_append, List.length_cons, List.length_nil, Nat.zero_add]
  rfl
section
attribute [local irreducible] Vs.callL Vs.callRL tyi callO callM callMV appendE storeE evLoad indexAddrO sliceO evFieldAddr evField buildO buildSliceO makeSliceO allocO boxed lenO copyE convertO indexO Vs.gc freezeAll
noncomputable def fx28 : FX := ⟨Try.f28, hints.of 28, []⟩
theorem ok28 : fx28.ok 28 := ⟨by kernel_rfl, of_decide_eq_true (by kernel_rfl), by kernel_rfl, by kernel_rfl, by kernel_rfl⟩
theorem sem28 (b0 : Nat) (m : Md) (fs : List Fr) (e : Env) (S : Store) : sem b0 fx28 m fs e S = run b0 fx28 1000 m fs e S := (sem_eq _ _ _ _ _ _).trans (run_sem b0 fx28 ok28.good 1000 m fs e S).symm
theorem loop28_0 (g : Game) (hgd : g.good) (z o : List Int) (hz : g.fits 0 z = true) (ho : g.fits 1 o = true) : ∀ (n j : Nat) (seen : List Bool) (P : List Int) (gr : Option Nat), j < g.owner.length → seen.length = g.owner.length → (gr = none ∨ gr = some 1) → unseen seen < n → P.length + n ≤ 1000 →
    ∃ S', loopAt 0 fx28 0 508 3 [.blk 0] [(1, .sl (intRows z) false), (2, .sl (intRows o) false), (4, .mp 0 0 0), (8, .msl 2 0 P.length false), (12, .msl 1 0 g.owner.length true), (13, .int .i64 j)] (playS g seen P gr) = some (.tup [.msl 2 0 (g.playF z o n j seen P).1.length false, .int .i64 (g.playF z o n j seen P).2, .int .i64 0], S') ∧ ∃ gg, S'[2]? = some (.arr (intRows (g.playF z o n j seen P).1) gg false) := by
  have hN := hgd.n
  have hM := hgd.m
  have hL := hgd.l
  have hzl := fits_len hz
  have hol := fits_len ho
  have hm4 : (4000 : Nat) ≤ maxLen := by decide
  intro n
  induction n with
  | zero => intro j seen P gr h1 h2 h3 h4 h5; omega
  | succ n hn =>
    intro j seen P gr hj hs hgr hu hP
    have h5 : 0 ≤ (j : Int) ∧ (j : Int) < (g.owner.length : Int) := ⟨by omega, by omega⟩
    have h6 : 0 ≤ (j : Int) ∧ (j : Int) < (g.goal.length : Int) := ⟨by omega, by omega⟩
    have h7 : 0 ≤ (j : Int) ∧ (j : Int) < (z.length : Int) := ⟨by omega, by omega⟩
    have h8 : 0 ≤ (j : Int) ∧ (j : Int) < (o.length : Int) := ⟨by omega, by omega⟩
    have ap := play_append g seen P gr hgr j (by omega)
    have hjs : j < seen.length := by omega
    have bg := boolRows_get hjs
    have bset : (boolRows seen).set j [.bool true] = boolRows (seen.set j true) := by simp [boolRows, List.map_set]
    have x1 : ∀ A : Obj, ∀ T : Store, indexAddrO Try.prog 24 (A :: .arr (boolRows seen) (some (some 1)) false :: T) (.msl 1 0 g.owner.length true) (.int .i64 j) = some (.mp 1 j 0) := fun A T => idx24m j rfl (by rw [boolRows_length, hs]) (boolRows_ok seen) (by omega)
    rw [Game.playF]
    by_cases c1 : g.goal.getD j false = true
    · rw [if_pos c1]
      refine ⟨[.arr [g.cells] none false, .arr (boolRows seen) (some (some 1)) false, .arr (intRows (P ++ [(j : Int)])) (some (some 1)) false, .arr [[.int .i64 j]] (some (some 1)) false], loopAt_step ok28.good 1000 ?_, _, rfl⟩
      unfold playS
      simp only [List.length_append, List.length_cons, List.length_nil, Nat.zero_add]
      ((repeat ((conv => lhs; whnf); simp only [go_sem, ↓reduceIte, Nat.reduceEqDiff, Nat.reduceBEq, Nat.reduceAdd, Nat.reduceMul, Nat.reduceSub, Nat.reduceLT, Nat.reduceLeDiff, reduceCtorEq, Int.reduceToNat, Int.reduceLE, Int.reduceLT, Int.reduceEq, sem28, ap, h6, c1, Int.toNat_natCast])); try (conv => lhs; whnf); try rfl)
    · rw [if_neg c1]
      have c1' : g.goal.getD j false = false := by simpa using c1
      by_cases c2 : seen.getD j false = true
      · rw [if_pos c2]
        refine ⟨[.arr [g.cells] none false, .arr (boolRows seen) (some (some 1)) false, .arr (intRows (P ++ [(j : Int)])) (some (some 1)) false, .arr [[.int .i64 j]] (some (some 1)) false], loopAt_step ok28.good 1000 ?_, _, rfl⟩
        unfold playS
        simp only [List.length_append, List.length_cons, List.length_nil, Nat.zero_add]
        ((repeat ((conv => lhs; whnf); simp only [go_sem, ↓reduceIte, Nat.reduceEqDiff, Nat.reduceBEq, Nat.reduceAdd, Nat.reduceMul, Nat.reduceSub, Nat.reduceLT, Nat.reduceLeDiff, reduceCtorEq, Int.reduceToNat, Int.reduceLE, Int.reduceLT, Int.reduceEq, sem28, ap, h6, c1', Int.toNat_natCast, x1, hjs, bg, c2])); try (conv => lhs; whnf); try rfl)
      · rw [if_neg c2]
        have c2' : seen.getD j false = false := by simpa using c2
        have hu' := unseen_set seen j hjs c2'
        have own := hgd.ok.own j hj
        have own' : g.owner.getD j 0 = 0 ∨ g.owner.getD j 0 = 1 := own
        have w1 : IntKind.i64.wrap (1 - g.owner.getD j 0) = 1 - g.owner.getD j 0 := by
          rw [IntKind.wrap_i64]
          rcases own' with e | e <;> rw [e] <;> decide
        have fin : ∀ nx : Int, 0 ≤ nx → (nx = z.getD j 0 ∧ ¬ g.owner.getD j 0 = 1) ∨ (nx = o.getD j 0 ∧ g.owner.getD j 0 = 1) → ∃ j' : Nat, j' < g.owner.length ∧ nx = j' := fun nx hx hh => by
          rcases hh with ⟨e, _⟩ | ⟨e, _⟩
          · rcases fits_at hz hj with h | h
            · omega
            · have := hgd.ok.mv j hj nx (by rw [e]; exact h.2)
              exact ⟨nx.toNat, by have h2 : nx < (g.owner.length : Int) := this.2; omega, by omega⟩
          · rcases fits_at ho hj with h | h
            · omega
            · have := hgd.ok.mv j hj nx (by rw [e]; exact h.2)
              exact ⟨nx.toNat, by have h2 : nx < (g.owner.length : Int) := this.2; omega, by omega⟩
        by_cases c3 : g.owner.getD j 0 = 1
        · rw [if_pos c3]
          by_cases c4 : o.getD j 0 < 0
          · rw [if_pos c4]
            refine ⟨[.arr [g.cells] none false, .arr (boolRows (seen.set j true)) (some (some 1)) false, .arr (intRows (P ++ [(j : Int)])) (some (some 1)) false, .arr [[.int .i64 j]] (some (some 1)) false], loopAt_step ok28.good 1000 ?_, _, rfl⟩
            unfold playS
            simp only [List.length_append, List.length_cons, List.length_nil, Nat.zero_add]
            rw [c3] at w1 ⊢
            ((repeat ((conv => lhs; whnf); simp only [go_sem, ↓reduceIte, Nat.reduceEqDiff, Nat.reduceBEq, Nat.reduceAdd, Nat.reduceMul, Nat.reduceSub, Nat.reduceLT, Nat.reduceLeDiff, reduceCtorEq, Int.reduceToNat, Int.reduceLE, Int.reduceLT, Int.reduceEq, sem28, ap, h6, c1', Int.toNat_natCast, x1, hjs, bg, c2', bset, h5, h7, h8, c3, c4, w1])); try (conv => lhs; whnf); try rfl)
          · rw [if_neg c4]
            obtain ⟨j', hj', ej⟩ := fin (o.getD j 0) (by omega) (.inr ⟨rfl, c3⟩)
            rw [ej, Int.toNat_natCast]
            obtain ⟨S', b1, b2⟩ := hn j' (seen.set j true) (P ++ [(j : Int)]) (some 1) hj' (by rw [List.length_set]; exact hs) (.inr rfl) (by omega) (by simp; omega)
            refine ⟨S', loopAt_step ok28.good 1000 ?_, b2⟩
            simp only [playS, List.length_append, List.length_cons, List.length_nil, Nat.zero_add] at b1 ⊢
            rw [ej] at c4
            ((repeat ((conv => lhs; whnf); simp only [go_sem, ↓reduceIte, Nat.reduceEqDiff, Nat.reduceBEq, Nat.reduceAdd, Nat.reduceMul, Nat.reduceSub, Nat.reduceLT, Nat.reduceLeDiff, reduceCtorEq, Int.reduceToNat, Int.reduceLE, Int.reduceLT, Int.reduceEq, sem28, ap, h6, c1', Int.toNat_natCast, x1, hjs, bg, c2', bset, h5, h7, h8, c3, ej, c4, boolRows_refs])); try (conv => lhs; whnf); try rfl)
            exact b1
        · rw [if_neg c3]
          by_cases c4 : z.getD j 0 < 0
          · rw [if_pos c4]
            refine ⟨[.arr [g.cells] none false, .arr (boolRows (seen.set j true)) (some (some 1)) false, .arr (intRows (P ++ [(j : Int)])) (some (some 1)) false, .arr [[.int .i64 j]] (some (some 1)) false], loopAt_step ok28.good 1000 ?_, _, rfl⟩
            unfold playS
            simp only [List.length_append, List.length_cons, List.length_nil, Nat.zero_add]
            ((repeat ((conv => lhs; whnf); simp only [go_sem, ↓reduceIte, Nat.reduceEqDiff, Nat.reduceBEq, Nat.reduceAdd, Nat.reduceMul, Nat.reduceSub, Nat.reduceLT, Nat.reduceLeDiff, reduceCtorEq, Int.reduceToNat, Int.reduceLE, Int.reduceLT, Int.reduceEq, sem28, ap, h6, c1', Int.toNat_natCast, x1, hjs, bg, c2', bset, h5, h7, h8, c3, c4, w1])); try (conv => lhs; whnf); try rfl)
          · rw [if_neg c4]
            obtain ⟨j', hj', ej⟩ := fin (z.getD j 0) (by omega) (.inl ⟨rfl, c3⟩)
            rw [ej, Int.toNat_natCast]
            obtain ⟨S', b1, b2⟩ := hn j' (seen.set j true) (P ++ [(j : Int)]) (some 1) hj' (by rw [List.length_set]; exact hs) (.inr rfl) (by omega) (by simp; omega)
            refine ⟨S', loopAt_step ok28.good 1000 ?_, b2⟩
            simp only [playS, List.length_append, List.length_cons, List.length_nil, Nat.zero_add] at b1 ⊢
            rw [ej] at c4
            ((repeat ((conv => lhs; whnf); simp only [go_sem, ↓reduceIte, Nat.reduceEqDiff, Nat.reduceBEq, Nat.reduceAdd, Nat.reduceMul, Nat.reduceSub, Nat.reduceLT, Nat.reduceLeDiff, reduceCtorEq, Int.reduceToNat, Int.reduceLE, Int.reduceLT, Int.reduceEq, sem28, ap, h6, c1', Int.toNat_natCast, x1, hjs, bg, c2', bset, h5, h7, h8, c3, ej, c4, boolRows_refs])); try (conv => lhs; whnf); try rfl)
            exact b1
noncomputable def fx29 : FX := ⟨Try.f29, hints.of 29, []⟩
theorem ok29 : fx29.ok 29 := ⟨by kernel_rfl, of_decide_eq_true (by kernel_rfl), by kernel_rfl, by kernel_rfl, by kernel_rfl⟩
theorem sem29 (b0 : Nat) (m : Md) (fs : List Fr) (e : Env) (S : Store) : sem b0 fx29 m fs e S = run b0 fx29 1000 m fs e S := (sem_eq _ _ _ _ _ _).trans (run_sem b0 fx29 ok29.good 1000 m fs e S).symm
theorem loop29_0 (g : Game) (hgd : g.good) (z o : List Int) (hz : g.fits 0 z = true) (ho : g.fits 1 o = true) : ∀ (n j : Nat) (seen : List Bool) (P : List Int) (gr : Option Nat), j < g.owner.length → seen.length = g.owner.length → (gr = none ∨ gr = some 1) → unseen seen < n → P.length + n ≤ 1000 →
    ∃ S', loopAt 0 fx29 0 1020 3 [.blk 0] [(1, .sl (intRows z) false), (2, .sl (intRows o) false), (4, .mp 0 0 0), (12, .msl 1 0 g.owner.length true), (13, .msl 2 0 P.length false), (14, .int .i64 j)] (playS g seen P gr) = some (.tup [.msl 2 0 (g.playF z o n j seen P).1.length false, .int .i64 (g.playF z o n j seen P).2, .int .i64 0], S') ∧ ∃ gg, S'[2]? = some (.arr (intRows (g.playF z o n j seen P).1) gg false) := by
  have hN := hgd.n
  have hM := hgd.m
  have hL := hgd.l
  have hzl := fits_len hz
  have hol := fits_len ho
  have hm4 : (4000 : Nat) ≤ maxLen := by decide
  intro n
  induction n with
  | zero => intro j seen P gr h1 h2 h3 h4 h5; omega
  | succ n hn =>
    intro j seen P gr hj hs hgr hu hP
    have h5 : 0 ≤ (j : Int) ∧ (j : Int) < (g.owner.length : Int) := ⟨by omega, by omega⟩
    have h6 : 0 ≤ (j : Int) ∧ (j : Int) < (g.goal.length : Int) := ⟨by omega, by omega⟩
    have h7 : 0 ≤ (j : Int) ∧ (j : Int) < (z.length : Int) := ⟨by omega, by omega⟩
    have h8 : 0 ≤ (j : Int) ∧ (j : Int) < (o.length : Int) := ⟨by omega, by omega⟩
    have ap := play_append g seen P gr hgr j (by omega)
    have hjs : j < seen.length := by omega
    have bg := boolRows_get hjs
    have bset : (boolRows seen).set j [.bool true] = boolRows (seen.set j true) := by simp [boolRows, List.map_set]
    have x1 : ∀ A : Obj, ∀ T : Store, indexAddrO Try.prog 24 (A :: .arr (boolRows seen) (some (some 1)) false :: T) (.msl 1 0 g.owner.length true) (.int .i64 j) = some (.mp 1 j 0) := fun A T => idx24m j rfl (by rw [boolRows_length, hs]) (boolRows_ok seen) (by omega)
    rw [Game.playF]
    by_cases c1 : g.goal.getD j false = true
    · rw [if_pos c1]
      refine ⟨[.arr [g.cells] none false, .arr (boolRows seen) (some (some 1)) false, .arr (intRows (P ++ [(j : Int)])) (some (some 1)) false, .arr [[.int .i64 j]] (some (some 1)) false], loopAt_step ok29.good 1000 ?_, _, rfl⟩
      unfold playS
      simp only [List.length_append, List.length_cons, List.length_nil, Nat.zero_add]
      ((repeat ((conv => lhs; whnf); simp only [go_sem, ↓reduceIte, Nat.reduceEqDiff, Nat.reduceBEq, Nat.reduceAdd, Nat.reduceMul, Nat.reduceSub, Nat.reduceLT, Nat.reduceLeDiff, reduceCtorEq, Int.reduceToNat, Int.reduceLE, Int.reduceLT, Int.reduceEq, sem29, ap, h6, c1, Int.toNat_natCast])); try (conv => lhs; whnf); try rfl)
    · rw [if_neg c1]
      have c1' : g.goal.getD j false = false := by simpa using c1
      by_cases c2 : seen.getD j false = true
      · rw [if_pos c2]
        refine ⟨[.arr [g.cells] none false, .arr (boolRows seen) (some (some 1)) false, .arr (intRows (P ++ [(j : Int)])) (some (some 1)) false, .arr [[.int .i64 j]] (some (some 1)) false], loopAt_step ok29.good 1000 ?_, _, rfl⟩
        unfold playS
        simp only [List.length_append, List.length_cons, List.length_nil, Nat.zero_add]
        ((repeat ((conv => lhs; whnf); simp only [go_sem, ↓reduceIte, Nat.reduceEqDiff, Nat.reduceBEq, Nat.reduceAdd, Nat.reduceMul, Nat.reduceSub, Nat.reduceLT, Nat.reduceLeDiff, reduceCtorEq, Int.reduceToNat, Int.reduceLE, Int.reduceLT, Int.reduceEq, sem29, ap, h6, c1', Int.toNat_natCast, x1, hjs, bg, c2])); try (conv => lhs; whnf); try rfl)
      · rw [if_neg c2]
        have c2' : seen.getD j false = false := by simpa using c2
        have hu' := unseen_set seen j hjs c2'
        have own := hgd.ok.own j hj
        have own' : g.owner.getD j 0 = 0 ∨ g.owner.getD j 0 = 1 := own
        have w1 : IntKind.i64.wrap (1 - g.owner.getD j 0) = 1 - g.owner.getD j 0 := by
          rw [IntKind.wrap_i64]
          rcases own' with e | e <;> rw [e] <;> decide
        have fin : ∀ nx : Int, 0 ≤ nx → (nx = z.getD j 0 ∧ ¬ g.owner.getD j 0 = 1) ∨ (nx = o.getD j 0 ∧ g.owner.getD j 0 = 1) → ∃ j' : Nat, j' < g.owner.length ∧ nx = j' := fun nx hx hh => by
          rcases hh with ⟨e, _⟩ | ⟨e, _⟩
          · rcases fits_at hz hj with h | h
            · omega
            · have := hgd.ok.mv j hj nx (by rw [e]; exact h.2)
              exact ⟨nx.toNat, by have h2 : nx < (g.owner.length : Int) := this.2; omega, by omega⟩
          · rcases fits_at ho hj with h | h
            · omega
            · have := hgd.ok.mv j hj nx (by rw [e]; exact h.2)
              exact ⟨nx.toNat, by have h2 : nx < (g.owner.length : Int) := this.2; omega, by omega⟩
        by_cases c3 : g.owner.getD j 0 = 1
        · rw [if_pos c3]
          by_cases c4 : o.getD j 0 < 0
          · rw [if_pos c4]
            refine ⟨[.arr [g.cells] none false, .arr (boolRows (seen.set j true)) (some (some 1)) false, .arr (intRows (P ++ [(j : Int)])) (some (some 1)) false, .arr [[.int .i64 j]] (some (some 1)) false], loopAt_step ok29.good 1000 ?_, _, rfl⟩
            unfold playS
            simp only [List.length_append, List.length_cons, List.length_nil, Nat.zero_add]
            rw [c3] at w1 ⊢
            ((repeat ((conv => lhs; whnf); simp only [go_sem, ↓reduceIte, Nat.reduceEqDiff, Nat.reduceBEq, Nat.reduceAdd, Nat.reduceMul, Nat.reduceSub, Nat.reduceLT, Nat.reduceLeDiff, reduceCtorEq, Int.reduceToNat, Int.reduceLE, Int.reduceLT, Int.reduceEq, sem29, ap, h6, c1', Int.toNat_natCast, x1, hjs, bg, c2', bset, h5, h7, h8, c3, c4, w1])); try (conv => lhs; whnf); try rfl)
          · rw [if_neg c4]
            obtain ⟨j', hj', ej⟩ := fin (o.getD j 0) (by omega) (.inr ⟨rfl, c3⟩)
            rw [ej, Int.toNat_natCast]
            obtain ⟨S', b1, b2⟩ := hn j' (seen.set j true) (P ++ [(j : Int)]) (some 1) hj' (by rw [List.length_set]; exact hs) (.inr rfl) (by omega) (by simp; omega)
            refine ⟨S', loopAt_step ok29.good 1000 ?_, b2⟩
            simp only [playS, List.length_append, List.length_cons, List.length_nil, Nat.zero_add] at b1 ⊢
            rw [ej] at c4
            ((repeat ((conv => lhs; whnf); simp only [go_sem, ↓reduceIte, Nat.reduceEqDiff, Nat.reduceBEq, Nat.reduceAdd, Nat.reduceMul, Nat.reduceSub, Nat.reduceLT, Nat.reduceLeDiff, reduceCtorEq, Int.reduceToNat, Int.reduceLE, Int.reduceLT, Int.reduceEq, sem29, ap, h6, c1', Int.toNat_natCast, x1, hjs, bg, c2', bset, h5, h7, h8, c3, ej, c4, boolRows_refs])); try (conv => lhs; whnf); try rfl)
            exact b1
        · rw [if_neg c3]
          by_cases c4 : z.getD j 0 < 0
          · rw [if_pos c4]
            refine ⟨[.arr [g.cells] none false, .arr (boolRows (seen.set j true)) (some (some 1)) false, .arr (intRows (P ++ [(j : Int)])) (some (some 1)) false, .arr [[.int .i64 j]] (some (some 1)) false], loopAt_step ok29.good 1000 ?_, _, rfl⟩
            unfold playS
            simp only [List.length_append, List.length_cons, List.length_nil, Nat.zero_add]
            ((repeat ((conv => lhs; whnf); simp only [go_sem, ↓reduceIte, Nat.reduceEqDiff, Nat.reduceBEq, Nat.reduceAdd, Nat.reduceMul, Nat.reduceSub, Nat.reduceLT, Nat.reduceLeDiff, reduceCtorEq, Int.reduceToNat, Int.reduceLE, Int.reduceLT, Int.reduceEq, sem29, ap, h6, c1', Int.toNat_natCast, x1, hjs, bg, c2', bset, h5, h7, h8, c3, c4, w1])); try (conv => lhs; whnf); try rfl)
          · rw [if_neg c4]
            obtain ⟨j', hj', ej⟩ := fin (z.getD j 0) (by omega) (.inl ⟨rfl, c3⟩)
            rw [ej, Int.toNat_natCast]
            obtain ⟨S', b1, b2⟩ := hn j' (seen.set j true) (P ++ [(j : Int)]) (some 1) hj' (by rw [List.length_set]; exact hs) (.inr rfl) (by omega) (by simp; omega)
            refine ⟨S', loopAt_step ok29.good 1000 ?_, b2⟩
            simp only [playS, List.length_append, List.length_cons, List.length_nil, Nat.zero_add] at b1 ⊢
            rw [ej] at c4
            ((repeat ((conv => lhs; whnf); simp only [go_sem, ↓reduceIte, Nat.reduceEqDiff, Nat.reduceBEq, Nat.reduceAdd, Nat.reduceMul, Nat.reduceSub, Nat.reduceLT, Nat.reduceLeDiff, reduceCtorEq, Int.reduceToNat, Int.reduceLE, Int.reduceLT, Int.reduceEq, sem29, ap, h6, c1', Int.toNat_natCast, x1, hjs, bg, c2', bset, h5, h7, h8, c3, ej, c4, boolRows_refs])); try (conv => lhs; whnf); try rfl)
            exact b1
end
end Go.Vs
end
/- The reference's Strategy: its inner loop. -/
section
set_option linter.unusedVariables false
set_option linter.unusedSimpArgs false
namespace Go.Vs
open Go Go.Proofs
theorem loop25_2 (g : Game) (hg : g.good) (p ri : Int) (R : List Int) (hR : R.length = g.owner.length) (hri : -1000000000 ≤ ri ∧ ri ≤ 1000000000) (i : Nat) (hi : i < g.owner.length) (hr : R.getD i 0 = ri) (U : List Int) (hU : U.length = g.owner.length) (n2 : Nat) : ∀ k : Nat, k ≤ (g.moves.getD i []).length → ∀ S : Store, S.length = n2 → FS g 1 (U.set i (pickM p ri R ((g.moves.getD i []).drop k))) S →
    ∃ S', S'.length = n2 ∧ FS g 1 (U.set i (pickM p ri R (g.moves.getD i []))) S' ∧ ∀ z : PV × Store, F25.k35 0 2 .normal (F25.ee9 (.int .i64 p) (.mp 0 0 0) (.sl (intRows R) false) (.msl 1 0 g.owner.length true) (.int .i64 i) .undef .undef .undef) S' = some z →
      F25.L2 0 2 n2 (.int .i64 p) (.mp 0 0 0) (.sl (intRows R) false) (.msl 1 0 g.owner.length true) (.int .i64 i) (.int .i64 ((k : Int) - 1)) S = some z := by
  have hN := hg.n
  have hL := hg.s i
  have hm4 : (4000 : Nat) ≤ maxLen := by decide
  have h4 : 0 ≤ (i : Int) ∧ (i : Int) < (g.moves.length : Int) := ⟨by omega, by rw [hg.m]; omega⟩
  intro k
  induction k with
  | zero =>
    intro hk S hS h
    rw [List.drop_zero] at h
    refine ⟨S, hS, h, fun z hz => F25.L2_step ?_⟩
    have c1 : ¬ (0 : Int) ≤ ((0 : Nat) : Int) - 1 := by decide
    have s1 : ∀ (K : KT), execL (F25.C 0) 2 F25.c69 K (F25.ee6 (.int .i64 p) (.mp 0 0 0) (.sl (intRows R) false) (.msl 1 0 g.owner.length true) (.int .i64 i) (.int .i64 (((0 : Nat) : Int) - 1))) S = K .normal (F25.ee9 (.int .i64 p) (.mp 0 0 0) (.sl (intRows R) false) (.msl 1 0 g.owner.length true) (.int .i64 i) (.int .i64 (((0 : Nat) : Int) - 1)) .undef (.bool false)) S := fun K => by
      simp only [F25.g74, withV_any, evBin_geq, c1, decide_false]
    subst hS
    simp only [F25.B2_eq, s1, F25.k71_n, condC_false, F25.k54_exit, F25.k47_x1, F25.k44_exit, if_true, gc_full]
    exact hz
  | succ k ih =>
    intro hk S hS h
    have hkl : k < (g.moves.getD i []).length := by omega
    have e0 : ((k + 1 : Nat) : Int) - 1 = (k : Int) := by omega
    rw [e0]
    have h5 : 0 ≤ (k : Int) ∧ (k : Int) < ((g.moves.getD i []).length : Int) := ⟨by omega, by omega⟩
    have c1 : (0 : Int) ≤ (k : Int) := by omega
    have r0 := rowsAt_of h.p0
    have r1 := rowsAt_of h.pR
    obtain ⟨q1, q2⟩ := hg.ok.mv i (by simp only [Game.toG]; omega) ((g.moves.getD i []).getD k 0) (by
      have e : (g.moves.getD i []).getD k 0 = (g.moves.getD i [])[k] := by rw [List.getD_eq_getElem?_getD (l := g.moves.getD i []), List.getElem?_eq_getElem hkl]; rfl
      rw [e]; exact List.getElem_mem hkl)
    obtain ⟨q, eq⟩ : ∃ q : Nat, (g.moves.getD i []).getD k 0 = q := ⟨((g.moves.getD i []).getD k 0).toNat, by omega⟩
    have hq : q < R.length := by simp only [Game.toG] at q2; omega
    have h6 : 0 ≤ (q : Int) ∧ (q : Int) < (R.length : Int) := ⟨by omega, by omega⟩
    have h7 : 0 ≤ (i : Int) ∧ (i : Int) < (R.length : Int) := ⟨by omega, by omega⟩
    have w2 := wrap_dec hri.1 hri.2
    have w3 : IntKind.i64.wrap ((k : Int) - 1) = (k : Int) - 1 := wrap_dec (by omega) (by omega)
    have ed : (g.moves.getD i []).drop k = (q : Int) :: (g.moves.getD i []).drop (k + 1) := by
      rw [List.drop_eq_getElem_cons hkl]
      rw [List.getD_eq_getElem?_getD (l := g.moves.getD i []), List.getElem?_eq_getElem hkl, Option.getD_some] at eq
      rw [eq]
    have s1 : ∀ (K : KT), execL (F25.C 0) 2 F25.c69 K (F25.ee6 (.int .i64 p) (.mp 0 0 0) (.sl (intRows R) false) (.msl 1 0 g.owner.length true) (.int .i64 i) (.int .i64 k)) S = K .normal (F25.ee9 (.int .i64 p) (.mp 0 0 0) (.sl (intRows R) false) (.msl 1 0 g.owner.length true) (.int .i64 i) (.int .i64 k) .undef (.bool true)) S := fun K => by
      simp only [go_sem, ↓reduceIte, Nat.reduceEqDiff, Nat.reduceBEq, Nat.reduceAdd, Nat.reduceMul, Nat.reduceSub, Nat.reduceLT, Nat.reduceLeDiff, reduceCtorEq, Int.reduceToNat, Int.reduceLE, Int.reduceLT, Int.reduceEq, withV_any, c1, decide_true]
    have s2 : ∀ (K : KT), execL (F25.C 0) 3 F25.c57 K (F25.ee9 (.int .i64 p) (.mp 0 0 0) (.sl (intRows R) false) (.msl 1 0 g.owner.length true) (.int .i64 i) (.int .i64 k) .undef (.bool true)) S = K .normal (F25.ee7 (.int .i64 p) (.mp 0 0 0) (.sl (intRows R) false) (.msl 1 0 g.owner.length true) (.int .i64 i) (.int .i64 k) (.int .i64 q)) S := fun K => by
      simp only [go_sem, ↓reduceIte, Nat.reduceEqDiff, Nat.reduceBEq, Nat.reduceAdd, Nat.reduceMul, Nat.reduceSub, Nat.reduceLT, Nat.reduceLeDiff, reduceCtorEq, Int.reduceToNat, Int.reduceLE, Int.reduceLT, Int.reduceEq, withV_any, r0, h4, h5, Int.toNat_natCast, eq]
    have s3 : ∀ (K : KT), execL (F25.C 0) 3 F25.c59 K (F25.ee7 (.int .i64 p) (.mp 0 0 0) (.sl (intRows R) false) (.msl 1 0 g.owner.length true) (.int .i64 i) (.int .i64 k) (.int .i64 q)) S = K .normal (F25.ee8 (.int .i64 p) (.mp 0 0 0) (.sl (intRows R) false) (.msl 1 0 g.owner.length true) (.int .i64 i) (.int .i64 k) (.int .i64 q) (.bool (okM p ri (R.getD q 0)))) S := fun K => by
      by_cases a0 : p = 0
      · subst a0
        by_cases b : R.getD q 0 = ri - 1
        · have e : okM 0 ri (R.getD q 0) = true := by simp only [okM, b, decide_true, Bool.and_self, Bool.true_or]
          rw [e]
          simp only [go_sem, ↓reduceIte, Nat.reduceEqDiff, Nat.reduceBEq, Nat.reduceAdd, Nat.reduceMul, Nat.reduceSub, Nat.reduceLT, Nat.reduceLeDiff, reduceCtorEq, Int.reduceToNat, Int.reduceLE, Int.reduceLT, Int.reduceEq, withV_any, h6, h7, Int.toNat_natCast, hr, w2, b, decide_true]
        · have e : okM 0 ri (R.getD q 0) = false := by simp only [okM, b, decide_false, Bool.and_false, show ¬ (0 : Int) = 1 by decide, Bool.false_and, Bool.or_self]
          rw [e]
          simp only [go_sem, ↓reduceIte, Nat.reduceEqDiff, Nat.reduceBEq, Nat.reduceAdd, Nat.reduceMul, Nat.reduceSub, Nat.reduceLT, Nat.reduceLeDiff, reduceCtorEq, Int.reduceToNat, Int.reduceLE, Int.reduceLT, Int.reduceEq, withV_any, h6, h7, Int.toNat_natCast, hr, w2, b, decide_false]
      · by_cases a1 : p = 1
        · subst a1
          by_cases b : R.getD q 0 < 0
          · have e : okM 1 ri (R.getD q 0) = true := by simp only [okM, b, decide_true, Bool.and_self, Bool.or_true]
            rw [e]
            simp only [go_sem, ↓reduceIte, Nat.reduceEqDiff, Nat.reduceBEq, Nat.reduceAdd, Nat.reduceMul, Nat.reduceSub, Nat.reduceLT, Nat.reduceLeDiff, reduceCtorEq, Int.reduceToNat, Int.reduceLE, Int.reduceLT, Int.reduceEq, withV_any, h6, h7, Int.toNat_natCast, b, decide_true]
          · have e : okM 1 ri (R.getD q 0) = false := by simp only [okM, b, decide_false, Bool.and_false, show ¬ (1 : Int) = 0 by decide, Bool.false_and, Bool.or_self]
            rw [e]
            simp only [go_sem, ↓reduceIte, Nat.reduceEqDiff, Nat.reduceBEq, Nat.reduceAdd, Nat.reduceMul, Nat.reduceSub, Nat.reduceLT, Nat.reduceLeDiff, reduceCtorEq, Int.reduceToNat, Int.reduceLE, Int.reduceLT, Int.reduceEq, withV_any, h6, h7, Int.toNat_natCast, b, decide_false]
        · have e : okM p ri (R.getD q 0) = false := by simp [okM, a0, a1]
          rw [e]
          simp only [go_sem, ↓reduceIte, Nat.reduceEqDiff, Nat.reduceBEq, Nat.reduceAdd, Nat.reduceMul, Nat.reduceSub, Nat.reduceLT, Nat.reduceLeDiff, reduceCtorEq, Int.reduceToNat, Int.reduceLE, Int.reduceLT, Int.reduceEq, withV_any, a0, a1]
    have s9 : ∀ (K : KT) (S : Store) (x y : PV), execL (F25.C 0) 2 F25.c51 K (F25.ee8 (.int .i64 p) (.mp 0 0 0) (.sl (intRows R) false) (.msl 1 0 g.owner.length true) (.int .i64 i) (.int .i64 k) x y) S = K .normal (F25.ee6 (.int .i64 p) (.mp 0 0 0) (.sl (intRows R) false) (.msl 1 0 g.owner.length true) (.int .i64 i) (.int .i64 ((k : Int) - 1))) S := fun K S x y => by
      simp only [go_sem, ↓reduceIte, Nat.reduceEqDiff, Nat.reduceBEq, Nat.reduceAdd, Nat.reduceMul, Nat.reduceSub, Nat.reduceLT, Nat.reduceLeDiff, reduceCtorEq, Int.reduceToNat, Int.reduceLE, Int.reduceLT, Int.reduceEq, withV_any, w3]
    cases hb : okM p ri (R.getD q 0) with
    | true =>
      rw [hb] at s3
      have ep : pickM p ri R ((g.moves.getD i []).drop k) = q := by rw [ed, pickM, Int.toNat_natCast, hb, if_pos rfl]
      have st := storeInt (j := i) (q : Int) h.pR (by rw [List.length_set]; omega)
      rw [List.set_set] at st
      have hl1 := (List.getElem?_eq_some_iff.1 h.pR).1
      have hF2 : FS g 1 (U.set i (pickM p ri R ((g.moves.getD i []).drop k))) (S.set 1 (.arr (intRows (U.set i (q : Int))) (some (some 1)) false)) := by
        rw [ep]
        exact ⟨by rw [List.getElem?_set_ne (by omega)]; exact h.p0, by rw [List.getElem?_set_self hl1], by rw [List.length_set]; exact hU⟩
      have hlS : (S.set 1 (.arr (intRows (U.set i (q : Int))) (some (some 1)) false)).length = n2 := by rw [List.length_set]; exact hS
      generalize S.set 1 (.arr (intRows (U.set i (q : Int))) (some (some 1)) false) = S1 at *
      obtain ⟨S', a1, a2, a3⟩ := ih (by omega) S1 hlS hF2
      refine ⟨S', a1, a2, fun z hz => F25.L2_step ?_⟩
      have x1 := idx22m (ex := true) i r1 (by rw [intRows_length, List.length_set, hU]) (intRows_ok _) hi
      have s4 : ∀ (K : KT), execL (F25.C 0) 3 F25.c62 K (F25.ee8 (.int .i64 p) (.mp 0 0 0) (.sl (intRows R) false) (.msl 1 0 g.owner.length true) (.int .i64 i) (.int .i64 k) (.int .i64 q) (.bool true)) S = K .normal (F25.ee8 (.int .i64 p) (.mp 0 0 0) (.sl (intRows R) false) (.msl 1 0 g.owner.length true) (.int .i64 i) (.int .i64 k) (.int .i64 q) (.bool true)) S1 := fun K => by
        simp only [storeE_eq, known3, if_true, size3] at st
        simp only [go_sem, ↓reduceIte, Nat.reduceEqDiff, Nat.reduceBEq, Nat.reduceAdd, Nat.reduceMul, Nat.reduceSub, Nat.reduceLT, Nat.reduceLeDiff, reduceCtorEq, Int.reduceToNat, Int.reduceLE, Int.reduceLT, Int.reduceEq, withV_any, x1, st]
      have e1 : ∀ e : Env, Vs.gc n2 e S1 = S1 := fun e => by rw [← hlS]; exact gc_full _ _
      simp only [F25.B2_eq, s1, F25.k71_n, condC_true, F25.k54_n, s2, F25.k66_n, s3, F25.k61_n, s4, F25.k56_n, F25.k52_n, s9, F25.k47_n, e1]
      exact a3 z hz
    | false =>
      rw [hb] at s3
      have ep : pickM p ri R ((g.moves.getD i []).drop k) = pickM p ri R ((g.moves.getD i []).drop (k + 1)) := by rw [ed, pickM, Int.toNat_natCast, hb, if_neg (by simp)]
      rw [← ep] at h
      obtain ⟨S', a1, a2, a3⟩ := ih (by omega) S hS h
      refine ⟨S', a1, a2, fun z hz => F25.L2_step ?_⟩
      have e1 : ∀ e : Env, Vs.gc n2 e S = S := fun e => by rw [← hS]; exact gc_full _ _
      simp only [F25.B2_eq, s1, F25.k71_n, condC_true, F25.k54_n, s2, F25.k66_n, s3, F25.k61_n, condC_false, F25.k56_n, F25.k52_n, s9, F25.k47_n, e1]
      exact a3 z hz
end Go.Vs
end
/- The reference's Strategy: what it returns. -/
section
set_option linter.unusedVariables false
set_option linter.unusedSimpArgs false
namespace Go.Vs
open Go Go.Proofs
end Go.Vs
end
/- The reference's Strategy: what it returns. -/
section
set_option linter.unusedVariables false
set_option linter.unusedSimpArgs false
namespace Go.Vs
open Go Go.Proofs
end Go.Vs
end
/- law 23's ints: lists that are the same. -/
section
set_option linter.unusedVariables false
set_option linter.unusedSimpArgs false
namespace Go.Vs
open Go Go.Proofs
theorem loopSame (l : List Int) (e1 e2 : Bool) (hl : l.length ≤ maxLen) : ∀ (m i : Nat), i + m = l.length → F59.L0 0 0 (.sl (intRows l) e1) (.sl (intRows l) e2) (.int .i64 i) [] = some (.bool true, []) := by
  intro m
  induction m with
  | zero =>
    intro i hi
    have h1 : ¬ (i : Int) < (l.length : Int) := by omega
    apply F59.L0_step
    simp only [go_sem, ↓reduceIte, Nat.reduceEqDiff, Nat.reduceBEq, Nat.reduceAdd, Nat.reduceMul, Nat.reduceSub, Nat.reduceLT, Nat.reduceLeDiff, reduceCtorEq, Int.reduceToNat, Int.reduceLE, Int.reduceLT, Int.reduceEq, withV_any, h1]
  | succ m hm =>
    intro i hi
    have h1 : (i : Int) < (l.length : Int) := by omega
    have h2 := wrap_succ (i := i) (n := l.length) (by omega) hl
    have h4 : 0 ≤ (i : Int) ∧ (i : Int) < (l.length : Int) := ⟨by omega, h1⟩
    apply F59.L0_step
    simp only [go_sem, ↓reduceIte, Nat.reduceEqDiff, Nat.reduceBEq, Nat.reduceAdd, Nat.reduceMul, Nat.reduceSub, Nat.reduceLT, Nat.reduceLeDiff, reduceCtorEq, Int.reduceToNat, Int.reduceLE, Int.reduceLT, Int.reduceEq, withV_any, h1, h2, h4, hm (i + 1) (by omega)]
theorem callSame {v w : PV} {l : List Int} (hv : IsInts v l) (hw : IsInts w l) (hl : l.length ≤ maxLen) : callL Try.prog hints 59 [v, w] = some (.bool true) := by
  obtain ⟨e1, rfl, _⟩ := hv
  obtain ⟨e2, rfl, _⟩ := hw
  refine F59.call (r := (.bool true, [])) ?_ rfl
  have h := loopSame l e1 e2 hl l.length 0 (by omega)
  simp only [Int.natCast_zero] at h
  simp only [go_sem, ↓reduceIte, Nat.reduceEqDiff, Nat.reduceBEq, Nat.reduceAdd, Nat.reduceMul, Nat.reduceSub, Nat.reduceLT, Nat.reduceLeDiff, reduceCtorEq, Int.reduceToNat, Int.reduceLE, Int.reduceLT, Int.reduceEq, withV_any, h, decide_true, Bool.not_true]
theorem call19 {v w : PV} {l : List Int} (hv : IsInts v l) (hw : IsInts w l) (hl : l.length ≤ maxLen) : callL Try.prog hints 19 [v, w] = some (.bool true) := by
  have c := fun S => callO_plain (S := S) (callSame hv hw hl) (by
    intro a ha
    rcases List.mem_cons.1 ha with rfl | ha
    · exact hv.plain
    · rw [List.mem_singleton.1 ha]; exact hw.plain)
  refine F19.call (r := (.bool true, [])) ?_ rfl
  simp only [go_sem, ↓reduceIte, Nat.reduceEqDiff, Nat.reduceBEq, Nat.reduceAdd, Nat.reduceMul, Nat.reduceSub, Nat.reduceLT, Nat.reduceLeDiff, reduceCtorEq, Int.reduceToNat, Int.reduceLE, Int.reduceLT, Int.reduceEq, withV_any, c]
end Go.Vs
end
/- law 23's awake gives true. -/
section
set_option linter.unusedVariables false
set_option linter.unusedSimpArgs false
namespace Go.Vs
open Go Go.Proofs
theorem call13 : callL Try.prog hints 13 [] = some (.bool true) := callL_run (n := 60) (isTrue_eq (by kernel_rfl))
end Go.Vs
end
/- Printed by a program of mine (stage1.py): the functions 3, piece by piece. -/
section
set_option linter.unusedVariables false
set_option linter.unusedSimpArgs false
namespace Go.Vs
open Go Go.Proofs
noncomputable section

/-! ### isochronelaw23.GameSolves -/
namespace F3
section
variable (b : Nat) (K : KT) (x0 x1 x2 x4 x5 x6 x7 x8 x9 x10 x12 x15 x41 x62 x81 : PV) (e : Env) (S : Store)
end
end F3
end
end Go.Vs
end
/- GameSolves: the law returns true. -/
section
set_option linter.unusedVariables false
set_option linter.unusedSimpArgs false
namespace Go.Vs
open Go Go.Proofs
end Go.Vs
end
/- GameBeats: the law returns true. -/
section
set_option linter.unusedVariables false
set_option linter.unusedSimpArgs false
set_option maxRecDepth 100000
namespace Go.Vs
open Go Go.Proofs
def Game.play (g : Game) (z o : List Int) (fr : Int) : List Int × Int := g.playF z o (g.owner.length + 1) fr.toNat (zbool g.owner.length) []
/-- What Play returns. -/
def Game.playRes (g : Game) (z o : List Int) (fr : Int) : (List Int × Int) × Int :=
  if g.check ≠ 0 then (([], 0), g.check)
  else if fr < 0 ∨ (g.owner.length : Int) ≤ fr then (([], 0), 1)
  else if g.fits 0 z = false ∨ g.fits 1 o = false then (([], 0), 3)
  else (g.play z o fr, 0)
def IsPlay (g : Game) (z o : List Int) (fr : Int) (v : PV) : Prop := ∃ w, v = .tup [w, .int .i64 (g.playRes z o fr).1.2, .int .i64 (g.playRes z o fr).2] ∧ IsInts w (g.playRes z o fr).1.1
theorem playF_len (g : Game) (z o : List Int) : ∀ (n j : Nat) (seen : List Bool) (P : List Int), (g.playF z o n j seen P).1.length ≤ P.length + n
  | 0, j, seen, P => by simp [Game.playF]
  | n + 1, j, seen, P => by
    rw [Game.playF]
    have e : (P ++ [(j : Int)]).length = P.length + 1 := by simp
    generalize (if g.owner.getD j 0 = 1 then o.getD j 0 else z.getD j 0) = nx
    by_cases c1 : g.goal.getD j false = true
    · rw [if_pos c1]
      show (P ++ [(j : Int)]).length ≤ _
      omega
    · rw [if_neg c1]
      by_cases c2 : seen.getD j false = true
      · rw [if_pos c2]
        show (P ++ [(j : Int)]).length ≤ _
        omega
      · rw [if_neg c2]
        by_cases c3 : nx < 0
        · rw [if_pos c3]
          show (P ++ [(j : Int)]).length ≤ _
          omega
        · rw [if_neg c3]
          have := playF_len g z o n nx.toNat (seen.set j true) (P ++ [(j : Int)])
          omega
theorem unseen_zbool (n : Nat) : unseen (zbool n) = n := by simp [unseen, zbool, List.countP_replicate]
section
attribute [local irreducible] Vs.callL Vs.callRL tyi callO callM callMV appendE storeE evLoad indexAddrO sliceO evFieldAddr evField buildO buildSliceO makeSliceO allocO boxed lenO copyE convertO indexO Vs.gc freezeAll
theorem call28 (g : Game) (hg : g.ok) (z o : List Int) (fr : Int) : ∃ v, IsPlay g z o fr v ∧ callL Try.prog hints 28 [.agg g.cells, .sl (intRows z) false, .sl (intRows o) false, .int .i64 fr] = some v := by
  have c1 := fun S => callG S (call17 g hg)
  unfold IsPlay Game.playRes
  by_cases h : g.check = 0
  · have hgd := good_of h
    have hN := hgd.n
    have c2 := fun (p : Int) (l : List Int) S => callO3 S (call60 g hg hgd p l false)
    rw [if_neg (by simpa using h)]
    by_cases hb : fr < 0 ∨ (g.owner.length : Int) ≤ fr
    · rw [if_pos hb]
      refine ⟨_, ⟨.sl [] true, rfl, ⟨true, rfl, fun _ => rfl⟩⟩, FX.callL (r := (.tup [.sl [] true, .int .i64 0, .int .i64 1], [.arr [g.cells] none false])) ok28 1000 rfl rfl ?_ rfl⟩
      by_cases a3 : fr < 0
      · ((repeat ((conv => lhs; whnf); simp only [go_sem, ↓reduceIte, Nat.reduceEqDiff, Nat.reduceBEq, Nat.reduceAdd, Nat.reduceMul, Nat.reduceSub, Nat.reduceLT, Nat.reduceLeDiff, reduceCtorEq, Int.reduceToNat, Int.reduceLE, Int.reduceLT, Int.reduceEq, sem28, c1, h, a3])); try (conv => lhs; whnf); try rfl)
      · have a4 : (g.owner.length : Int) ≤ fr := by
          rcases hb with hb | hb
          · exact absurd hb a3
          · exact hb
        ((repeat ((conv => lhs; whnf); simp only [go_sem, ↓reduceIte, Nat.reduceEqDiff, Nat.reduceBEq, Nat.reduceAdd, Nat.reduceMul, Nat.reduceSub, Nat.reduceLT, Nat.reduceLeDiff, reduceCtorEq, Int.reduceToNat, Int.reduceLE, Int.reduceLT, Int.reduceEq, sem28, c1, h, a3, a4])); try (conv => lhs; whnf); try rfl)
    · rw [if_neg hb]
      have a3 : ¬ fr < 0 := fun x => hb (.inl x)
      have a4 : ¬ (g.owner.length : Int) ≤ fr := fun x => hb (.inr x)
      cases hz : g.fits 0 z with
      | false =>
        rw [if_pos (.inl rfl)]
        refine ⟨_, ⟨.sl [] true, rfl, ⟨true, rfl, fun _ => rfl⟩⟩, FX.callL (r := (.tup [.sl [] true, .int .i64 0, .int .i64 3], [.arr [g.cells] none false])) ok28 1000 rfl rfl ?_ rfl⟩
        ((repeat ((conv => lhs; whnf); simp only [go_sem, ↓reduceIte, Nat.reduceEqDiff, Nat.reduceBEq, Nat.reduceAdd, Nat.reduceMul, Nat.reduceSub, Nat.reduceLT, Nat.reduceLeDiff, reduceCtorEq, Int.reduceToNat, Int.reduceLE, Int.reduceLT, Int.reduceEq, sem28, c1, h, a3, a4, c2, hz])); try (conv => lhs; whnf); try rfl)
      | true =>
        cases ho : g.fits 1 o with
        | false =>
          rw [if_pos (.inr rfl)]
          refine ⟨_, ⟨.sl [] true, rfl, ⟨true, rfl, fun _ => rfl⟩⟩, FX.callL (r := (.tup [.sl [] true, .int .i64 0, .int .i64 3], [.arr [g.cells] none false])) ok28 1000 rfl rfl ?_ rfl⟩
          ((repeat ((conv => lhs; whnf); simp only [go_sem, ↓reduceIte, Nat.reduceEqDiff, Nat.reduceBEq, Nat.reduceAdd, Nat.reduceMul, Nat.reduceSub, Nat.reduceLT, Nat.reduceLeDiff, reduceCtorEq, Int.reduceToNat, Int.reduceLE, Int.reduceLT, Int.reduceEq, sem28, c1, h, a3, a4, c2, hz, ho])); try (conv => lhs; whnf); try rfl)
        | true =>
          rw [if_neg (by simp)]
          have hzl : (zbool g.owner.length).length = g.owner.length := by simp [zbool]
          obtain ⟨S', b1, gg, b2⟩ := loop28_0 g hgd z o hz ho (g.owner.length + 1) fr.toNat (zbool g.owner.length) [] none (by omega) hzl (.inl rfl) (by rw [unseen_zbool]; omega) (by simp; omega)
          have m2 := fun id => makeSlice24 id g.owner.length (by omega)
          have e1 : (fr.toNat : Int) = fr := by omega
          rw [e1] at b1
          have b1' := b1
          unfold playS at b1'
          rw [intRows_nil] at b1'
          refine ⟨_, ⟨.sl (intRows (g.play z o fr).1) false, rfl, ⟨false, rfl, fun h => by cases h⟩⟩, FX.callL (r := (.tup [.msl 2 0 (g.play z o fr).1.length false, .int .i64 (g.play z o fr).2, .int .i64 0], S')) ok28 1000 rfl rfl ?_ ?_⟩
          · ((repeat ((conv => lhs; whnf); simp only [go_sem, ↓reduceIte, Nat.reduceEqDiff, Nat.reduceBEq, Nat.reduceAdd, Nat.reduceMul, Nat.reduceSub, Nat.reduceLT, Nat.reduceLeDiff, reduceCtorEq, Int.reduceToNat, Int.reduceLE, Int.reduceLT, Int.reduceEq, sem28, c1, h, a3, a4, c2, hz, ho, m2])); try (conv => lhs; whnf); try rfl)
            exact b1'
          · show (mapO (fzPV1 S') [.msl 2 0 (g.play z o fr).1.length false, .int .i64 (g.play z o fr).2, .int .i64 0]).map PV.tup = _
            have e : fzPV1 S' (.msl 2 0 (g.play z o fr).1.length false) = some (.sl (intRows (g.play z o fr).1) false) := (Ints.msl 2 _ false _ _ b2).fz 6
            simp only [mapO, e, Option.bind_some]
            rfl
  · rw [if_pos h]
    refine ⟨_, ⟨.sl [] true, rfl, ⟨true, rfl, fun _ => rfl⟩⟩, FX.callL (r := (.tup [.sl [] true, .int .i64 0, .int .i64 g.check], [.arr [g.cells] none false])) ok28 1000 rfl rfl ?_ rfl⟩
    ((repeat ((conv => lhs; whnf); simp only [go_sem, ↓reduceIte, Nat.reduceEqDiff, Nat.reduceBEq, Nat.reduceAdd, Nat.reduceMul, Nat.reduceSub, Nat.reduceLT, Nat.reduceLeDiff, reduceCtorEq, Int.reduceToNat, Int.reduceLE, Int.reduceLT, Int.reduceEq, sem28, c1, h])); try (conv => lhs; whnf); try rfl)
theorem call29 (g : Game) (hg : g.ok) (z o : List Int) (fr : Int) : ∃ v, IsPlay g z o fr v ∧ callL Try.prog hints 29 [.agg g.cells, .sl (intRows z) false, .sl (intRows o) false, .int .i64 fr] = some v := by
  have c1 := fun S => callG S (call18 g hg)
  unfold IsPlay Game.playRes
  by_cases h : g.check = 0
  · have hgd := good_of h
    have hN := hgd.n
    have c2 := fun (p : Int) (l : List Int) S => callO3 S (call30 g hg hgd p l false)
    rw [if_neg (by simpa using h)]
    by_cases hb : fr < 0 ∨ (g.owner.length : Int) ≤ fr
    · rw [if_pos hb]
      refine ⟨_, ⟨.sl [] true, rfl, ⟨true, rfl, fun _ => rfl⟩⟩, FX.callL (r := (.tup [.sl [] true, .int .i64 0, .int .i64 1], [.arr [g.cells] none false])) ok29 1000 rfl rfl ?_ rfl⟩
      by_cases a3 : fr < 0
      · ((repeat ((conv => lhs; whnf); simp only [go_sem, ↓reduceIte, Nat.reduceEqDiff, Nat.reduceBEq, Nat.reduceAdd, Nat.reduceMul, Nat.reduceSub, Nat.reduceLT, Nat.reduceLeDiff, reduceCtorEq, Int.reduceToNat, Int.reduceLE, Int.reduceLT, Int.reduceEq, sem29, c1, h, a3])); try (conv => lhs; whnf); try rfl)
      · have a4 : (g.owner.length : Int) ≤ fr := by
          rcases hb with hb | hb
          · exact absurd hb a3
          · exact hb
        ((repeat ((conv => lhs; whnf); simp only [go_sem, ↓reduceIte, Nat.reduceEqDiff, Nat.reduceBEq, Nat.reduceAdd, Nat.reduceMul, Nat.reduceSub, Nat.reduceLT, Nat.reduceLeDiff, reduceCtorEq, Int.reduceToNat, Int.reduceLE, Int.reduceLT, Int.reduceEq, sem29, c1, h, a3, a4])); try (conv => lhs; whnf); try rfl)
    · rw [if_neg hb]
      have a3 : ¬ fr < 0 := fun x => hb (.inl x)
      have a4 : ¬ (g.owner.length : Int) ≤ fr := fun x => hb (.inr x)
      cases hz : g.fits 0 z with
      | false =>
        rw [if_pos (.inl rfl)]
        refine ⟨_, ⟨.sl [] true, rfl, ⟨true, rfl, fun _ => rfl⟩⟩, FX.callL (r := (.tup [.sl [] true, .int .i64 0, .int .i64 3], [.arr [g.cells] none false])) ok29 1000 rfl rfl ?_ rfl⟩
        ((repeat ((conv => lhs; whnf); simp only [go_sem, ↓reduceIte, Nat.reduceEqDiff, Nat.reduceBEq, Nat.reduceAdd, Nat.reduceMul, Nat.reduceSub, Nat.reduceLT, Nat.reduceLeDiff, reduceCtorEq, Int.reduceToNat, Int.reduceLE, Int.reduceLT, Int.reduceEq, sem29, c1, h, a3, a4, c2, hz])); try (conv => lhs; whnf); try rfl)
      | true =>
        cases ho : g.fits 1 o with
        | false =>
          rw [if_pos (.inr rfl)]
          refine ⟨_, ⟨.sl [] true, rfl, ⟨true, rfl, fun _ => rfl⟩⟩, FX.callL (r := (.tup [.sl [] true, .int .i64 0, .int .i64 3], [.arr [g.cells] none false])) ok29 1000 rfl rfl ?_ rfl⟩
          ((repeat ((conv => lhs; whnf); simp only [go_sem, ↓reduceIte, Nat.reduceEqDiff, Nat.reduceBEq, Nat.reduceAdd, Nat.reduceMul, Nat.reduceSub, Nat.reduceLT, Nat.reduceLeDiff, reduceCtorEq, Int.reduceToNat, Int.reduceLE, Int.reduceLT, Int.reduceEq, sem29, c1, h, a3, a4, c2, hz, ho])); try (conv => lhs; whnf); try rfl)
        | true =>
          rw [if_neg (by simp)]
          have hzl : (zbool g.owner.length).length = g.owner.length := by simp [zbool]
          obtain ⟨S', b1, gg, b2⟩ := loop29_0 g hgd z o hz ho (g.owner.length + 1) fr.toNat (zbool g.owner.length) [] none (by omega) hzl (.inl rfl) (by rw [unseen_zbool]; omega) (by simp; omega)
          have m2 := fun id => makeSlice24 id g.owner.length (by omega)
          have e1 : (fr.toNat : Int) = fr := by omega
          rw [e1] at b1
          have b1' := b1
          unfold playS at b1'
          rw [intRows_nil] at b1'
          refine ⟨_, ⟨.sl (intRows (g.play z o fr).1) false, rfl, ⟨false, rfl, fun h => by cases h⟩⟩, FX.callL (r := (.tup [.msl 2 0 (g.play z o fr).1.length false, .int .i64 (g.play z o fr).2, .int .i64 0], S')) ok29 1000 rfl rfl ?_ ?_⟩
          · ((repeat ((conv => lhs; whnf); simp only [go_sem, ↓reduceIte, Nat.reduceEqDiff, Nat.reduceBEq, Nat.reduceAdd, Nat.reduceMul, Nat.reduceSub, Nat.reduceLT, Nat.reduceLeDiff, reduceCtorEq, Int.reduceToNat, Int.reduceLE, Int.reduceLT, Int.reduceEq, sem29, c1, h, a3, a4, c2, hz, ho, m2])); try (conv => lhs; whnf); try rfl)
            exact b1'
          · show (mapO (fzPV1 S') [.msl 2 0 (g.play z o fr).1.length false, .int .i64 (g.play z o fr).2, .int .i64 0]).map PV.tup = _
            have e : fzPV1 S' (.msl 2 0 (g.play z o fr).1.length false) = some (.sl (intRows (g.play z o fr).1) false) := (Ints.msl 2 _ false _ _ b2).fz 6
            simp only [mapO, e, Option.bind_some]
            rfl
  · rw [if_pos h]
    refine ⟨_, ⟨.sl [] true, rfl, ⟨true, rfl, fun _ => rfl⟩⟩, FX.callL (r := (.tup [.sl [] true, .int .i64 0, .int .i64 g.check], [.arr [g.cells] none false])) ok29 1000 rfl rfl ?_ rfl⟩
    ((repeat ((conv => lhs; whnf); simp only [go_sem, ↓reduceIte, Nat.reduceEqDiff, Nat.reduceBEq, Nat.reduceAdd, Nat.reduceMul, Nat.reduceSub, Nat.reduceLT, Nat.reduceLeDiff, reduceCtorEq, Int.reduceToNat, Int.reduceLE, Int.reduceLT, Int.reduceEq, sem29, c1, h])); try (conv => lhs; whnf); try rfl)
noncomputable def fx4 : FX := ⟨Try.f4, hints.of 4, []⟩
theorem ok4 : fx4.ok 4 := ⟨by kernel_rfl, of_decide_eq_true (by kernel_rfl), by kernel_rfl, by kernel_rfl, by kernel_rfl⟩
theorem sem4 (b0 : Nat) (m : Md) (fs : List Fr) (e : Env) (S : Store) : sem b0 fx4 m fs e S = run b0 fx4 1000 m fs e S := (sem_eq _ _ _ _ _ _).trans (run_sem b0 fx4 ok4.good 1000 m fs e S).symm
theorem law4_ (g : Game) (hg : g.ok) (p : Int) (s o : List Int) (hs : s.length ≤ maxLen) (ho : o.length ≤ maxLen) (fr : Int) : callL Try.prog hints 4 [.agg g.cells, .int .i64 p, .sl (intRows s) false, .sl (intRows o) false, .int .i64 fr] = some (.bool true) := by
  have k13 := fun S => callO_plain (S := S) call13 (by simp)
  obtain ⟨bl, k14⟩ := call14 g hg
  have k14 := fun S => callG S k14
  have plain4 : ∀ (a b c d : PV), Plain a → Plain b → Plain c → Plain d → ∀ x ∈ [a, b, c, d], Plain x := fun a b c d ha hb hc hd x hx => by
    simp only [List.mem_cons, List.not_mem_nil, or_false] at hx
    rcases hx with rfl | rfl | rfl | rfl <;> assumption
  have k26 := fun S => callO_plain (S := S) (call26 g hg p s fr) (plain4 _ _ _ _ g.plain (.int _ _) (.sl _) (.int _ _))
  have k27 := fun S => callO_plain (S := S) (call27 g hg p s fr) (plain4 _ _ _ _ g.plain (.int _ _) (.sl _) (.int _ _))
  obtain ⟨v28, ⟨w, rfl, iw⟩, q28⟩ := call28 g hg s o fr
  obtain ⟨v29, ⟨w', rfl, iw'⟩, q29⟩ := call29 g hg s o fr
  have k28 := fun S => callO_plain (S := S) q28 (plain4 _ _ _ _ g.plain (.sl _) (.sl _) (.int _ _))
  have k29 := fun S => callO_plain (S := S) q29 (plain4 _ _ _ _ g.plain (.sl _) (.sl _) (.int _ _))
  have hlen : (g.playRes s o fr).1.1.length ≤ maxLen := by
    have hm4 : (4000 : Nat) ≤ maxLen := by decide
    unfold Game.playRes
    split
    · simp
    · rename_i h
      have hgd := good_of (g := g) (by simpa using h)
      have hN := hgd.n
      split
      · simp
      · split
        · simp
        · have := playF_len g s o (g.owner.length + 1) fr.toNat (zbool g.owner.length) []
          show (g.playF s o (g.owner.length + 1) fr.toNat (zbool g.owner.length) []).1.length ≤ maxLen
          simp only [List.length_nil] at this
          omega
  have k19 := fun S => callO_plain (S := S) (call19 iw iw' hlen) (fun x hx => by
    rcases List.mem_cons.1 hx with rfl | hx
    · exact iw.plain
    · rw [List.mem_singleton.1 hx]; exact iw'.plain)
  have x0 : ∀ (a : PV) (l : List PV), extractO (.tup (a :: l)) 0 = some a := fun _ _ => rfl
  refine FX.callL (r := (.bool true, [.arr [g.cells] none false])) ok4 1000 rfl rfl ?_ rfl
  cases bl with
  | false => ((repeat ((conv => lhs; whnf); simp only [go_sem, ↓reduceIte, Nat.reduceEqDiff, Nat.reduceBEq, Nat.reduceAdd, Nat.reduceMul, Nat.reduceSub, Nat.reduceLT, Nat.reduceLeDiff, reduceCtorEq, Int.reduceToNat, Int.reduceLE, Int.reduceLT, Int.reduceEq, sem4, k13, k14])); try (conv => lhs; whnf); try rfl)
  | true =>
    by_cases a1 : (3000 : Int) < (s.length : Int)
    · ((repeat ((conv => lhs; whnf); simp only [go_sem, ↓reduceIte, Nat.reduceEqDiff, Nat.reduceBEq, Nat.reduceAdd, Nat.reduceMul, Nat.reduceSub, Nat.reduceLT, Nat.reduceLeDiff, reduceCtorEq, Int.reduceToNat, Int.reduceLE, Int.reduceLT, Int.reduceEq, sem4, k13, k14, a1])); try (conv => lhs; whnf); try rfl)
    · by_cases a2 : (3000 : Int) < (o.length : Int)
      · ((repeat ((conv => lhs; whnf); simp only [go_sem, ↓reduceIte, Nat.reduceEqDiff, Nat.reduceBEq, Nat.reduceAdd, Nat.reduceMul, Nat.reduceSub, Nat.reduceLT, Nat.reduceLeDiff, reduceCtorEq, Int.reduceToNat, Int.reduceLE, Int.reduceLT, Int.reduceEq, sem4, k13, k14, a1, a2])); try (conv => lhs; whnf); try rfl)
      · cases hb : (g.beatsRes p s fr).1 <;> rw [hb] at k26 k27 <;> ((repeat ((conv => lhs; whnf); simp only [go_sem, ↓reduceIte, Nat.reduceEqDiff, Nat.reduceBEq, Nat.reduceAdd, Nat.reduceMul, Nat.reduceSub, Nat.reduceLT, Nat.reduceLeDiff, reduceCtorEq, Int.reduceToNat, Int.reduceLE, Int.reduceLT, Int.reduceEq, sem4, k13, k14, a1, a2, k26, k27, k28, k29, k19])); try (conv => lhs; whnf); try rfl)
end
theorem law4 (pvs : List PV) (h : Args Try.prog [26, 3, 22, 22, 3] pvs) : callL Try.prog hints 4 pvs = some (.bool true) := by
  have ⟨x1, r1, k1, e1, h1, t1⟩ := h.cons_inv
  have ⟨x2, r2, k2, e2, h2, t2⟩ := t1.cons_inv
  have ⟨x3, r3, k3, e3, h3, t3⟩ := t2.cons_inv
  have ⟨x4, r4, k4, e4, h4, t4⟩ := t3.cons_inv
  have ⟨x5, r5, k5, e5, h5, t5⟩ := t4.cons_inv
  have e6 := t5.nil_inv
  obtain ⟨g, hg, f1⟩ := h1.game
  have ⟨p, _, f2⟩ := h2.int und3
  have ⟨s, hs, _, f3⟩ := h3.ints
  have ⟨o, ho, _, f4⟩ := h4.ints
  have ⟨fr, _, f5⟩ := h5.int und3
  rw [e1, e2, e3, e4, e5, e6, f1, f2, f3, f4, f5]
  exact law4_ g hg p s o hs ho fr
end Go.Vs
end

/- game.Play and the reference's: what they return. -/

import Derived.Test.YtnddhkcciphhkaaMX8
import Derived.Test.YtnddhkcciphhkaaMX10
import Derived.Test.YtnddhkcciphhkaaMX21
import Derived.Test.YtnddhkcciphhkaaMX22
import Derived.Test.YtnddhkcciphhkaaMX23
section
set_option linter.unusedVariables false
set_option linter.unusedSimpArgs false
set_option maxRecDepth 100000
namespace Go.Vs
open Go Go.Proofs
/-- The play, from a position on: what was seen, what lies behind. -/
def Game.playF (g : Game) (z o : List Int) : Nat → Nat → List Bool → List Int → List Int × Int
  | 0, _, _, P => (P, 0)
  | n + 1, j, seen, P =>
    if g.goal.getD j false = true then (P ++ [(j : Int)], 0)
    else if seen.getD j false = true then (P ++ [(j : Int)], 1)
    else if (if g.owner.getD j 0 = 1 then o.getD j 0 else z.getD j 0) < 0 then (P ++ [(j : Int)], 1 - g.owner.getD j 0)
    else g.playF z o n (if g.owner.getD j 0 = 1 then o.getD j 0 else z.getD j 0).toNat (seen.set j true) (P ++ [(j : Int)])
/-- How many positions were not seen yet. -/
def unseen (seen : List Bool) : Nat := seen.countP fun b => !b
theorem unseen_set : ∀ (seen : List Bool) (j : Nat), j < seen.length → seen.getD j false = false → unseen (seen.set j true) + 1 = unseen seen
  | [], j, h, _ => by simp at h
  | b :: r, 0, h, hb => by
    have : b = false := by simpa using hb
    subst this
    simp [unseen]
  | b :: r, j + 1, h, hb => by
    have ih := unseen_set r j (by simpa using h) (by simpa using hb)
    simp only [unseen] at ih
    simp only [List.set_cons_succ, unseen, List.countP_cons]
    omega
theorem boolRows_get {L : List Bool} {j : Nat} (h : j < L.length) : (boolRows L).getD j [] = [.bool (L.getD j false)] := by
  simp [boolRows, List.getD_eq_getElem?_getD, h]
noncomputable def playS (g : Game) (seen : List Bool) (P : List Int) (gr : Option Nat) : Store := [.arr [g.cells] none false, .arr (boolRows seen) (some (some 1)) false, .arr (intRows P) (some gr) false]
theorem play_append (g : Game) (seen : List Bool) (P : List Int) (gr : Option Nat) (hg : gr = none ∨ gr = some 1) (a : Int) (hn : P.length ≤ 2000000) :
    appendE Try.prog 0 22 22 [.arr [g.cells] none false, .arr (boolRows seen) (some (some 1)) false, .arr (intRows P) (some gr) false, .arr [[.int .i64 a]] (some (some 1)) false] (.msl 2 0 P.length false) (.msl 3 0 1 true) = some { v := .msl 2 0 (P.length + 1) false, S := [.arr [g.cells] none false, .arr (boolRows seen) (some (some 1)) false, .arr (intRows (P ++ [a])) (some (some 1)) false, .arr [[.int .i64 a]] (some (some 1)) false], kill := [2] } := by
  have h := appendHere (S := [.arr [g.cells] none false, .arr (boolRows seen) (some (some 1)) false, .arr (intRows P) (some gr) false, .arr [[.int .i64 a]] (some (some 1)) false]) (id := 2) (L := P) (l := [a]) (y := .msl 3 0 1 true) rfl hg (.msl 3 [a] true (some (some 1)) false rfl) (by simp; omega)
  rw [h]
  have e1 : killRows [2] [g.cells] = [g.cells] := killRows_id (fun r hr => by
    simp only [rowsRefs_cons, rowsRefs_nil, Game.refs, List.append_nil] at hr
    cases hr)
  have e2 : killRows [2] (boolRows seen) = boolRows seen := killRows_id (fun r hr => by rw [boolRows_refs] at hr; cases hr)
  simp only [List.map_cons, List.map_nil, killObj_arr, e1, e2, List.set_cons_succ, List.set_cons_zero, List.length_append, List.length_cons, List.length_nil, Nat.zero_add]
  rfl
section
attribute [local irreducible] Vs.callL Vs.callRL tyi callO callM callMV appendE storeE evLoad indexAddrO sliceO evFieldAddr evField buildO buildSliceO makeSliceO allocO boxed lenO copyE convertO indexO Vs.gc freezeAll
noncomputable def fx28 : FX := ⟨Try.f28, hints.of 28, []⟩
theorem ok28 : fx28.ok 28 := ⟨by kernel_rfl, of_decide_eq_true (by kernel_rfl), by kernel_rfl, by kernel_rfl, by kernel_rfl⟩
theorem sem28 (b0 : Nat) (m : Md) (fs : List Fr) (e : Env) (S : Store) : sem b0 fx28 m fs e S = run b0 fx28 1000 m fs e S := (sem_eq _ _ _ _ _ _).trans (run_sem b0 fx28 ok28.good 1000 m fs e S).symm
theorem loop28_0 (g : Game) (hgd : g.good) (z o : List Int) (hz : g.fits 0 z = true) (ho : g.fits 1 o = true) : ∀ (n j : Nat) (seen : List Bool) (P : List Int) (gr : Option Nat), j < g.owner.length → seen.length = g.owner.length → (gr = none ∨ gr = some 1) → unseen seen < n → P.length + n ≤ 1000 →
    ∃ S', loopAt 0 fx28 0 508 3 [.blk 0] [(1, .sl (intRows z) false), (2, .sl (intRows o) false), (4, .mp 0 0 0), (8, .msl 2 0 P.length false), (12, .msl 1 0 g.owner.length true), (13, .int .i64 j)] (playS g seen P gr) = some (.tup [.msl 2 0 (g.playF z o n j seen P).1.length false, .int .i64 (g.playF z o n j seen P).2, .int .i64 0], S') ∧ ∃ gg, S'[2]? = some (.arr (intRows (g.playF z o n j seen P).1) gg false) := by
  have hN := hgd.n
  have hM := hgd.m
  have hL := hgd.l
  have hzl := fits_len hz
  have hol := fits_len ho
  have hm4 : (4000 : Nat) ≤ maxLen := by decide
  intro n
  induction n with
  | zero => intro j seen P gr h1 h2 h3 h4 h5; omega
  | succ n hn =>
    intro j seen P gr hj hs hgr hu hP
    have h5 : 0 ≤ (j : Int) ∧ (j : Int) < (g.owner.length : Int) := ⟨by omega, by omega⟩
    have h6 : 0 ≤ (j : Int) ∧ (j : Int) < (g.goal.length : Int) := ⟨by omega, by omega⟩
    have h7 : 0 ≤ (j : Int) ∧ (j : Int) < (z.length : Int) := ⟨by omega, by omega⟩
    have h8 : 0 ≤ (j : Int) ∧ (j : Int) < (o.length : Int) := ⟨by omega, by omega⟩
    have ap := play_append g seen P gr hgr j (by omega)
    have hjs : j < seen.length := by omega
    have bg := boolRows_get hjs
    have bset : (boolRows seen).set j [.bool true] = boolRows (seen.set j true) := by simp [boolRows, List.map_set]
    have x1 : ∀ A : Obj, ∀ T : Store, indexAddrO Try.prog 24 (A :: .arr (boolRows seen) (some (some 1)) false :: T) (.msl 1 0 g.owner.length true) (.int .i64 j) = some (.mp 1 j 0) := fun A T => idx24m j rfl (by rw [boolRows_length, hs]) (boolRows_ok seen) (by omega)
    rw [Game.playF]
    by_cases c1 : g.goal.getD j false = true
    · rw [if_pos c1]
      refine ⟨[.arr [g.cells] none false, .arr (boolRows seen) (some (some 1)) false, .arr (intRows (P ++ [(j : Int)])) (some (some 1)) false, .arr [[.int .i64 j]] (some (some 1)) false], loopAt_step ok28.good 1000 ?_, _, rfl⟩
      unfold playS
      simp only [List.length_append, List.length_cons, List.length_nil, Nat.zero_add]
      ((repeat ((conv => lhs; whnf); simp only [go_sem, ↓reduceIte, Nat.reduceEqDiff, Nat.reduceBEq, Nat.reduceAdd, Nat.reduceMul, Nat.reduceSub, Nat.reduceLT, Nat.reduceLeDiff, reduceCtorEq, Int.reduceToNat, Int.reduceLE, Int.reduceLT, Int.reduceEq, sem28, ap, h6, c1, Int.toNat_natCast])); try (conv => lhs; whnf); try rfl)
    · rw [if_neg c1]
      have c1' : g.goal.getD j false = false := by simpa using c1
      by_cases c2 : seen.getD j false = true
      · rw [if_pos c2]
        refine ⟨[.arr [g.cells] none false, .arr (boolRows seen) (some (some 1)) false, .arr (intRows (P ++ [(j : Int)])) (some (some 1)) false, .arr [[.int .i64 j]] (some (some 1)) false], loopAt_step ok28.good 1000 ?_, _, rfl⟩
        unfold playS
        simp only [List.length_append, List.length_cons, List.length_nil, Nat.zero_add]
        ((repeat ((conv => lhs; whnf); simp only [go_sem, ↓reduceIte, Nat.reduceEqDiff, Nat.reduceBEq, Nat.reduceAdd, Nat.reduceMul, Nat.reduceSub, Nat.reduceLT, Nat.reduceLeDiff, reduceCtorEq, Int.reduceToNat, Int.reduceLE, Int.reduceLT, Int.reduceEq, sem28, ap, h6, c1', Int.toNat_natCast, x1, hjs, bg, c2])); try (conv => lhs; whnf); try rfl)
      · rw [if_neg c2]
        have c2' : seen.getD j false = false := by simpa using c2
        have hu' := unseen_set seen j hjs c2'
        have own := hgd.ok.own j hj
        have own' : g.owner.getD j 0 = 0 ∨ g.owner.getD j 0 = 1 := own
        have w1 : IntKind.i64.wrap (1 - g.owner.getD j 0) = 1 - g.owner.getD j 0 := by
          rw [IntKind.wrap_i64]
          rcases own' with e | e <;> rw [e] <;> decide
        have fin : ∀ nx : Int, 0 ≤ nx → (nx = z.getD j 0 ∧ ¬ g.owner.getD j 0 = 1) ∨ (nx = o.getD j 0 ∧ g.owner.getD j 0 = 1) → ∃ j' : Nat, j' < g.owner.length ∧ nx = j' := fun nx hx hh => by
          rcases hh with ⟨e, _⟩ | ⟨e, _⟩
          · rcases fits_at hz hj with h | h
            · omega
            · have := hgd.ok.mv j hj nx (by rw [e]; exact h.2)
              exact ⟨nx.toNat, by have h2 : nx < (g.owner.length : Int) := this.2; omega, by omega⟩
          · rcases fits_at ho hj with h | h
            · omega
            · have := hgd.ok.mv j hj nx (by rw [e]; exact h.2)
              exact ⟨nx.toNat, by have h2 : nx < (g.owner.length : Int) := this.2; omega, by omega⟩
        by_cases c3 : g.owner.getD j 0 = 1
        · rw [if_pos c3]
          by_cases c4 : o.getD j 0 < 0
          · rw [if_pos c4]
            refine ⟨[.arr [g.cells] none false, .arr (boolRows (seen.set j true)) (some (some 1)) false, .arr (intRows (P ++ [(j : Int)])) (some (some 1)) false, .arr [[.int .i64 j]] (some (some 1)) false], loopAt_step ok28.good 1000 ?_, _, rfl⟩
            unfold playS
            simp only [List.length_append, List.length_cons, List.length_nil, Nat.zero_add]
            rw [c3] at w1 ⊢
            ((repeat ((conv => lhs; whnf); simp only [go_sem, ↓reduceIte, Nat.reduceEqDiff, Nat.reduceBEq, Nat.reduceAdd, Nat.reduceMul, Nat.reduceSub, Nat.reduceLT, Nat.reduceLeDiff, reduceCtorEq, Int.reduceToNat, Int.reduceLE, Int.reduceLT, Int.reduceEq, sem28, ap, h6, c1', Int.toNat_natCast, x1, hjs, bg, c2', bset, h5, h7, h8, c3, c4, w1])); try (conv => lhs; whnf); try rfl)
          · rw [if_neg c4]
            obtain ⟨j', hj', ej⟩ := fin (o.getD j 0) (by omega) (.inr ⟨rfl, c3⟩)
            rw [ej, Int.toNat_natCast]
            obtain ⟨S', b1, b2⟩ := hn j' (seen.set j true) (P ++ [(j : Int)]) (some 1) hj' (by rw [List.length_set]; exact hs) (.inr rfl) (by omega) (by simp; omega)
            refine ⟨S', loopAt_step ok28.good 1000 ?_, b2⟩
            simp only [playS, List.length_append, List.length_cons, List.length_nil, Nat.zero_add] at b1 ⊢
            rw [ej] at c4
            ((repeat ((conv => lhs; whnf); simp only [go_sem, ↓reduceIte, Nat.reduceEqDiff, Nat.reduceBEq, Nat.reduceAdd, Nat.reduceMul, Nat.reduceSub, Nat.reduceLT, Nat.reduceLeDiff, reduceCtorEq, Int.reduceToNat, Int.reduceLE, Int.reduceLT, Int.reduceEq, sem28, ap, h6, c1', Int.toNat_natCast, x1, hjs, bg, c2', bset, h5, h7, h8, c3, ej, c4, boolRows_refs])); try (conv => lhs; whnf); try rfl)
            exact b1
        · rw [if_neg c3]
          by_cases c4 : z.getD j 0 < 0
          · rw [if_pos c4]
            refine ⟨[.arr [g.cells] none false, .arr (boolRows (seen.set j true)) (some (some 1)) false, .arr (intRows (P ++ [(j : Int)])) (some (some 1)) false, .arr [[.int .i64 j]] (some (some 1)) false], loopAt_step ok28.good 1000 ?_, _, rfl⟩
            unfold playS
            simp only [List.length_append, List.length_cons, List.length_nil, Nat.zero_add]
            ((repeat ((conv => lhs; whnf); simp only [go_sem, ↓reduceIte, Nat.reduceEqDiff, Nat.reduceBEq, Nat.reduceAdd, Nat.reduceMul, Nat.reduceSub, Nat.reduceLT, Nat.reduceLeDiff, reduceCtorEq, Int.reduceToNat, Int.reduceLE, Int.reduceLT, Int.reduceEq, sem28, ap, h6, c1', Int.toNat_natCast, x1, hjs, bg, c2', bset, h5, h7, h8, c3, c4, w1])); try (conv => lhs; whnf); try rfl)
          · rw [if_neg c4]
            obtain ⟨j', hj', ej⟩ := fin (z.getD j 0) (by omega) (.inl ⟨rfl, c3⟩)
            rw [ej, Int.toNat_natCast]
            obtain ⟨S', b1, b2⟩ := hn j' (seen.set j true) (P ++ [(j : Int)]) (some 1) hj' (by rw [List.length_set]; exact hs) (.inr rfl) (by omega) (by simp; omega)
            refine ⟨S', loopAt_step ok28.good 1000 ?_, b2⟩
            simp only [playS, List.length_append, List.length_cons, List.length_nil, Nat.zero_add] at b1 ⊢
            rw [ej] at c4
            ((repeat ((conv => lhs; whnf); simp only [go_sem, ↓reduceIte, Nat.reduceEqDiff, Nat.reduceBEq, Nat.reduceAdd, Nat.reduceMul, Nat.reduceSub, Nat.reduceLT, Nat.reduceLeDiff, reduceCtorEq, Int.reduceToNat, Int.reduceLE, Int.reduceLT, Int.reduceEq, sem28, ap, h6, c1', Int.toNat_natCast, x1, hjs, bg, c2', bset, h5, h7, h8, c3, ej, c4, boolRows_refs])); try (conv => lhs; whnf); try rfl)
            exact b1
noncomputable def fx29 : FX := ⟨Try.f29, hints.of 29, []⟩
theorem ok29 : fx29.ok 29 := ⟨by kernel_rfl, of_decide_eq_true (by kernel_rfl), by kernel_rfl, by kernel_rfl, by kernel_rfl⟩
theorem sem29 (b0 : Nat) (m : Md) (fs : List Fr) (e : Env) (S : Store) : sem b0 fx29 m fs e S = run b0 fx29 1000 m fs e S := (sem_eq _ _ _ _ _ _).trans (run_sem b0 fx29 ok29.good 1000 m fs e S).symm
end
end Go.Vs
end
/- The reference's Strategy: its inner loop. -/
section
set_option linter.unusedVariables false
set_option linter.unusedSimpArgs false
namespace Go.Vs
open Go Go.Proofs
end Go.Vs
end
/- The reference's Strategy: what it returns. -/
section
set_option linter.unusedVariables false
set_option linter.unusedSimpArgs false
namespace Go.Vs
open Go Go.Proofs
end Go.Vs
end
/- The reference's Strategy: what it returns. -/
section
set_option linter.unusedVariables false
set_option linter.unusedSimpArgs false
namespace Go.Vs
open Go Go.Proofs
end Go.Vs
end
/- law 23's ints: lists that are the same. -/
section
set_option linter.unusedVariables false
set_option linter.unusedSimpArgs false
namespace Go.Vs
open Go Go.Proofs
end Go.Vs
end
/- law 23's awake gives true. -/
section
set_option linter.unusedVariables false
set_option linter.unusedSimpArgs false
namespace Go.Vs
open Go Go.Proofs
theorem call13 : callL Try.prog hints 13 [] = some (.bool true) := callL_run (n := 60) (isTrue_eq (by kernel_rfl))
end Go.Vs
end
/- Printed by a program of mine (stage1.py): the functions 3, piece by piece. -/
section
set_option linter.unusedVariables false
set_option linter.unusedSimpArgs false
namespace Go.Vs
open Go Go.Proofs
noncomputable section

/-! ### isochronelaw23.GameSolves -/
namespace F3
section
variable (b : Nat) (K : KT) (x0 x1 x2 x4 x5 x6 x7 x8 x9 x10 x12 x15 x41 x62 x81 : PV) (e : Env) (S : Store)
end
end F3
end
end Go.Vs
end
/- GameSolves: the law returns true. -/
section
set_option linter.unusedVariables false
set_option linter.unusedSimpArgs false
namespace Go.Vs
open Go Go.Proofs
end Go.Vs
end
/- GameBeats: the law returns true. -/
section
set_option linter.unusedVariables false
set_option linter.unusedSimpArgs false
set_option maxRecDepth 100000
namespace Go.Vs
open Go Go.Proofs
def Game.play (g : Game) (z o : List Int) (fr : Int) : List Int × Int := g.playF z o (g.owner.length + 1) fr.toNat (zbool g.owner.length) []
/-- What Play returns. -/
def Game.playRes (g : Game) (z o : List Int) (fr : Int) : (List Int × Int) × Int :=
  if g.check ≠ 0 then (([], 0), g.check)
  else if fr < 0 ∨ (g.owner.length : Int) ≤ fr then (([], 0), 1)
  else if g.fits 0 z = false ∨ g.fits 1 o = false then (([], 0), 3)
  else (g.play z o fr, 0)
def IsPlay (g : Game) (z o : List Int) (fr : Int) (v : PV) : Prop := ∃ w, v = .tup [w, .int .i64 (g.playRes z o fr).1.2, .int .i64 (g.playRes z o fr).2] ∧ IsInts w (g.playRes z o fr).1.1
theorem playF_len (g : Game) (z o : List Int) : ∀ (n j : Nat) (seen : List Bool) (P : List Int), (g.playF z o n j seen P).1.length ≤ P.length + n
  | 0, j, seen, P => by simp [Game.playF]
  | n + 1, j, seen, P => by
    rw [Game.playF]
    have e : (P ++ [(j : Int)]).length = P.length + 1 := by simp
    generalize (if g.owner.getD j 0 = 1 then o.getD j 0 else z.getD j 0) = nx
    by_cases c1 : g.goal.getD j false = true
    · rw [if_pos c1]
      show (P ++ [(j : Int)]).length ≤ _
      omega
    · rw [if_neg c1]
      by_cases c2 : seen.getD j false = true
      · rw [if_pos c2]
        show (P ++ [(j : Int)]).length ≤ _
        omega
      · rw [if_neg c2]
        by_cases c3 : nx < 0
        · rw [if_pos c3]
          show (P ++ [(j : Int)]).length ≤ _
          omega
        · rw [if_neg c3]
          have := playF_len g z o n nx.toNat (seen.set j true) (P ++ [(j : Int)])
          omega
theorem unseen_zbool (n : Nat) : unseen (zbool n) = n := by simp [unseen, zbool, List.countP_replicate]
section
attribute [local irreducible] Vs.callL Vs.callRL tyi callO callM callMV appendE storeE evLoad indexAddrO sliceO evFieldAddr evField buildO buildSliceO makeSliceO allocO boxed lenO copyE convertO indexO Vs.gc freezeAll
theorem call28 (g : Game) (hg : g.ok) (z o : List Int) (fr : Int) : ∃ v, IsPlay g z o fr v ∧ callL Try.prog hints 28 [.agg g.cells, .sl (intRows z) false, .sl (intRows o) false, .int .i64 fr] = some v := by
  have c1 := fun S => callG S (call17 g hg)
  unfold IsPlay Game.playRes
  by_cases h : g.check = 0
  · have hgd := good_of h
    have hN := hgd.n
    have c2 := fun (p : Int) (l : List Int) S => callO3 S (call60 g hg hgd p l false)
    rw [if_neg (by simpa using h)]
    by_cases hb : fr < 0 ∨ (g.owner.length : Int) ≤ fr
    · rw [if_pos hb]
      refine ⟨_, ⟨.sl [] true, rfl, ⟨true, rfl, fun _ => rfl⟩⟩, FX.callL (r := (.tup [.sl [] true, .int .i64 0, .int .i64 1], [.arr [g.cells] none false])) ok28 1000 rfl rfl ?_ rfl⟩
      by_cases a3 : fr < 0
      · ((repeat ((conv => lhs; whnf); simp only [go_sem, ↓reduceIte, Nat.reduceEqDiff, Nat.reduceBEq, Nat.reduceAdd, Nat.reduceMul, Nat.reduceSub, Nat.reduceLT, Nat.reduceLeDiff, reduceCtorEq, Int.reduceToNat, Int.reduceLE, Int.reduceLT, Int.reduceEq, sem28, c1, h, a3])); try (conv => lhs; whnf); try rfl)
      · have a4 : (g.owner.length : Int) ≤ fr := by
          rcases hb with hb | hb
          · exact absurd hb a3
          · exact hb
        ((repeat ((conv => lhs; whnf); simp only [go_sem, ↓reduceIte, Nat.reduceEqDiff, Nat.reduceBEq, Nat.reduceAdd, Nat.reduceMul, Nat.reduceSub, Nat.reduceLT, Nat.reduceLeDiff, reduceCtorEq, Int.reduceToNat, Int.reduceLE, Int.reduceLT, Int.reduceEq, sem28, c1, h, a3, a4])); try (conv => lhs; whnf); try rfl)
    · rw [if_neg hb]
      have a3 : ¬ fr < 0 := fun x => hb (.inl x)
      have a4 : ¬ (g.owner.length : Int) ≤ fr := fun x => hb (.inr x)
      cases hz : g.fits 0 z with
      | false =>
        rw [if_pos (.inl rfl)]
        refine ⟨_, ⟨.sl [] true, rfl, ⟨true, rfl, fun _ => rfl⟩⟩, FX.callL (r := (.tup [.sl [] true, .int .i64 0, .int .i64 3], [.arr [g.cells] none false])) ok28 1000 rfl rfl ?_ rfl⟩
        ((repeat ((conv => lhs; whnf); simp only [go_sem, ↓reduceIte, Nat.reduceEqDiff, Nat.reduceBEq, Nat.reduceAdd, Nat.reduceMul, Nat.reduceSub, Nat.reduceLT, Nat.reduceLeDiff, reduceCtorEq, Int.reduceToNat, Int.reduceLE, Int.reduceLT, Int.reduceEq, sem28, c1, h, a3, a4, c2, hz])); try (conv => lhs; whnf); try rfl)
      | true =>
        cases ho : g.fits 1 o with
        | false =>
          rw [if_pos (.inr rfl)]
          refine ⟨_, ⟨.sl [] true, rfl, ⟨true, rfl, fun _ => rfl⟩⟩, FX.callL (r := (.tup [.sl [] true, .int .i64 0, .int .i64 3], [.arr [g.cells] none false])) ok28 1000 rfl rfl ?_ rfl⟩
          ((repeat ((conv => lhs; whnf); simp only [go_sem, ↓reduceIte, Nat.reduceEqDiff, Nat.reduceBEq, Nat.reduceAdd, Nat.reduceMul, Nat.reduceSub, Nat.reduceLT, Nat.reduceLeDiff, reduceCtorEq, Int.reduceToNat, Int.reduceLE, Int.reduceLT, Int.reduceEq, sem28, c1, h, a3, a4, c2, hz, ho])); try (conv => lhs; whnf); try rfl)
        | true =>
          rw [if_neg (by simp)]
          have hzl : (zbool g.owner.length).length = g.owner.length := by simp [zbool]
          obtain ⟨S', b1, gg, b2⟩ := loop28_0 g hgd z o hz ho (g.owner.length + 1) fr.toNat (zbool g.owner.length) [] none (by omega) hzl (.inl rfl) (by rw [unseen_zbool]; omega) (by simp; omega)
          have m2 := fun id => makeSlice24 id g.owner.length (by omega)
          have e1 : (fr.toNat : Int) = fr := by omega
          rw [e1] at b1
          have b1' := b1
          unfold playS at b1'
          rw [intRows_nil] at b1'
          refine ⟨_, ⟨.sl (intRows (g.play z o fr).1) false, rfl, ⟨false, rfl, fun h => by cases h⟩⟩, FX.callL (r := (.tup [.msl 2 0 (g.play z o fr).1.length false, .int .i64 (g.play z o fr).2, .int .i64 0], S')) ok28 1000 rfl rfl ?_ ?_⟩
          · ((repeat ((conv => lhs; whnf); simp only [go_sem, ↓reduceIte, Nat.reduceEqDiff, Nat.reduceBEq, Nat.reduceAdd, Nat.reduceMul, Nat.reduceSub, Nat.reduceLT, Nat.reduceLeDiff, reduceCtorEq, Int.reduceToNat, Int.reduceLE, Int.reduceLT, Int.reduceEq, sem28, c1, h, a3, a4, c2, hz, ho, m2])); try (conv => lhs; whnf); try rfl)
            exact b1'
          · show (mapO (fzPV1 S') [.msl 2 0 (g.play z o fr).1.length false, .int .i64 (g.play z o fr).2, .int .i64 0]).map PV.tup = _
            have e : fzPV1 S' (.msl 2 0 (g.play z o fr).1.length false) = some (.sl (intRows (g.play z o fr).1) false) := (Ints.msl 2 _ false _ _ b2).fz 6
            simp only [mapO, e, Option.bind_some]
            rfl
  · rw [if_pos h]
    refine ⟨_, ⟨.sl [] true, rfl, ⟨true, rfl, fun _ => rfl⟩⟩, FX.callL (r := (.tup [.sl [] true, .int .i64 0, .int .i64 g.check], [.arr [g.cells] none false])) ok28 1000 rfl rfl ?_ rfl⟩
    ((repeat ((conv => lhs; whnf); simp only [go_sem, ↓reduceIte, Nat.reduceEqDiff, Nat.reduceBEq, Nat.reduceAdd, Nat.reduceMul, Nat.reduceSub, Nat.reduceLT, Nat.reduceLeDiff, reduceCtorEq, Int.reduceToNat, Int.reduceLE, Int.reduceLT, Int.reduceEq, sem28, c1, h])); try (conv => lhs; whnf); try rfl)
end
end Go.Vs
end
/- A game is decided by its ranks: strategies, other strategies, plays. -/
section
set_option linter.unusedVariables false
set_option linter.unusedSimpArgs false
namespace Go.Vs
open Go Go.Proofs
theorem mem_hasFrom (x : Int) (l : List Int) : ∀ (m k : Nat), k + m = l.length → x ∈ l.drop k → hasFrom x l m k = true
  | 0, k, hk, h => by rw [List.drop_of_length_le (by omega)] at h; cases h
  | m + 1, k, hk, h => by
    have hkl : k < l.length := by omega
    rw [List.drop_eq_getElem_cons hkl] at h
    simp only [hasFrom, Bool.or_eq_true, decide_eq_true_eq]
    rcases List.mem_cons.1 h with h | h
    · left
      rw [List.getD_eq_getElem?_getD, List.getElem?_eq_getElem hkl, Option.getD_some, h]
    · exact .inr (mem_hasFrom x l m (k + 1) (by omega) h)
theorem fits_of {g : Game} {p : Int} {s : List Int} (hl : s.length = g.owner.length) (h : ∀ i, i < g.owner.length → s.getD i 0 = -1 ∨ (g.owner.getD i 0 = p ∧ s.getD i 0 ∈ g.moves.getD i [])) : g.fits p s = true := by
  have key : ∀ (m i : Nat), i + m = g.owner.length → g.fitFrom p s m i = true := by
    intro m
    induction m with
    | zero => intro i hi; rfl
    | succ m ih =>
      intro i hi
      simp only [Game.fitFrom, Bool.and_eq_true]
      refine ⟨?_, ih (i + 1) (by omega)⟩
      simp only [Game.fitAt, Bool.or_eq_true, decide_eq_true_eq, Bool.and_eq_true]
      rcases h i (by omega) with h1 | ⟨h1, h2⟩
      · exact .inl h1
      · exact .inr ⟨h1, mem_hasFrom _ _ _ 0 (by omega) (by rw [List.drop_zero]; exact h2)⟩
  simp only [Game.fits, Bool.and_eq_true, decide_eq_true_eq]
  exact ⟨hl, by rw [hl]; exact key _ 0 (by omega)⟩
theorem pickM_cases (p ri : Int) (R : List Int) : ∀ l : List Int, (pickM p ri R l = -1 ∧ ∀ m ∈ l, okM p ri (R.getD m.toNat 0) = false) ∨ (pickM p ri R l ∈ l ∧ okM p ri (R.getD (pickM p ri R l).toNat 0) = true)
  | [] => .inl ⟨rfl, fun m hm => by cases hm⟩
  | m :: l => by
    rw [pickM]
    by_cases h : okM p ri (R.getD m.toNat 0) = true
    · rw [if_pos h]; exact .inr ⟨by simp, h⟩
    · rw [if_neg h]
      rcases pickM_cases p ri R l with ⟨h1, h2⟩ | ⟨h1, h2⟩
      · refine .inl ⟨h1, fun x hx => ?_⟩
        rcases List.mem_cons.1 hx with rfl | hx
        · simpa using h
        · exact h2 x hx
      · exact .inr ⟨List.mem_cons_of_mem _ h1, h2⟩
theorem strat_get (g : Game) (p : Int) {i : Nat} (hi : i < g.owner.length) : (g.strat p).getD i 0 = stratAt g p g.ranks i := by
  simp [Game.strat, List.getD_eq_getElem?_getD, hi]
theorem strat_len (g : Game) (p : Int) : (g.strat p).length = g.owner.length := by simp [Game.strat]
/-- The rank of a position. -/
def Game.rank (g : Game) (i : Nat) : Int := Rk.rk (Rk.last g.toG) i
theorem rank_get (g : Game) {i : Nat} (hi : i < g.owner.length) : g.ranks.getD i 0 = g.rank i := getD_rk (by rw [ranks_len]; exact hi)
theorem strat_fits {g : Game} (hg : g.good) {p : Int} : g.fits p (g.strat p) = true := by
  refine fits_of (strat_len g p) fun i hi => ?_
  rw [strat_get g p hi]
  unfold stratAt
  split
  · rename_i ht
    simp only [takeB, Bool.and_eq_true, decide_eq_true_eq] at ht
    rcases pickM_cases p (g.ranks.getD i 0) g.ranks (g.moves.getD i []) with ⟨h1, _⟩ | ⟨h1, _⟩
    · exact .inl h1
    · exact .inr ⟨ht.1, h1⟩
  · exact .inl rfl
theorem move_pos {g : Game} (hg : g.good) {i : Nat} (hi : i < g.owner.length) {m : Int} (hm : m ∈ g.moves.getD i []) : ∃ j : Nat, j < g.owner.length ∧ m = j := by
  have := hg.ok.mv i hi m hm
  have h2 : m < (g.owner.length : Int) := this.2
  exact ⟨m.toNat, by omega, by omega⟩
/-- Player 0's move from a ranked position of his. -/
theorem strat0_at {g : Game} (hg : g.good) {i : Nat} (hi : i < g.owner.length) (ho : g.owner.getD i 0 = 0) (hr : 0 < g.rank i) : ∃ j : Nat, j < g.owner.length ∧ (g.strat 0).getD i 0 = j ∧ (j : Int) ∈ g.moves.getD i [] ∧ g.rank j = g.rank i - 1 := by
  have h1 := (Rk.last_ranked hg.ok (g := g.toG) hi hr).1 ho
  obtain ⟨m, hm, e⟩ := h1
  have hm' : m ∈ g.moves.getD i [] := hm
  obtain ⟨j, hj, rfl⟩ := move_pos hg hi hm'
  rw [strat_get g 0 hi]
  have ht : takeB 0 (g.owner.getD i 0) (g.ranks.getD i 0) = true := by
    rw [rank_get g hi, ho]
    simp [takeB, hr]
  unfold stratAt
  rw [if_pos ht]
  have ok : ∀ m : Int, okM 0 (g.ranks.getD i 0) (g.ranks.getD m.toNat 0) = true ↔ g.ranks.getD m.toNat 0 = g.rank i - 1 := fun m => by
    rw [rank_get g hi]
    simp [okM]
  rcases pickM_cases 0 (g.ranks.getD i 0) g.ranks (g.moves.getD i []) with ⟨_, h2⟩ | ⟨h1, h2⟩
  · have a := h2 j hm'
    have b : okM 0 (g.ranks.getD i 0) (g.ranks.getD (j : Int).toNat 0) = true := (ok _).2 (by rw [Int.toNat_natCast, rank_get g hj]; exact e)
    rw [a] at b
    cases b
  · obtain ⟨q, hq, eq⟩ := move_pos hg hi h1
    refine ⟨q, hq, eq, eq ▸ h1, ?_⟩
    have := (ok _).1 h2
    rw [eq, Int.toNat_natCast, rank_get g hq] at this
    exact this
/-- Player 1's move from an unranked position of his. -/
theorem strat1_at {g : Game} (hg : g.good) {i : Nat} (hi : i < g.owner.length) (ho : g.owner.getD i 0 = 1) (hr : g.rank i < 0) : ∃ j : Nat, j < g.owner.length ∧ (g.strat 1).getD i 0 = j ∧ (j : Int) ∈ g.moves.getD i [] ∧ g.rank j < 0 := by
  have h1 := (Rk.last_unranked hg.ok (g := g.toG) hi hr).2.2 ho
  obtain ⟨m, hm, e⟩ := h1
  have hm' : m ∈ g.moves.getD i [] := hm
  obtain ⟨j, hj, rfl⟩ := move_pos hg hi hm'
  rw [strat_get g 1 hi]
  have ht : takeB 1 (g.owner.getD i 0) (g.ranks.getD i 0) = true := by
    rw [rank_get g hi, ho]
    simp [takeB, hr]
  unfold stratAt
  rw [if_pos ht]
  have ok : ∀ m : Int, okM 1 (g.ranks.getD i 0) (g.ranks.getD m.toNat 0) = true ↔ g.ranks.getD m.toNat 0 < 0 := fun m => by
    simp [okM]
  rcases pickM_cases 1 (g.ranks.getD i 0) g.ranks (g.moves.getD i []) with ⟨_, h2⟩ | ⟨h1, h2⟩
  · have a := h2 j hm'
    have b : okM 1 (g.ranks.getD i 0) (g.ranks.getD (j : Int).toNat 0) = true := (ok _).2 (by rw [Int.toNat_natCast, rank_get g hj]; exact e)
    rw [a] at b
    cases b
  · obtain ⟨q, hq, eq⟩ := move_pos hg hi h1
    refine ⟨q, hq, eq, eq ▸ h1, ?_⟩
    have := (ok _).1 h2
    rw [eq, Int.toNat_natCast, rank_get g hq] at this
    exact this
theorem strat_none {g : Game} (hg : g.good) {p : Int} {i : Nat} (hi : i < g.owner.length) (h : takeB p (g.owner.getD i 0) (g.rank i) = false) : (g.strat p).getD i 0 = -1 := by
  rw [strat_get g p hi]
  unfold stratAt
  rw [rank_get g hi, h, if_neg (by simp)]
theorem held_like (g : Game) (p : Int) (s : List Int) : Rk.Like g.toG (g.held p s).toG := ⟨rfl, rfl, rfl⟩
theorem held_moves (g : Game) (p : Int) (s : List Int) {i : Nat} (hi : i < g.owner.length) : (g.held p s).toG.moves i = g.heldAt p s i := heldMoves_get g p s hi
theorem beats_iff (g : Game) (p : Int) (s : List Int) {i : Nat} (hi : i < g.owner.length) : g.beats p s i = (decide (0 ≤ (g.held p s).rank i) == decide (p = 0)) := by
  unfold Game.beats winB
  rw [Int.toNat_natCast, rank_get (g.held p s) (i := i) hi]
/-- From a ranked position player 0's strategy wins, and no strategy of player 1 does. -/
theorem decides0 {g : Game} (hg : g.good) {i : Nat} (hi : i < g.owner.length) (hr : 0 ≤ g.rank i) : g.beats 0 (g.strat 0) i = true ∧ ∀ o, g.fits 1 o = true → g.beats 1 o i = false := by
  refine ⟨?_, fun o ho => ?_⟩
  · rw [beats_iff g 0 _ hi]
    have := Rk.ranked_last hg.ok (held_like g 0 (g.strat 0)) (fun k hk h0 => by
      rw [held_moves g 0 _ hk]
      unfold Game.heldAt
      refine ⟨fun hw => ?_, fun hw m hm => ?_⟩
      · have hw' : g.owner.getD k 0 = 0 := hw
        rw [if_pos hw']
        obtain ⟨j, hj, e1, e2, e3⟩ := strat0_at hg hk hw' h0
        rw [e1, if_pos (by omega)]
        have hjr := Rk.rk_range g.toG (g.owner.length + 1) j hj
        have e4 : Rk.rk (Rk.last g.toG) j = Rk.rk (Rk.last g.toG) k - 1 := e3
        exact ⟨j, by simp, ⟨j, hj, rfl⟩, by omega, by omega⟩
      · have hw' : g.owner.getD k 0 = 1 := hw
        rw [if_neg (by rw [hw']; decide)] at hm
        exact ⟨move_pos hg hk hm, (Rk.last_ranked hg.ok (g := g.toG) hk h0).2 hw m hm⟩) hi hr
    have h2 : 0 ≤ (g.held 0 (g.strat 0)).rank i := this
    simp [h2]
  · rw [beats_iff g 1 _ hi]
    have := Rk.ranked_last hg.ok (held_like g 1 o) (fun k hk h0 => by
      rw [held_moves g 1 _ hk]
      refine ⟨fun hw => ?_, fun hw m hm => ?_⟩
      · have hw' : g.owner.getD k 0 = 0 := hw
        unfold Game.heldAt
        rw [if_neg (by rw [hw']; decide)]
        obtain ⟨m, hm, e⟩ := (Rk.last_ranked hg.ok (g := g.toG) hk h0).1 hw
        exact ⟨m, hm, move_pos hg hk hm, by omega, by omega⟩
      · have hm' := heldAt_sub ho hk m hm
        exact ⟨move_pos hg hk hm', (Rk.last_ranked hg.ok (g := g.toG) hk h0).2 hw m hm'⟩) hi hr
    have h2 : 0 ≤ (g.held 1 o).rank i := this
    simp [h2]
/-- From an unranked position player 1's strategy wins, and no strategy of player 0 does. -/
theorem decides1 {g : Game} (hg : g.good) {i : Nat} (hi : i < g.owner.length) (hr : g.rank i < 0) : g.beats 1 (g.strat 1) i = true ∧ ∀ o, g.fits 0 o = true → g.beats 0 o i = false := by
  refine ⟨?_, fun o ho => ?_⟩
  · rw [beats_iff g 1 _ hi]
    have := Rk.unranked_in hg.ok (held_like g 1 (g.strat 1)) (fun k hk h0 => by
      rw [held_moves g 1 _ hk]
      unfold Game.heldAt
      refine ⟨fun hw m hm => ?_, fun hw => ?_⟩
      · have hw' : g.owner.getD k 0 = 0 := hw
        rw [if_neg (by rw [hw']; decide)] at hm
        exact ⟨move_pos hg hk hm, (Rk.last_unranked hg.ok (g := g.toG) hk h0).2.1 hw m hm⟩
      · have hw' : g.owner.getD k 0 = 1 := hw
        rw [if_pos hw']
        obtain ⟨j, hj, e1, e2, e3⟩ := strat1_at hg hk hw' h0
        rw [e1, if_pos (by omega)]
        exact ⟨j, by simp, ⟨j, hj, rfl⟩, e3⟩) (g.owner.length + 1) i hi hr
    have h2 : (g.held 1 (g.strat 1)).rank i < 0 := this
    have h3 : ¬ 0 ≤ (g.held 1 (g.strat 1)).rank i := by omega
    simp [h3]
  · rw [beats_iff g 0 _ hi]
    have := Rk.unranked_in hg.ok (held_like g 0 o) (fun k hk h0 => by
      rw [held_moves g 0 _ hk]
      refine ⟨fun hw m hm => ?_, fun hw => ?_⟩
      · have hm' := heldAt_sub ho hk m hm
        exact ⟨move_pos hg hk hm', (Rk.last_unranked hg.ok (g := g.toG) hk h0).2.1 hw m hm'⟩
      · have hw' : g.owner.getD k 0 = 1 := hw
        unfold Game.heldAt
        rw [if_neg (by rw [hw']; decide)]
        obtain ⟨m, hm, e⟩ := (Rk.last_unranked hg.ok (g := g.toG) hk h0).2.2 hw
        exact ⟨m, hm, move_pos hg hk hm, e⟩) (g.owner.length + 1) i hi hr
    have h2 : (g.held 0 o).rank i < 0 := this
    have h3 : ¬ 0 ≤ (g.held 0 o).rank i := by omega
    simp [h3]
/-- Ranks go down along a list. -/
def downs (g : Game) : Int → List Int → Prop
  | _, [] => True
  | r, x :: l => (∃ j : Nat, j < g.owner.length ∧ x = j ∧ 0 ≤ g.rank j ∧ g.rank j < r) ∧ downs g (Rk.rk (Rk.last g.toG) x) l
theorem rank_cast (g : Game) (j : Nat) : Rk.rk (Rk.last g.toG) j = g.rank j := rfl
/-- The play of both strategies from a ranked position. -/
theorem play0 {g : Game} (hg : g.good) : ∀ (n j : Nat) (seen : List Bool) (P : List Int), j < g.owner.length → 0 ≤ g.rank j → g.rank j < n → (∀ q, q < g.owner.length → seen.getD q false = true → g.rank j < g.rank q) → seen.length = g.owner.length →
    ∃ l, g.playF (g.strat 0) (g.strat 1) n j seen P = (P ++ (j : Int) :: l, 0) ∧ downs g (g.rank j) l
  | 0, j, seen, P, hj, h0, hn, hs, hl => by omega
  | n + 1, j, seen, P, hj, h0, hn, hs, hl => by
    rw [Game.playF]
    by_cases c1 : g.goal.getD j false = true
    · rw [if_pos c1]; exact ⟨[], rfl, trivial⟩
    · rw [if_neg c1]
      have hr : 0 < g.rank j := by
        by_cases e : g.rank j = 0
        · exact absurd ((Rk.last_goal (g := g.toG) hj).1 e) c1
        · omega
      have c2 : ¬ seen.getD j false = true := fun h => by have := hs j hj h; omega
      rw [if_neg c2]
      rcases hg.ok.own j hj with ho | ho
      · have ho' : g.owner.getD j 0 = 0 := ho
        obtain ⟨q, hq, e1, e2, e3⟩ := strat0_at hg hj ho' hr
        rw [if_neg (show ¬ g.owner.getD j 0 = 1 by rw [ho']; decide), e1, if_neg (by omega), Int.toNat_natCast]
        have hqr := Rk.rk_range g.toG (g.owner.length + 1) q hq
        have hq0 : 0 ≤ g.rank q := by omega
        obtain ⟨l, a1, a2⟩ := play0 hg n q (seen.set j true) (P ++ [(j : Int)]) hq hq0 (by omega) (fun x hx hsx => by
          by_cases e : j = x
          · subst e; omega
          · have : (seen.set j true).getD x false = seen.getD x false := by simp [List.getD_eq_getElem?_getD, List.getElem?_set_ne e]
            rw [this] at hsx
            have := hs x hx hsx
            omega) (by rw [List.length_set]; exact hl)
        refine ⟨(q : Int) :: l, by rw [a1]; simp, ⟨q, hq, rfl, hq0, by omega⟩, ?_⟩
        rw [rank_cast]; exact a2
      · have ho' : g.owner.getD j 0 = 1 := ho
        have e1 : (g.strat 1).getD j 0 = -1 := strat_none hg hj (by
          rw [ho']
          have h3 : ¬ g.rank j < 0 := by omega
          simp [takeB, h3])
        rw [if_pos ho', e1, if_pos (by decide), ho']
        exact ⟨[], rfl, trivial⟩
/-- The play of both strategies from an unranked position. -/
theorem play1 {g : Game} (hg : g.good) : ∀ (n j : Nat) (seen : List Bool) (P : List Int), j < g.owner.length → g.rank j < 0 → unseen seen < n → seen.length = g.owner.length →
    ∃ l, g.playF (g.strat 0) (g.strat 1) n j seen P = (P ++ (j : Int) :: l, 1)
  | 0, j, seen, P, hj, h0, hn, hl => by omega
  | n + 1, j, seen, P, hj, h0, hn, hl => by
    rw [Game.playF]
    have c1 : ¬ g.goal.getD j false = true := fun h => by
      have e : g.rank j = 0 := (Rk.last_goal (g := g.toG) hj).2 h
      omega
    rw [if_neg c1]
    by_cases c2 : seen.getD j false = true
    · rw [if_pos c2]; exact ⟨[], rfl⟩
    · rw [if_neg c2]
      rcases hg.ok.own j hj with ho | ho
      · have ho' : g.owner.getD j 0 = 0 := ho
        have e1 : (g.strat 0).getD j 0 = -1 := strat_none hg hj (by
          rw [ho']
          have h3 : ¬ 0 < g.rank j := by omega
          simp [takeB, h3])
        rw [if_neg (show ¬ g.owner.getD j 0 = 1 by rw [ho']; decide), e1, if_pos (by decide), ho']
        exact ⟨[], rfl⟩
      · have ho' : g.owner.getD j 0 = 1 := ho
        obtain ⟨q, hq, e1, e2, e3⟩ := strat1_at hg hj ho' h0
        rw [if_pos ho', e1, if_neg (by omega), Int.toNat_natCast]
        have hu := unseen_set seen j (by omega) (by simpa using c2)
        obtain ⟨l, a1⟩ := play1 hg n q (seen.set j true) (P ++ [(j : Int)]) hq e3 (by omega) (by rw [List.length_set]; exact hl)
        exact ⟨(q : Int) :: l, by rw [a1]; simp⟩
end Go.Vs
end
/- GameDecides: the law returns true. -/
section
set_option linter.unusedVariables false
set_option linter.unusedSimpArgs false
set_option maxRecDepth 100000
namespace Go.Vs
open Go Go.Proofs
theorem Rk.last_le {g : Rk.G} (hg : g.ok) {i : Nat} (hi : i < g.n) : Rk.rk (Rk.last g) i ≤ g.n := by
  rcases Rk.over_or g (g.n + 1) with ⟨r, h1, h2, h3⟩ | h
  · have a := Rk.stable g hg (r := r) (by omega) h3 (g.n + 1 - r)
    rw [show r + (g.n + 1 - r) = g.n + 1 by omega] at a
    have e : Rk.last g = Rk.lvl g r := a
    rw [e]
    have := Rk.rk_range g r i hi
    have := h3 i hi
    omega
  · omega
theorem downs_at {g : Game} : ∀ (l : List Int) (r : Int), downs g r l → ∀ k, k < l.length → ∃ b : Nat, b < g.owner.length ∧ l.getD k 0 = b ∧ 0 ≤ g.rank b ∧ g.rank b < (if k = 0 then r else Rk.rk (Rk.last g.toG) (l.getD (k - 1) 0))
  | [], r, h, k, hk => by simp at hk
  | x :: l, r, h, 0, hk => by
    obtain ⟨⟨j, hj, e, h0, h1⟩, _⟩ := h
    exact ⟨j, hj, by simpa using e, h0, by simpa using h1⟩
  | x :: l, r, h, k + 1, hk => by
    obtain ⟨_, h2⟩ := h
    obtain ⟨b, hb, e, h0, h1⟩ := downs_at l _ h2 k (by simpa using hk)
    refine ⟨b, hb, by simpa using e, h0, ?_⟩
    rw [if_neg (by omega)]
    by_cases e0 : k = 0
    · subst e0
      simpa using h1
    · rw [if_neg e0] at h1
      obtain ⟨m, rfl⟩ : ∃ m, k = m + 1 := ⟨k - 1, by omega⟩
      simpa using h1
section
attribute [local irreducible] Vs.callL Vs.callRL tyi callO callM callMV appendE storeE evLoad indexAddrO sliceO evFieldAddr evField buildO buildSliceO makeSliceO allocO boxed lenO copyE convertO indexO Vs.gc freezeAll
noncomputable def fx5 : FX := ⟨Try.f5, hints.of 5, []⟩
theorem ok5 : fx5.ok 5 := ⟨by kernel_rfl, of_decide_eq_true (by kernel_rfl), by kernel_rfl, by kernel_rfl, by kernel_rfl⟩
theorem sem5 (b0 : Nat) (m : Md) (fs : List Fr) (e : Env) (S : Store) : sem b0 fx5 m fs e S = run b0 fx5 1000 m fs e S := (sem_eq _ _ _ _ _ _).trans (run_sem b0 fx5 ok5.good 1000 m fs e S).symm
theorem loop5_0 (g : Game) (R : List Int) (hR : R = g.ranks) (L : List Int) (hL : L.length ≤ maxLen) (hd : ∀ k, 1 ≤ k → k < L.length → ∃ a b : Nat, a < g.owner.length ∧ b < g.owner.length ∧ L.getD (k - 1) 0 = a ∧ L.getD k 0 = b ∧ 0 ≤ g.rank b ∧ g.rank b < g.rank a) : ∀ (m k : Nat), 1 ≤ k → k + m = L.length →
    loopAt 0 fx5 0 4194292 1 [.blk 0, .seq 0 524287] [(15, .sl (intRows R) false), (17, .int .i64 0), (22, .sl (intRows L) false), (24, .int .i64 k)] [.arr [g.cells] none false] = some (.bool true, [.arr [g.cells] none false]) := by
  have hrl := ranks_len g
  intro m
  induction m with
  | zero =>
    intro k h1 hk
    have c1 : ¬ (k : Int) < (L.length : Int) := by omega
    refine loopAt_step ok5.good 1000 ?_
    ((repeat ((conv => lhs; whnf); simp only [go_sem, ↓reduceIte, Nat.reduceEqDiff, Nat.reduceBEq, Nat.reduceAdd, Nat.reduceMul, Nat.reduceSub, Nat.reduceLT, Nat.reduceLeDiff, reduceCtorEq, Int.reduceToNat, Int.reduceLE, Int.reduceLT, Int.reduceEq, sem5, c1])); try (conv => lhs; whnf); try rfl)
    refine exit_run ok5.good 1000 ?_
    ((repeat ((conv => lhs; whnf); simp only [go_sem, ↓reduceIte, Nat.reduceEqDiff, Nat.reduceBEq, Nat.reduceAdd, Nat.reduceMul, Nat.reduceSub, Nat.reduceLT, Nat.reduceLeDiff, reduceCtorEq, Int.reduceToNat, Int.reduceLE, Int.reduceLT, Int.reduceEq, sem5])); try (conv => lhs; whnf); try rfl)
  | succ m hm =>
    intro k h1 hk
    have c1 : (k : Int) < (L.length : Int) := by omega
    have w1 := wrap_succ (i := k) (n := L.length) (by omega) hL
    have w2 := wrap_down (k := k) (by omega) (by omega)
    obtain ⟨a, b, ha, hb, ea, eb, h0, hlt⟩ := hd k h1 (by omega)
    have x1 : 0 ≤ (k : Int) ∧ (k : Int) < (L.length : Int) := ⟨by omega, c1⟩
    have x2 : 0 ≤ ((k - 1 : Nat) : Int) ∧ ((k - 1 : Nat) : Int) < (L.length : Int) := ⟨by omega, by omega⟩
    have x3 : 0 ≤ (a : Int) ∧ (a : Int) < (R.length : Int) := ⟨by omega, by rw [hR]; omega⟩
    have x4 : 0 ≤ (b : Int) ∧ (b : Int) < (R.length : Int) := ⟨by omega, by rw [hR]; omega⟩
    have r1 : R.getD a 0 = g.rank a := by rw [hR]; exact rank_get g ha
    have r2 : R.getD b 0 = g.rank b := by rw [hR]; exact rank_get g hb
    have c2 : ¬ g.rank b < 0 := by omega
    have c3 : ¬ g.rank a ≤ g.rank b := by omega
    refine loopAt_step ok5.good 1000 ?_
    ((repeat ((conv => lhs; whnf); simp only [go_sem, ↓reduceIte, Nat.reduceEqDiff, Nat.reduceBEq, Nat.reduceAdd, Nat.reduceMul, Nat.reduceSub, Nat.reduceLT, Nat.reduceLeDiff, reduceCtorEq, Int.reduceToNat, Int.reduceLE, Int.reduceLT, Int.reduceEq, sem5, c1, x1, x2, x3, x4, w2, Int.toNat_natCast, ea, eb, r1, r2, c2, c3, w1])); try (conv => lhs; whnf); try rfl)
    exact hm (k + 1) (by omega) (by omega)
end
theorem IsInts.ne {v : PV} {l : List Int} (h : IsInts v l) (h0 : l ≠ []) : v = .sl (intRows l) false := by
  obtain ⟨ex, rfl, h2⟩ := h
  cases ex with
  | false => rfl
  | true => exact absurd (h2 rfl) h0
theorem IsBools.ne {v : PV} {l : List Bool} (h : IsBools v l) (h0 : l ≠ []) : v = .sl (boolRows l) false := by
  obtain ⟨ex, rfl, h2⟩ := h
  cases ex with
  | false => rfl
  | true => exact absurd (h2 rfl) h0
theorem wins_get (g : Game) (p : Int) {j : Nat} (hj : j < g.owner.length) : (g.wins p).getD j false = winB p (g.rank j) := by
  rw [← rank_get g hj]
  have : j < g.ranks.length := by rw [ranks_len]; exact hj
  simp [Game.wins, List.getD_eq_getElem?_getD, this]
theorem wins_len (g : Game) (p : Int) : (g.wins p).length = g.owner.length := by simp [Game.wins, ranks_len]
section
attribute [local irreducible] Vs.callL Vs.callRL tyi callO callM callMV appendE storeE evLoad indexAddrO sliceO evFieldAddr evField buildO buildSliceO makeSliceO allocO boxed lenO copyE convertO indexO Vs.gc freezeAll
theorem law5_ (g : Game) (hg : g.ok) (fr : Int) (o : List Int) : callL Try.prog hints 5 [.agg g.cells, .int .i64 fr, .sl (intRows o) false] = some (.bool true) := by
  have k13 := fun S => callO_plain (S := S) call13 (by simp)
  obtain ⟨bl, k14⟩ := call14 g hg
  have k14 := fun S => callG S k14
  have k18 := fun S => callG S (call18 g hg)
  refine FX.callL (r := (.bool true, [.arr [g.cells] none false])) ok5 1000 rfl rfl ?_ rfl
  cases bl with
  | false => ((repeat ((conv => lhs; whnf); simp only [go_sem, ↓reduceIte, Nat.reduceEqDiff, Nat.reduceBEq, Nat.reduceAdd, Nat.reduceMul, Nat.reduceSub, Nat.reduceLT, Nat.reduceLeDiff, reduceCtorEq, Int.reduceToNat, Int.reduceLE, Int.reduceLT, Int.reduceEq, sem5, k13, k14])); try (conv => lhs; whnf); try rfl)
  | true =>
    by_cases h : g.check = 0
    · by_cases a3 : fr < 0
      · ((repeat ((conv => lhs; whnf); simp only [go_sem, ↓reduceIte, Nat.reduceEqDiff, Nat.reduceBEq, Nat.reduceAdd, Nat.reduceMul, Nat.reduceSub, Nat.reduceLT, Nat.reduceLeDiff, reduceCtorEq, Int.reduceToNat, Int.reduceLE, Int.reduceLT, Int.reduceEq, sem5, k13, k14, k18, h, a3])); try (conv => lhs; whnf); try rfl)
      · by_cases a4 : (g.owner.length : Int) ≤ fr
        · ((repeat ((conv => lhs; whnf); simp only [go_sem, ↓reduceIte, Nat.reduceEqDiff, Nat.reduceBEq, Nat.reduceAdd, Nat.reduceMul, Nat.reduceSub, Nat.reduceLT, Nat.reduceLeDiff, reduceCtorEq, Int.reduceToNat, Int.reduceLE, Int.reduceLT, Int.reduceEq, sem5, k13, k14, k18, h, a3, a4])); try (conv => lhs; whnf); try rfl)
        · have hgd := good_of h
          have hN := hgd.n
          have hm4 : (4000 : Nat) ≤ maxLen := by decide
          obtain ⟨j, rfl⟩ : ∃ j : Nat, fr = j := ⟨fr.toNat, by omega⟩
          have hj : j < g.owner.length := by omega
          have ne : ∀ {α : Type} {l : List α}, l.length = g.owner.length → l ≠ [] := fun e h => by rw [h] at e; simp at e; omega
          have e0 := winsErr_ok (p := 0) h (.inl rfl)
          have e1 := winsErr_ok (p := 1) h (.inr rfl)
          obtain ⟨v0, ⟨w0, rfl, i0, _⟩, k20⟩ := call20 g hg 0
          obtain ⟨v1, ⟨w1, rfl, i1, _⟩, k21⟩ := call20 g hg 1
          obtain ⟨v2, ⟨w2, rfl, i2, _⟩, k24⟩ := call24 g hg 0
          obtain ⟨v3, ⟨w3, rfl, i3, _⟩, k25⟩ := call24 g hg 1
          obtain rfl := (i0 e0).ne (ne (wins_len g 0))
          obtain rfl := (i1 e1).ne (ne (wins_len g 1))
          obtain rfl := (i2 e0).ne (ne (strat_len g 0))
          obtain rfl := (i3 e1).ne (ne (strat_len g 1))
          have k20 := fun S => callGI S k20
          have k21 := fun S => callGI S k21
          have k24 := fun S => callGI S k24
          have k25 := fun S => callGI S k25
          have k15 := call15 g hg
          unfold Game.ranksRes at k15
          rw [if_pos h] at k15
          have k15 := fun S => callG S k15
          rw [e0] at k20 k24
          rw [e1] at k21 k25
          have f0 := strat_fits hgd (p := 0)
          have f1 := strat_fits hgd (p := 1)
          have plain4 : ∀ (a b c d : PV), Plain a → Plain b → Plain c → Plain d → ∀ x ∈ [a, b, c, d], Plain x := fun a b c d ha hb hc hd x hx => by
            simp only [List.mem_cons, List.not_mem_nil, or_false] at hx
            rcases hx with rfl | rfl | rfl | rfl <;> assumption
          have kb := fun (p : Int) (s : List Int) S => callO_plain (S := S) (call26 g hg p s j) (plain4 _ _ _ _ g.plain (.int _ _) (.sl _) (.int _ _))
          have kf := fun (p : Int) S => callO3 S (call30 g hg hgd p o false)
          have res : ∀ (p : Int) (s : List Int), (p = 0 ∨ p = 1) → g.fits p s = true → g.beatsRes p s j = (g.beats p s j, 0) := fun p s hp hf => by
            unfold Game.beatsRes
            rw [if_neg (by simpa using h), if_neg (by
              intro hh
              rcases hh with hh | hh | hh
              · exact hh hp
              · omega
              · omega), if_neg (by rw [hf]; decide)]
          have rp : g.playRes (g.strat 0) (g.strat 1) j = (g.play (g.strat 0) (g.strat 1) j, 0) := by
            unfold Game.playRes
            rw [if_neg (by simpa using h), if_neg (by omega), if_neg (by rw [f0, f1]; simp)]
          obtain ⟨vp, ⟨wp, rfl, ip⟩, k28⟩ := call28 g hg (g.strat 0) (g.strat 1) j
          rw [rp] at ip k28
          have k28 := fun S => callO_plain (S := S) k28 (plain4 _ _ _ _ g.plain (.sl _) (.sl _) (.int _ _))
          have x5 : 0 ≤ (j : Int) ∧ (j : Int) < (g.owner.length : Int) := ⟨by omega, by omega⟩
          have x6 : 0 ≤ (j : Int) ∧ (j : Int) < ((g.wins 0).length : Int) := ⟨by omega, by rw [wins_len]; omega⟩
          have x7 : 0 ≤ (j : Int) ∧ (j : Int) < ((g.wins 1).length : Int) := ⟨by omega, by rw [wins_len]; omega⟩
          have l0 := wins_len g 0
          have l1 := wins_len g 1
          have lr := ranks_len g
          have wg0 := wins_get g 0 hj
          have wg1 := wins_get g 1 hj
          have w10 : IntKind.i64.wrap (1 - 0) = 1 := by rw [IntKind.wrap_i64]; decide
          have w11 : IntKind.i64.wrap (1 - 1) = 0 := by rw [IntKind.wrap_i64]; decide
          by_cases hr : 0 ≤ g.rank j
          · obtain ⟨b0, b1⟩ := decides0 hgd hj hr
            have u0 : (g.wins 0).getD j false = true := by rw [wg0]; simp [winB, hr]
            have u1 : (g.wins 1).getD j false = false := by rw [wg1]; simp [winB, hr]
            have kb0 := kb 0 (g.strat 0)
            rw [res 0 _ (.inl rfl) f0, b0] at kb0
            have hle : g.rank j ≤ g.owner.length := Rk.last_le hgd.ok (g := g.toG) hj
            obtain ⟨l, p1, p2⟩ := play0 hgd (g.owner.length + 1) j (zbool g.owner.length) [] hj hr (by omega) (fun q hq hs => by
              simp [zbool, List.getD_eq_getElem?_getD, hq] at hs) (by simp [zbool])
            have pe : g.play (g.strat 0) (g.strat 1) j = ((j : Int) :: l, 0) := by
              unfold Game.play
              rw [Int.toNat_natCast, p1]
              rfl
            rw [pe] at ip k28
            obtain rfl := ip.ne (by simp)
            have hlen : ((j : Int) :: l).length ≤ maxLen := by
              have a := playF_len g (g.strat 0) (g.strat 1) (g.owner.length + 1) j (zbool g.owner.length) []
              rw [p1] at a
              simp only [List.nil_append, List.length_nil] at a
              omega
            have lp := loop5_0 g g.ranks rfl ((j : Int) :: l) hlen (fun k h1 hk => by
              obtain ⟨b, hb, e, h0, h2⟩ := downs_at l _ p2 (k - 1) (by simp at hk; omega)
              obtain ⟨m, rfl⟩ : ∃ m, k = m + 1 := ⟨k - 1, by omega⟩
              rw [Nat.add_sub_cancel] at e h2 ⊢
              cases m with
              | zero => exact ⟨j, b, hj, hb, by simp, by simpa using e, h0, by simpa using h2⟩
              | succ m =>
                obtain ⟨a, ha, e2, _, _⟩ := downs_at l _ p2 m (by simp at hk; omega)
                rw [if_neg (by omega), Nat.add_sub_cancel, e2] at h2
                exact ⟨a, b, ha, hb, by simpa using e2, by simpa using e, h0, h2⟩) l.length 1 (by omega) (by simp; omega)
            have z0 : ((j : Int) :: l).getD 0 0 = j := rfl
            have zl : ((((j : Int) :: l).length : Nat) : Int) ≠ 0 := by rw [List.length_cons]; omega
            have zx : 0 ≤ (0 : Int) ∧ (0 : Int) < ((((j : Int) :: l).length : Nat) : Int) := ⟨Int.le_refl 0, by rw [List.length_cons]; omega⟩
            generalize hQ : ((j : Int) :: l) = Q at *
            cases hf : g.fits 1 o with
            | false =>
              have kf1 := kf 1
              rw [hf] at kf1
              ((repeat ((conv => lhs; whnf); simp only [go_sem, ↓reduceIte, Nat.reduceEqDiff, Nat.reduceBEq, Nat.reduceAdd, Nat.reduceMul, Nat.reduceSub, Nat.reduceLT, Nat.reduceLeDiff, reduceCtorEq, Int.reduceToNat, Int.reduceLE, Int.reduceLT, Int.reduceEq, sem5, k13, k14, k18, h, a3, a4, k20, k21, k24, k25, k15, x5, x6, x7, l0, l1, lr, u0, u1, Int.toNat_natCast, kb0, w10, kf1, k28, z0, zl, zx])); try (conv => lhs; whnf); try rfl)
              exact lp
            | true =>
              have kf1 := kf 1
              rw [hf] at kf1
              have kb1 := kb 1 o
              rw [res 1 o (.inr rfl) hf, b1 o hf] at kb1
              ((repeat ((conv => lhs; whnf); simp only [go_sem, ↓reduceIte, Nat.reduceEqDiff, Nat.reduceBEq, Nat.reduceAdd, Nat.reduceMul, Nat.reduceSub, Nat.reduceLT, Nat.reduceLeDiff, reduceCtorEq, Int.reduceToNat, Int.reduceLE, Int.reduceLT, Int.reduceEq, sem5, k13, k14, k18, h, a3, a4, k20, k21, k24, k25, k15, x5, x6, x7, l0, l1, lr, u0, u1, Int.toNat_natCast, kb0, w10, kf1, kb1, k28, z0, zl, zx])); try (conv => lhs; whnf); try rfl)
              exact lp
          · have hr' : g.rank j < 0 := by omega
            obtain ⟨b0, b1⟩ := decides1 hgd hj hr'
            have u0 : (g.wins 0).getD j false = false := by rw [wg0]; simp [winB, hr]
            have u1 : (g.wins 1).getD j false = true := by rw [wg1]; simp [winB, hr]
            have kb0 := kb 1 (g.strat 1)
            rw [res 1 _ (.inr rfl) f1, b0] at kb0
            obtain ⟨l, p1⟩ := play1 hgd (g.owner.length + 1) j (zbool g.owner.length) [] hj hr' (by rw [unseen_zbool]; omega) (by simp [zbool])
            have pe : g.play (g.strat 0) (g.strat 1) j = ((j : Int) :: l, 1) := by
              unfold Game.play
              rw [Int.toNat_natCast, p1]
              rfl
            rw [pe] at ip k28
            obtain rfl := ip.ne (by simp)
            have z0 : ((j : Int) :: l).getD 0 0 = j := rfl
            have zl : ((((j : Int) :: l).length : Nat) : Int) ≠ 0 := by rw [List.length_cons]; omega
            have zx : 0 ≤ (0 : Int) ∧ (0 : Int) < ((((j : Int) :: l).length : Nat) : Int) := ⟨Int.le_refl 0, by rw [List.length_cons]; omega⟩
            generalize hQ : ((j : Int) :: l) = Q at *
            have lp : loopAt 0 fx5 0 4194292 1 [.blk 0, .seq 0 524287] [(15, .sl (intRows g.ranks) false), (17, .int .i64 1), (22, .sl (intRows Q) false), (24, .int .i64 1)] [.arr [g.cells] none false] = some (.bool true, [.arr [g.cells] none false]) := by
              refine loopAt_step ok5.good 1000 ?_
              ((repeat ((conv => lhs; whnf); simp only [go_sem, ↓reduceIte, Nat.reduceEqDiff, Nat.reduceBEq, Nat.reduceAdd, Nat.reduceMul, Nat.reduceSub, Nat.reduceLT, Nat.reduceLeDiff, reduceCtorEq, Int.reduceToNat, Int.reduceLE, Int.reduceLT, Int.reduceEq, sem5])); try (conv => lhs; whnf); try rfl)
              refine exit_run ok5.good 1000 ?_
              ((repeat ((conv => lhs; whnf); simp only [go_sem, ↓reduceIte, Nat.reduceEqDiff, Nat.reduceBEq, Nat.reduceAdd, Nat.reduceMul, Nat.reduceSub, Nat.reduceLT, Nat.reduceLeDiff, reduceCtorEq, Int.reduceToNat, Int.reduceLE, Int.reduceLT, Int.reduceEq, sem5])); try (conv => lhs; whnf); try rfl)
            cases hf : g.fits 0 o with
            | false =>
              have kf1 := kf 0
              rw [hf] at kf1
              ((repeat ((conv => lhs; whnf); simp only [go_sem, ↓reduceIte, Nat.reduceEqDiff, Nat.reduceBEq, Nat.reduceAdd, Nat.reduceMul, Nat.reduceSub, Nat.reduceLT, Nat.reduceLeDiff, reduceCtorEq, Int.reduceToNat, Int.reduceLE, Int.reduceLT, Int.reduceEq, sem5, k13, k14, k18, h, a3, a4, k20, k21, k24, k25, k15, x5, x6, x7, l0, l1, lr, u0, u1, Int.toNat_natCast, kb0, w11, kf1, k28, z0, zl, zx])); try (conv => lhs; whnf); try rfl)
              exact lp
            | true =>
              have kf1 := kf 0
              rw [hf] at kf1
              have kb1 := kb 0 o
              rw [res 0 o (.inl rfl) hf, b1 o hf] at kb1
              ((repeat ((conv => lhs; whnf); simp only [go_sem, ↓reduceIte, Nat.reduceEqDiff, Nat.reduceBEq, Nat.reduceAdd, Nat.reduceMul, Nat.reduceSub, Nat.reduceLT, Nat.reduceLeDiff, reduceCtorEq, Int.reduceToNat, Int.reduceLE, Int.reduceLT, Int.reduceEq, sem5, k13, k14, k18, h, a3, a4, k20, k21, k24, k25, k15, x5, x6, x7, l0, l1, lr, u0, u1, Int.toNat_natCast, kb0, w11, kf1, kb1, k28, z0, zl, zx])); try (conv => lhs; whnf); try rfl)
              exact lp
    · ((repeat ((conv => lhs; whnf); simp only [go_sem, ↓reduceIte, Nat.reduceEqDiff, Nat.reduceBEq, Nat.reduceAdd, Nat.reduceMul, Nat.reduceSub, Nat.reduceLT, Nat.reduceLeDiff, reduceCtorEq, Int.reduceToNat, Int.reduceLE, Int.reduceLT, Int.reduceEq, sem5, k13, k14, k18, h])); try (conv => lhs; whnf); try rfl)
end
theorem law5 (pvs : List PV) (h : Args Try.prog [26, 3, 22] pvs) : callL Try.prog hints 5 pvs = some (.bool true) := by
  have ⟨x1, r1, k1, e1, h1, t1⟩ := h.cons_inv
  have ⟨x2, r2, k2, e2, h2, t2⟩ := t1.cons_inv
  have ⟨x3, r3, k3, e3, h3, t3⟩ := t2.cons_inv
  have e4 := t3.nil_inv
  obtain ⟨g, hg, f1⟩ := h1.game
  have ⟨fr, _, f2⟩ := h2.int und3
  have ⟨o, _, _, f3⟩ := h3.ints
  rw [e1, e2, e3, e4, f1, f2, f3]
  exact law5_ g hg fr o
end Go.Vs
end

/- law 23's ints: lists that are the same. -/

import Derived.Test.YtnddhkcciphhkaaMB9
import Derived.Test.YtnddhkcciphhkaaMB21
import Derived.Test.YtnddhkcciphhkaaMB22
import Derived.Test.YtnddhkcciphhkaaMB23
section
set_option linter.unusedVariables false
set_option linter.unusedSimpArgs false
namespace Go.Vs
open Go Go.Proofs
theorem loopSame (l : List Int) (e1 e2 : Bool) (hl : l.length ≤ maxLen) : ∀ (m i : Nat), i + m = l.length → F59.L0 0 0 (.sl (intRows l) e1) (.sl (intRows l) e2) (.int .i64 i) [] = some (.bool true, []) := by
  intro m
  induction m with
  | zero =>
    intro i hi
    have h1 : ¬ (i : Int) < (l.length : Int) := by omega
    apply F59.L0_step
    simp only [go_sem, ↓reduceIte, Nat.reduceEqDiff, Nat.reduceBEq, Nat.reduceAdd, Nat.reduceMul, Nat.reduceSub, Nat.reduceLT, Nat.reduceLeDiff, reduceCtorEq, Int.reduceToNat, Int.reduceLE, Int.reduceLT, Int.reduceEq, withV_any, h1]
  | succ m hm =>
    intro i hi
    have h1 : (i : Int) < (l.length : Int) := by omega
    have h2 := wrap_succ (i := i) (n := l.length) (by omega) hl
    have h4 : 0 ≤ (i : Int) ∧ (i : Int) < (l.length : Int) := ⟨by omega, h1⟩
    apply F59.L0_step
    simp only [go_sem, ↓reduceIte, Nat.reduceEqDiff, Nat.reduceBEq, Nat.reduceAdd, Nat.reduceMul, Nat.reduceSub, Nat.reduceLT, Nat.reduceLeDiff, reduceCtorEq, Int.reduceToNat, Int.reduceLE, Int.reduceLT, Int.reduceEq, withV_any, h1, h2, h4, hm (i + 1) (by omega)]
theorem callSame {v w : PV} {l : List Int} (hv : IsInts v l) (hw : IsInts w l) (hl : l.length ≤ maxLen) : callL Try.prog hints 59 [v, w] = some (.bool true) := by
  obtain ⟨e1, rfl, _⟩ := hv
  obtain ⟨e2, rfl, _⟩ := hw
  refine F59.call (r := (.bool true, [])) ?_ rfl
  have h := loopSame l e1 e2 hl l.length 0 (by omega)
  simp only [Int.natCast_zero] at h
  simp only [go_sem, ↓reduceIte, Nat.reduceEqDiff, Nat.reduceBEq, Nat.reduceAdd, Nat.reduceMul, Nat.reduceSub, Nat.reduceLT, Nat.reduceLeDiff, reduceCtorEq, Int.reduceToNat, Int.reduceLE, Int.reduceLT, Int.reduceEq, withV_any, h, decide_true, Bool.not_true]
theorem call19 {v w : PV} {l : List Int} (hv : IsInts v l) (hw : IsInts w l) (hl : l.length ≤ maxLen) : callL Try.prog hints 19 [v, w] = some (.bool true) := by
  have c := fun S => callO_plain (S := S) (callSame hv hw hl) (by
    intro a ha
    rcases List.mem_cons.1 ha with rfl | ha
    · exact hv.plain
    · rw [List.mem_singleton.1 ha]; exact hw.plain)
  refine F19.call (r := (.bool true, [])) ?_ rfl
  simp only [go_sem, ↓reduceIte, Nat.reduceEqDiff, Nat.reduceBEq, Nat.reduceAdd, Nat.reduceMul, Nat.reduceSub, Nat.reduceLT, Nat.reduceLeDiff, reduceCtorEq, Int.reduceToNat, Int.reduceLE, Int.reduceLT, Int.reduceEq, withV_any, c]
end Go.Vs
end
/- law 23's awake gives true. -/
section
set_option linter.unusedVariables false
set_option linter.unusedSimpArgs false
namespace Go.Vs
open Go Go.Proofs
theorem call13 : callL Try.prog hints 13 [] = some (.bool true) := callL_run (n := 60) (isTrue_eq (by kernel_rfl))
end Go.Vs
end
/- Printed by a program of mine (stage1.py): the functions 3, piece by piece. -/
section
set_option linter.unusedVariables false
set_option linter.unusedSimpArgs false
namespace Go.Vs
open Go Go.Proofs
noncomputable section

/-! ### isochronelaw23.GameSolves -/
namespace F3
section
variable (b : Nat) (K : KT) (x0 x1 x2 x4 x5 x6 x7 x8 x9 x10 x12 x15 x41 x62 x81 : PV) (e : Env) (S : Store)
end
end F3
end
end Go.Vs
end
/- GameSolves: the law returns true. -/
section
set_option linter.unusedVariables false
set_option linter.unusedSimpArgs false
namespace Go.Vs
open Go Go.Proofs
end Go.Vs
end
/- GameBeats: the law returns true. -/
section
set_option linter.unusedVariables false
set_option linter.unusedSimpArgs false
set_option maxRecDepth 100000
namespace Go.Vs
open Go Go.Proofs
def Game.play (g : Game) (z o : List Int) (fr : Int) : List Int × Int := g.playF z o (g.owner.length + 1) fr.toNat (zbool g.owner.length) []
/-- What Play returns. -/
def Game.playRes (g : Game) (z o : List Int) (fr : Int) : (List Int × Int) × Int :=
  if g.check ≠ 0 then (([], 0), g.check)
  else if fr < 0 ∨ (g.owner.length : Int) ≤ fr then (([], 0), 1)
  else if g.fits 0 z = false ∨ g.fits 1 o = false then (([], 0), 3)
  else (g.play z o fr, 0)
def IsPlay (g : Game) (z o : List Int) (fr : Int) (v : PV) : Prop := ∃ w, v = .tup [w, .int .i64 (g.playRes z o fr).1.2, .int .i64 (g.playRes z o fr).2] ∧ IsInts w (g.playRes z o fr).1.1
theorem playF_len (g : Game) (z o : List Int) : ∀ (n j : Nat) (seen : List Bool) (P : List Int), (g.playF z o n j seen P).1.length ≤ P.length + n
  | 0, j, seen, P => by simp [Game.playF]
  | n + 1, j, seen, P => by
    rw [Game.playF]
    have e : (P ++ [(j : Int)]).length = P.length + 1 := by simp
    generalize (if g.owner.getD j 0 = 1 then o.getD j 0 else z.getD j 0) = nx
    by_cases c1 : g.goal.getD j false = true
    · rw [if_pos c1]
      show (P ++ [(j : Int)]).length ≤ _
      omega
    · rw [if_neg c1]
      by_cases c2 : seen.getD j false = true
      · rw [if_pos c2]
        show (P ++ [(j : Int)]).length ≤ _
        omega
      · rw [if_neg c2]
        by_cases c3 : nx < 0
        · rw [if_pos c3]
          show (P ++ [(j : Int)]).length ≤ _
          omega
        · rw [if_neg c3]
          have := playF_len g z o n nx.toNat (seen.set j true) (P ++ [(j : Int)])
          omega
theorem unseen_zbool (n : Nat) : unseen (zbool n) = n := by simp [unseen, zbool, List.countP_replicate]
section
attribute [local irreducible] Vs.callL Vs.callRL tyi callO callM callMV appendE storeE evLoad indexAddrO sliceO evFieldAddr evField buildO buildSliceO makeSliceO allocO boxed lenO copyE convertO indexO Vs.gc freezeAll
theorem call28 (g : Game) (hg : g.ok) (z o : List Int) (fr : Int) : ∃ v, IsPlay g z o fr v ∧ callL Try.prog hints 28 [.agg g.cells, .sl (intRows z) false, .sl (intRows o) false, .int .i64 fr] = some v := by
  have c1 := fun S => callG S (call17 g hg)
  unfold IsPlay Game.playRes
  by_cases h : g.check = 0
  · have hgd := good_of h
    have hN := hgd.n
    have c2 := fun (p : Int) (l : List Int) S => callO3 S (call60 g hg hgd p l false)
    rw [if_neg (by simpa using h)]
    by_cases hb : fr < 0 ∨ (g.owner.length : Int) ≤ fr
    · rw [if_pos hb]
      refine ⟨_, ⟨.sl [] true, rfl, ⟨true, rfl, fun _ => rfl⟩⟩, FX.callL (r := (.tup [.sl [] true, .int .i64 0, .int .i64 1], [.arr [g.cells] none false])) ok28 1000 rfl rfl ?_ rfl⟩
      by_cases a3 : fr < 0
      · ((repeat ((conv => lhs; whnf); simp only [go_sem, ↓reduceIte, Nat.reduceEqDiff, Nat.reduceBEq, Nat.reduceAdd, Nat.reduceMul, Nat.reduceSub, Nat.reduceLT, Nat.reduceLeDiff, reduceCtorEq, Int.reduceToNat, Int.reduceLE, Int.reduceLT, Int.reduceEq, sem28, c1, h, a3])); try (conv => lhs; whnf); try rfl)
      · have a4 : (g.owner.length : Int) ≤ fr := by
          rcases hb with hb | hb
          · exact absurd hb a3
          · exact hb
        ((repeat ((conv => lhs; whnf); simp only [go_sem, ↓reduceIte, Nat.reduceEqDiff, Nat.reduceBEq, Nat.reduceAdd, Nat.reduceMul, Nat.reduceSub, Nat.reduceLT, Nat.reduceLeDiff, reduceCtorEq, Int.reduceToNat, Int.reduceLE, Int.reduceLT, Int.reduceEq, sem28, c1, h, a3, a4])); try (conv => lhs; whnf); try rfl)
    · rw [if_neg hb]
      have a3 : ¬ fr < 0 := fun x => hb (.inl x)
      have a4 : ¬ (g.owner.length : Int) ≤ fr := fun x => hb (.inr x)
      cases hz : g.fits 0 z with
      | false =>
        rw [if_pos (.inl rfl)]
        refine ⟨_, ⟨.sl [] true, rfl, ⟨true, rfl, fun _ => rfl⟩⟩, FX.callL (r := (.tup [.sl [] true, .int .i64 0, .int .i64 3], [.arr [g.cells] none false])) ok28 1000 rfl rfl ?_ rfl⟩
        ((repeat ((conv => lhs; whnf); simp only [go_sem, ↓reduceIte, Nat.reduceEqDiff, Nat.reduceBEq, Nat.reduceAdd, Nat.reduceMul, Nat.reduceSub, Nat.reduceLT, Nat.reduceLeDiff, reduceCtorEq, Int.reduceToNat, Int.reduceLE, Int.reduceLT, Int.reduceEq, sem28, c1, h, a3, a4, c2, hz])); try (conv => lhs; whnf); try rfl)
      | true =>
        cases ho : g.fits 1 o with
        | false =>
          rw [if_pos (.inr rfl)]
          refine ⟨_, ⟨.sl [] true, rfl, ⟨true, rfl, fun _ => rfl⟩⟩, FX.callL (r := (.tup [.sl [] true, .int .i64 0, .int .i64 3], [.arr [g.cells] none false])) ok28 1000 rfl rfl ?_ rfl⟩
          ((repeat ((conv => lhs; whnf); simp only [go_sem, ↓reduceIte, Nat.reduceEqDiff, Nat.reduceBEq, Nat.reduceAdd, Nat.reduceMul, Nat.reduceSub, Nat.reduceLT, Nat.reduceLeDiff, reduceCtorEq, Int.reduceToNat, Int.reduceLE, Int.reduceLT, Int.reduceEq, sem28, c1, h, a3, a4, c2, hz, ho])); try (conv => lhs; whnf); try rfl)
        | true =>
          rw [if_neg (by simp)]
          have hzl : (zbool g.owner.length).length = g.owner.length := by simp [zbool]
          obtain ⟨S', b1, gg, b2⟩ := loop28_0 g hgd z o hz ho (g.owner.length + 1) fr.toNat (zbool g.owner.length) [] none (by omega) hzl (.inl rfl) (by rw [unseen_zbool]; omega) (by simp; omega)
          have m2 := fun id => makeSlice24 id g.owner.length (by omega)
          have e1 : (fr.toNat : Int) = fr := by omega
          rw [e1] at b1
          have b1' := b1
          unfold playS at b1'
          rw [intRows_nil] at b1'
          refine ⟨_, ⟨.sl (intRows (g.play z o fr).1) false, rfl, ⟨false, rfl, fun h => by cases h⟩⟩, FX.callL (r := (.tup [.msl 2 0 (g.play z o fr).1.length false, .int .i64 (g.play z o fr).2, .int .i64 0], S')) ok28 1000 rfl rfl ?_ ?_⟩
          · ((repeat ((conv => lhs; whnf); simp only [go_sem, ↓reduceIte, Nat.reduceEqDiff, Nat.reduceBEq, Nat.reduceAdd, Nat.reduceMul, Nat.reduceSub, Nat.reduceLT, Nat.reduceLeDiff, reduceCtorEq, Int.reduceToNat, Int.reduceLE, Int.reduceLT, Int.reduceEq, sem28, c1, h, a3, a4, c2, hz, ho, m2])); try (conv => lhs; whnf); try rfl)
            exact b1'
          · show (mapO (fzPV1 S') [.msl 2 0 (g.play z o fr).1.length false, .int .i64 (g.play z o fr).2, .int .i64 0]).map PV.tup = _
            have e : fzPV1 S' (.msl 2 0 (g.play z o fr).1.length false) = some (.sl (intRows (g.play z o fr).1) false) := (Ints.msl 2 _ false _ _ b2).fz 6
            simp only [mapO, e, Option.bind_some]
            rfl
  · rw [if_pos h]
    refine ⟨_, ⟨.sl [] true, rfl, ⟨true, rfl, fun _ => rfl⟩⟩, FX.callL (r := (.tup [.sl [] true, .int .i64 0, .int .i64 g.check], [.arr [g.cells] none false])) ok28 1000 rfl rfl ?_ rfl⟩
    ((repeat ((conv => lhs; whnf); simp only [go_sem, ↓reduceIte, Nat.reduceEqDiff, Nat.reduceBEq, Nat.reduceAdd, Nat.reduceMul, Nat.reduceSub, Nat.reduceLT, Nat.reduceLeDiff, reduceCtorEq, Int.reduceToNat, Int.reduceLE, Int.reduceLT, Int.reduceEq, sem28, c1, h])); try (conv => lhs; whnf); try rfl)
theorem call29 (g : Game) (hg : g.ok) (z o : List Int) (fr : Int) : ∃ v, IsPlay g z o fr v ∧ callL Try.prog hints 29 [.agg g.cells, .sl (intRows z) false, .sl (intRows o) false, .int .i64 fr] = some v := by
  have c1 := fun S => callG S (call18 g hg)
  unfold IsPlay Game.playRes
  by_cases h : g.check = 0
  · have hgd := good_of h
    have hN := hgd.n
    have c2 := fun (p : Int) (l : List Int) S => callO3 S (call30 g hg hgd p l false)
    rw [if_neg (by simpa using h)]
    by_cases hb : fr < 0 ∨ (g.owner.length : Int) ≤ fr
    · rw [if_pos hb]
      refine ⟨_, ⟨.sl [] true, rfl, ⟨true, rfl, fun _ => rfl⟩⟩, FX.callL (r := (.tup [.sl [] true, .int .i64 0, .int .i64 1], [.arr [g.cells] none false])) ok29 1000 rfl rfl ?_ rfl⟩
      by_cases a3 : fr < 0
      · ((repeat ((conv => lhs; whnf); simp only [go_sem, ↓reduceIte, Nat.reduceEqDiff, Nat.reduceBEq, Nat.reduceAdd, Nat.reduceMul, Nat.reduceSub, Nat.reduceLT, Nat.reduceLeDiff, reduceCtorEq, Int.reduceToNat, Int.reduceLE, Int.reduceLT, Int.reduceEq, sem29, c1, h, a3])); try (conv => lhs; whnf); try rfl)
      · have a4 : (g.owner.length : Int) ≤ fr := by
          rcases hb with hb | hb
          · exact absurd hb a3
          · exact hb
        ((repeat ((conv => lhs; whnf); simp only [go_sem, ↓reduceIte, Nat.reduceEqDiff, Nat.reduceBEq, Nat.reduceAdd, Nat.reduceMul, Nat.reduceSub, Nat.reduceLT, Nat.reduceLeDiff, reduceCtorEq, Int.reduceToNat, Int.reduceLE, Int.reduceLT, Int.reduceEq, sem29, c1, h, a3, a4])); try (conv => lhs; whnf); try rfl)
    · rw [if_neg hb]
      have a3 : ¬ fr < 0 := fun x => hb (.inl x)
      have a4 : ¬ (g.owner.length : Int) ≤ fr := fun x => hb (.inr x)
      cases hz : g.fits 0 z with
      | false =>
        rw [if_pos (.inl rfl)]
        refine ⟨_, ⟨.sl [] true, rfl, ⟨true, rfl, fun _ => rfl⟩⟩, FX.callL (r := (.tup [.sl [] true, .int .i64 0, .int .i64 3], [.arr [g.cells] none false])) ok29 1000 rfl rfl ?_ rfl⟩
        ((repeat ((conv => lhs; whnf); simp only [go_sem, ↓reduceIte, Nat.reduceEqDiff, Nat.reduceBEq, Nat.reduceAdd, Nat.reduceMul, Nat.reduceSub, Nat.reduceLT, Nat.reduceLeDiff, reduceCtorEq, Int.reduceToNat, Int.reduceLE, Int.reduceLT, Int.reduceEq, sem29, c1, h, a3, a4, c2, hz])); try (conv => lhs; whnf); try rfl)
      | true =>
        cases ho : g.fits 1 o with
        | false =>
          rw [if_pos (.inr rfl)]
          refine ⟨_, ⟨.sl [] true, rfl, ⟨true, rfl, fun _ => rfl⟩⟩, FX.callL (r := (.tup [.sl [] true, .int .i64 0, .int .i64 3], [.arr [g.cells] none false])) ok29 1000 rfl rfl ?_ rfl⟩
          ((repeat ((conv => lhs; whnf); simp only [go_sem, ↓reduceIte, Nat.reduceEqDiff, Nat.reduceBEq, Nat.reduceAdd, Nat.reduceMul, Nat.reduceSub, Nat.reduceLT, Nat.reduceLeDiff, reduceCtorEq, Int.reduceToNat, Int.reduceLE, Int.reduceLT, Int.reduceEq, sem29, c1, h, a3, a4, c2, hz, ho])); try (conv => lhs; whnf); try rfl)
        | true =>
          rw [if_neg (by simp)]
          have hzl : (zbool g.owner.length).length = g.owner.length := by simp [zbool]
          obtain ⟨S', b1, gg, b2⟩ := loop29_0 g hgd z o hz ho (g.owner.length + 1) fr.toNat (zbool g.owner.length) [] none (by omega) hzl (.inl rfl) (by rw [unseen_zbool]; omega) (by simp; omega)
          have m2 := fun id => makeSlice24 id g.owner.length (by omega)
          have e1 : (fr.toNat : Int) = fr := by omega
          rw [e1] at b1
          have b1' := b1
          unfold playS at b1'
          rw [intRows_nil] at b1'
          refine ⟨_, ⟨.sl (intRows (g.play z o fr).1) false, rfl, ⟨false, rfl, fun h => by cases h⟩⟩, FX.callL (r := (.tup [.msl 2 0 (g.play z o fr).1.length false, .int .i64 (g.play z o fr).2, .int .i64 0], S')) ok29 1000 rfl rfl ?_ ?_⟩
          · ((repeat ((conv => lhs; whnf); simp only [go_sem, ↓reduceIte, Nat.reduceEqDiff, Nat.reduceBEq, Nat.reduceAdd, Nat.reduceMul, Nat.reduceSub, Nat.reduceLT, Nat.reduceLeDiff, reduceCtorEq, Int.reduceToNat, Int.reduceLE, Int.reduceLT, Int.reduceEq, sem29, c1, h, a3, a4, c2, hz, ho, m2])); try (conv => lhs; whnf); try rfl)
            exact b1'
          · show (mapO (fzPV1 S') [.msl 2 0 (g.play z o fr).1.length false, .int .i64 (g.play z o fr).2, .int .i64 0]).map PV.tup = _
            have e : fzPV1 S' (.msl 2 0 (g.play z o fr).1.length false) = some (.sl (intRows (g.play z o fr).1) false) := (Ints.msl 2 _ false _ _ b2).fz 6
            simp only [mapO, e, Option.bind_some]
            rfl
  · rw [if_pos h]
    refine ⟨_, ⟨.sl [] true, rfl, ⟨true, rfl, fun _ => rfl⟩⟩, FX.callL (r := (.tup [.sl [] true, .int .i64 0, .int .i64 g.check], [.arr [g.cells] none false])) ok29 1000 rfl rfl ?_ rfl⟩
    ((repeat ((conv => lhs; whnf); simp only [go_sem, ↓reduceIte, Nat.reduceEqDiff, Nat.reduceBEq, Nat.reduceAdd, Nat.reduceMul, Nat.reduceSub, Nat.reduceLT, Nat.reduceLeDiff, reduceCtorEq, Int.reduceToNat, Int.reduceLE, Int.reduceLT, Int.reduceEq, sem29, c1, h])); try (conv => lhs; whnf); try rfl)
noncomputable def fx4 : FX := ⟨Try.f4, hints.of 4, []⟩
theorem ok4 : fx4.ok 4 := ⟨by kernel_rfl, of_decide_eq_true (by kernel_rfl), by kernel_rfl, by kernel_rfl, by kernel_rfl⟩
theorem sem4 (b0 : Nat) (m : Md) (fs : List Fr) (e : Env) (S : Store) : sem b0 fx4 m fs e S = run b0 fx4 1000 m fs e S := (sem_eq _ _ _ _ _ _).trans (run_sem b0 fx4 ok4.good 1000 m fs e S).symm
theorem law4_ (g : Game) (hg : g.ok) (p : Int) (s o : List Int) (hs : s.length ≤ maxLen) (ho : o.length ≤ maxLen) (fr : Int) : callL Try.prog hints 4 [.agg g.cells, .int .i64 p, .sl (intRows s) false, .sl (intRows o) false, .int .i64 fr] = some (.bool true) := by
  have k13 := fun S => callO_plain (S := S) call13 (by simp)
  obtain ⟨bl, k14⟩ := call14 g hg
  have k14 := fun S => callG S k14
  have plain4 : ∀ (a b c d : PV), Plain a → Plain b → Plain c → Plain d → ∀ x ∈ [a, b, c, d], Plain x := fun a b c d ha hb hc hd x hx => by
    simp only [List.mem_cons, List.not_mem_nil, or_false] at hx
    rcases hx with rfl | rfl | rfl | rfl <;> assumption
  have k26 := fun S => callO_plain (S := S) (call26 g hg p s fr) (plain4 _ _ _ _ g.plain (.int _ _) (.sl _) (.int _ _))
  have k27 := fun S => callO_plain (S := S) (call27 g hg p s fr) (plain4 _ _ _ _ g.plain (.int _ _) (.sl _) (.int _ _))
  obtain ⟨v28, ⟨w, rfl, iw⟩, q28⟩ := call28 g hg s o fr
  obtain ⟨v29, ⟨w', rfl, iw'⟩, q29⟩ := call29 g hg s o fr
  have k28 := fun S => callO_plain (S := S) q28 (plain4 _ _ _ _ g.plain (.sl _) (.sl _) (.int _ _))
  have k29 := fun S => callO_plain (S := S) q29 (plain4 _ _ _ _ g.plain (.sl _) (.sl _) (.int _ _))
  have hlen : (g.playRes s o fr).1.1.length ≤ maxLen := by
    have hm4 : (4000 : Nat) ≤ maxLen := by decide
    unfold Game.playRes
    split
    · simp
    · rename_i h
      have hgd := good_of (g := g) (by simpa using h)
      have hN := hgd.n
      split
      · simp
      · split
        · simp
        · have := playF_len g s o (g.owner.length + 1) fr.toNat (zbool g.owner.length) []
          show (g.playF s o (g.owner.length + 1) fr.toNat (zbool g.owner.length) []).1.length ≤ maxLen
          simp only [List.length_nil] at this
          omega
  have k19 := fun S => callO_plain (S := S) (call19 iw iw' hlen) (fun x hx => by
    rcases List.mem_cons.1 hx with rfl | hx
    · exact iw.plain
    · rw [List.mem_singleton.1 hx]; exact iw'.plain)
  have x0 : ∀ (a : PV) (l : List PV), extractO (.tup (a :: l)) 0 = some a := fun _ _ => rfl
  refine FX.callL (r := (.bool true, [.arr [g.cells] none false])) ok4 1000 rfl rfl ?_ rfl
  cases bl with
  | false => ((repeat ((conv => lhs; whnf); simp only [go_sem, ↓reduceIte, Nat.reduceEqDiff, Nat.reduceBEq, Nat.reduceAdd, Nat.reduceMul, Nat.reduceSub, Nat.reduceLT, Nat.reduceLeDiff, reduceCtorEq, Int.reduceToNat, Int.reduceLE, Int.reduceLT, Int.reduceEq, sem4, k13, k14])); try (conv => lhs; whnf); try rfl)
  | true =>
    by_cases a1 : (3000 : Int) < (s.length : Int)
    · ((repeat ((conv => lhs; whnf); simp only [go_sem, ↓reduceIte, Nat.reduceEqDiff, Nat.reduceBEq, Nat.reduceAdd, Nat.reduceMul, Nat.reduceSub, Nat.reduceLT, Nat.reduceLeDiff, reduceCtorEq, Int.reduceToNat, Int.reduceLE, Int.reduceLT, Int.reduceEq, sem4, k13, k14, a1])); try (conv => lhs; whnf); try rfl)
    · by_cases a2 : (3000 : Int) < (o.length : Int)
      · ((repeat ((conv => lhs; whnf); simp only [go_sem, ↓reduceIte, Nat.reduceEqDiff, Nat.reduceBEq, Nat.reduceAdd, Nat.reduceMul, Nat.reduceSub, Nat.reduceLT, Nat.reduceLeDiff, reduceCtorEq, Int.reduceToNat, Int.reduceLE, Int.reduceLT, Int.reduceEq, sem4, k13, k14, a1, a2])); try (conv => lhs; whnf); try rfl)
      · cases hb : (g.beatsRes p s fr).1 <;> rw [hb] at k26 k27 <;> ((repeat ((conv => lhs; whnf); simp only [go_sem, ↓reduceIte, Nat.reduceEqDiff, Nat.reduceBEq, Nat.reduceAdd, Nat.reduceMul, Nat.reduceSub, Nat.reduceLT, Nat.reduceLeDiff, reduceCtorEq, Int.reduceToNat, Int.reduceLE, Int.reduceLT, Int.reduceEq, sem4, k13, k14, a1, a2, k26, k27, k28, k29, k19])); try (conv => lhs; whnf); try rfl)
end
theorem law4 (pvs : List PV) (h : Args Try.prog [26, 3, 22, 22, 3] pvs) : callL Try.prog hints 4 pvs = some (.bool true) := by
  have ⟨x1, r1, k1, e1, h1, t1⟩ := h.cons_inv
  have ⟨x2, r2, k2, e2, h2, t2⟩ := t1.cons_inv
  have ⟨x3, r3, k3, e3, h3, t3⟩ := t2.cons_inv
  have ⟨x4, r4, k4, e4, h4, t4⟩ := t3.cons_inv
  have ⟨x5, r5, k5, e5, h5, t5⟩ := t4.cons_inv
  have e6 := t5.nil_inv
  obtain ⟨g, hg, f1⟩ := h1.game
  have ⟨p, _, f2⟩ := h2.int und3
  have ⟨s, hs, _, f3⟩ := h3.ints
  have ⟨o, ho, _, f4⟩ := h4.ints
  have ⟨fr, _, f5⟩ := h5.int und3
  rw [e1, e2, e3, e4, e5, e6, f1, f2, f3, f4, f5]
  exact law4_ g hg p s o hs ho fr
end Go.Vs
end

/- game.ranks: the first loop. -/

import Derived.Test.YtnddhkcciphhkaaMX17
section
set_option linter.unusedVariables false
set_option linter.unusedSimpArgs false
namespace Go.Vs
open Go Go.Proofs
def fill (g : Game) : Nat → Nat → List Int → List Int → List (List Int) → List Int × List Int × List (List Int)
  | 0, _, R, O, F => (R, O, F)
  | m + 1, i, R, O, F => fill g m (i + 1) (R.set i (-1)) (O.set i ((g.moves.getD i []).length : Int)) (pushes i (g.moves.getD i []) F)
@[go_sem] theorem Game.part23 (g : Game) : part (tyi Try.prog 23) (g.cells.drop 1) = some (.sl (pathRows g.moves) false) := by rw [Game.drop1, Vs.part23]
theorem loop57_0 (g : Game) (hg : g.good) : ∀ (m i : Nat), i + m = g.owner.length → ∀ (S : Store) (R O : List Int) (F : List (List Int)) (c : Nat), RS g S (.sl [] true) R O F [] → Short c F → c + m * 4000 ≤ 2000000 →
    ∃ S', RS g S' (.sl [] true) (fill g m i R O F).1 (fill g m i R O F).2.1 (fill g m i R O F).2.2 [] ∧ ∀ z, F57.L4 0 (S'.length + 2) (.mp 0 0 0) (.mp 3 0 0) (.msl 2 0 g.owner.length true) (.msl 4 0 g.owner.length true) (.mp 5 0 0) (.fn 83 [] [.mp 3 0 0, .mp 5 0 0]) (.msl S'.length 0 0 false) (.msl (S'.length + 1) 0 0 false) (.int .i64 g.owner.length) (.int .i64 (0 : Nat)) (S' ++ [.arr [] (some none) false, .arr [] (some none) false]) = some z →
      F57.L0 0 (6 + g.owner.length) (.mp 0 0 0) (.int .i64 g.owner.length) (.mp 3 0 0) (.msl 2 0 g.owner.length true) (.msl 4 0 g.owner.length true) (.mp 5 0 0) (.int .i64 g.owner.length) (.int .i64 i) S = some z := by
  have hN := hg.n
  have hm4 : (4000 : Nat) ≤ maxLen := by decide
  intro m
  induction m with
  | zero =>
    intro i hi S R O F c h hF hc
    have c1 : ¬ (i : Int) < (g.owner.length : Int) := by omega
    let eA : Env := F57.ee12 (.mp 0 0 0) (.int .i64 g.owner.length) (.mp 3 0 0) (.msl 2 0 g.owner.length true) (.msl 4 0 g.owner.length true) (.mp 5 0 0) .undef .undef .undef
    have hA := h.gc (n := 6 + g.owner.length) eA (Nat.le_refl _) h.len
    refine ⟨_, hA, fun z hz => F57.L0_step ?_⟩
    have s1 : ∀ K : KT, execL (F57.C 0) 0 F57.c212 K (F57.ee11 (.mp 0 0 0) (.int .i64 g.owner.length) (.mp 3 0 0) (.msl 2 0 g.owner.length true) (.msl 4 0 g.owner.length true) (.mp 5 0 0) (.int .i64 g.owner.length) (.int .i64 i)) S = K .normal (F57.ee12 (.mp 0 0 0) (.int .i64 g.owner.length) (.mp 3 0 0) (.msl 2 0 g.owner.length true) (.msl 4 0 g.owner.length true) (.mp 5 0 0) (.int .i64 g.owner.length) (.int .i64 i) (.bool false)) S := fun K => by
      simp only [go_sem, ↓reduceIte, Nat.reduceEqDiff, Nat.reduceBEq, Nat.reduceAdd, Nat.reduceMul, Nat.reduceSub, Nat.reduceLT, Nat.reduceLeDiff, reduceCtorEq, Int.reduceToNat, Int.reduceLE, Int.reduceLT, Int.reduceEq, c1]
    simp only [F57.B0_eq, s1, F57.k265_n, condC_false, F57.k220_exit, F57.k211_x1, F57.k208_exit, if_true, F57.k201_n, F57.g202, withV_any, F57.k199_n, F57.g200, F57.k150_n, F57.g198, F57.k153_n, withO_nil, List.append_assoc, List.cons_append, List.nil_append, List.length_append, List.length_cons, List.length_nil, Nat.zero_add, Nat.add_assoc]
    exact hz
  | succ m hm =>
    intro i hi S R O F c h hF hc
    have c1 : (i : Int) < (g.owner.length : Int) := by omega
    have hlR := h.lR
    have hlO := h.lO
    have hR1 := h.setR i (-1)
    have hO1 := hR1.setO i ((g.moves.getD i []).length : Int)
    have h4 : 0 ≤ (i : Int) ∧ (i : Int) < (g.moves.length : Int) := ⟨by omega, by rw [hg.m]; exact c1⟩
    have r0 := rowsAt_of h.p0
    have r1 := rowsAt_of h.p1
    have r3 := rowsAt_of h.p3
    have x1 := idx22m (ex := true) i r1 (by rw [intRows_length, hlR]) (intRows_ok R) (by omega : i < g.owner.length)
    have st1 := storeInt (j := i) (-1) h.p1 (by omega)
    have r0' := rowsAt_of hR1.p0
    have r2' := rowsAt_of hR1.p2
    have x2 := idx22m (ex := true) i r2' (by rw [intRows_length, hlO]) (intRows_ok O) (by omega : i < g.owner.length)
    have st2 := storeInt (j := i) ((g.moves.getD i []).length : Int) hR1.p2 (by omega)
    have r0'' := rowsAt_of hO1.p0
    generalize eS1 : S.set 1 (.arr (intRows (R.set i (-1))) (some (some 1)) false) = S1 at *
    generalize eS2 : S1.set 2 (.arr (intRows (O.set i ((g.moves.getD i []).length : Int))) (some (some 1)) false) = S2 at *
    rw [hlR] at r3
    have hS2 := hO1.len
    obtain ⟨S3, b1, b2, b3⟩ := loop57_2 g hg i (by omega) S2.length _ _ (g.moves.getD i []).length 0 (by omega) S2 F c hO1 hS2 (Nat.le_refl _) hF (by have := hg.s i; omega)
    rw [List.drop_zero] at b1
    obtain ⟨S', a1, a2⟩ := hm (i + 1) (by omega) S3 _ _ _ (c + (g.moves.getD i []).length) b1 (pushes_short i _ hF) (by have := hg.s i; omega)
    refine ⟨S', a1, fun z hz => F57.L0_step ?_⟩
    have s1 : ∀ K : KT, execL (F57.C 0) 0 F57.c212 K (F57.ee11 (.mp 0 0 0) (.int .i64 g.owner.length) (.mp 3 0 0) (.msl 2 0 g.owner.length true) (.msl 4 0 g.owner.length true) (.mp 5 0 0) (.int .i64 g.owner.length) (.int .i64 i)) S = K .normal (F57.ee12 (.mp 0 0 0) (.int .i64 g.owner.length) (.mp 3 0 0) (.msl 2 0 g.owner.length true) (.msl 4 0 g.owner.length true) (.mp 5 0 0) (.int .i64 g.owner.length) (.int .i64 i) (.bool true)) S := fun K => by
      simp only [go_sem, ↓reduceIte, Nat.reduceEqDiff, Nat.reduceBEq, Nat.reduceAdd, Nat.reduceMul, Nat.reduceSub, Nat.reduceLT, Nat.reduceLeDiff, reduceCtorEq, Int.reduceToNat, Int.reduceLE, Int.reduceLT, Int.reduceEq, c1]
    have s2 : ∀ K : KT, execL (F57.C 0) 1 F57.c223 K (F57.ee12 (.mp 0 0 0) (.int .i64 g.owner.length) (.mp 3 0 0) (.msl 2 0 g.owner.length true) (.msl 4 0 g.owner.length true) (.mp 5 0 0) (.int .i64 g.owner.length) (.int .i64 i) (.bool true)) S = K .normal (F57.ee6 (.mp 0 0 0) (.int .i64 g.owner.length) (.mp 3 0 0) (.msl 2 0 g.owner.length true) (.msl 4 0 g.owner.length true) (.mp 5 0 0) (.int .i64 i) (.int .i64 g.owner.length) (.int .i64 i)) S := fun K => by
      simp only [go_sem, ↓reduceIte, Nat.reduceEqDiff, Nat.reduceBEq, Nat.reduceAdd, Nat.reduceMul, Nat.reduceSub, Nat.reduceLT, Nat.reduceLeDiff, reduceCtorEq, Int.reduceToNat, Int.reduceLE, Int.reduceLT, Int.reduceEq]
    have s3 : ∀ K : KT, execL (F57.C 0) 1 F57.c225 K (F57.ee6 (.mp 0 0 0) (.int .i64 g.owner.length) (.mp 3 0 0) (.msl 2 0 g.owner.length true) (.msl 4 0 g.owner.length true) (.mp 5 0 0) (.int .i64 i) (.int .i64 g.owner.length) (.int .i64 i)) S = K .normal (F57.ee6 (.mp 0 0 0) (.int .i64 g.owner.length) (.mp 3 0 0) (.msl 2 0 g.owner.length true) (.msl 4 0 g.owner.length true) (.mp 5 0 0) (.int .i64 i) (.int .i64 g.owner.length) (.int .i64 i)) S1 := fun K => by
      simp only [storeE_eq, known3, if_true, size3] at st1
      simp only [go_sem, ↓reduceIte, Nat.reduceEqDiff, Nat.reduceBEq, Nat.reduceAdd, Nat.reduceMul, Nat.reduceSub, Nat.reduceLT, Nat.reduceLeDiff, reduceCtorEq, Int.reduceToNat, Int.reduceLE, Int.reduceLT, Int.reduceEq, withV_any, r3, x1, st1]
    have s4 : ∀ K : KT, execL (F57.C 0) 1 F57.c227 K (F57.ee6 (.mp 0 0 0) (.int .i64 g.owner.length) (.mp 3 0 0) (.msl 2 0 g.owner.length true) (.msl 4 0 g.owner.length true) (.mp 5 0 0) (.int .i64 i) (.int .i64 g.owner.length) (.int .i64 i)) S1 = K .normal (F57.ee6 (.mp 0 0 0) (.int .i64 g.owner.length) (.mp 3 0 0) (.msl 2 0 g.owner.length true) (.msl 4 0 g.owner.length true) (.mp 5 0 0) (.int .i64 i) (.int .i64 g.owner.length) (.int .i64 i)) S2 := fun K => by
      simp only [storeE_eq, known3, if_true, size3] at st2
      simp only [go_sem, ↓reduceIte, Nat.reduceEqDiff, Nat.reduceBEq, Nat.reduceAdd, Nat.reduceMul, Nat.reduceSub, Nat.reduceLT, Nat.reduceLeDiff, reduceCtorEq, Int.reduceToNat, Int.reduceLE, Int.reduceLT, Int.reduceEq, withV_any, r0', h4, x2, st2]
    have s5 : ∀ K : KT, execL (F57.C 0) 1 F57.c229 K (F57.ee6 (.mp 0 0 0) (.int .i64 g.owner.length) (.mp 3 0 0) (.msl 2 0 g.owner.length true) (.msl 4 0 g.owner.length true) (.mp 5 0 0) (.int .i64 i) (.int .i64 g.owner.length) (.int .i64 i)) S2 = K .normal (F57.ee7 (.mp 0 0 0) (.int .i64 g.owner.length) (.mp 3 0 0) (.msl 2 0 g.owner.length true) (.msl 4 0 g.owner.length true) (.mp 5 0 0) (.int .i64 i) (.int .i64 g.owner.length) (.int .i64 i) (.sl (intRows (g.moves.getD i [])) false) (.int .i64 (g.moves.getD i []).length) (.int .i64 (0 : Nat))) S2 := fun K => by
      simp only [go_sem, ↓reduceIte, Nat.reduceEqDiff, Nat.reduceBEq, Nat.reduceAdd, Nat.reduceMul, Nat.reduceSub, Nat.reduceLT, Nat.reduceLeDiff, reduceCtorEq, Int.reduceToNat, Int.reduceLE, Int.reduceLT, Int.reduceEq, withV_any, r0'', h4, Int.toNat_natCast, Int.natCast_zero]
    simp only [F57.B0_eq, s1, F57.k265_n, condC_true, F57.k220_n, s2, F57.k262_n, s3, F57.k260_n, s4, F57.k258_n, s5, F57.k231_n]
    exact b3 z (a2 z hz)
end Go.Vs
end
/- game.ranks: the loop that parts the goals and the positions without moves. -/
section
set_option linter.unusedVariables false
set_option linter.unusedSimpArgs false
namespace Go.Vs
open Go Go.Proofs
/-- An array of ints that is appended to. -/
def At (S : Store) (id : Nat) (L : List Int) : Prop := ∃ gr, (gr = none ∨ gr = some 1) ∧ S[id]? = some (.arr (intRows L) (some gr) false)
theorem At.lt {S : Store} {id : Nat} {L : List Int} (h : At S id L) : id < S.length := by
  obtain ⟨gr, _, b⟩ := h
  exact (List.getElem?_eq_some_iff.1 b).1
theorem At.gc {n : Nat} {S : Store} {id : Nat} {L : List Int} (h : At S id L) (e : Env) (hi : id < n) (hn : n ≤ S.length) : At (Vs.gc n e S) id L := by
  obtain ⟨gr, a, b⟩ := h
  obtain ⟨g1, g2⟩ := gc_at (e := e) hn
  exact ⟨gr, a, by rw [g2 _ hi]; exact b⟩
theorem At.keep {n : Nat} {X D : List Nat} {S S' : Store} {id : Nat} {L : List Int} (h : At S id L) (k : Keep n X D S S') (hi : id < n) (hx : id ∉ X) : At S' id L := by
  obtain ⟨gr, a, b⟩ := h
  exact ⟨gr, a, k.keeps id hi hx _ _ _ b (by rw [intRows_refs]; intro r hr; cases hr)⟩
theorem At.ints {S : Store} {id : Nat} {L : List Int} {ex : Bool} (h : At S id L) : Ints S (.msl id 0 L.length ex) L := by
  obtain ⟨gr, a, b⟩ := h
  exact .msl id L ex _ _ b
noncomputable def pushed (S : Store) (id : Nat) (L : List Int) (i : Int) : Store := ((S ++ [Obj.arr [[.int .i64 i]] (some (some 1)) false]).map (killObj [id])).set id (.arr (intRows (L ++ [i])) (some (some 1)) false)
theorem pushed_length (S : Store) (id : Nat) (L : List Int) (i : Int) : (pushed S id L i).length = S.length + 1 := by simp [pushed]
theorem At.pushed {S : Store} {id id' : Nat} {L : List Int} (h : At S id L) (hne : id ≠ id') (L' : List Int) (i : Int) : At (pushed S id' L' i) id L := by
  have hl := h.lt
  obtain ⟨gr, a, b⟩ := h
  exact ⟨gr, a, here_at (by rw [List.getElem?_append_left hl]; exact b) hne (by rw [intRows_refs]; intro r hr; cases hr)⟩
theorem At.push {S : Store} {id : Nat} {L : List Int} (h : At S id L) (i : Int) (hn : L.length ≤ 2000000) :
    appendE Try.prog 0 22 22 (S ++ [.arr [[.int .i64 i]] (some (some 1)) false]) (.msl id 0 L.length false) (.msl S.length 0 1 true) = some { v := .msl id 0 (L ++ [i]).length false, S := Vs.pushed S id L i, kill := [id] } ∧ At (Vs.pushed S id L i) id (L ++ [i]) := by
  have hl := h.lt
  obtain ⟨gr, a, b⟩ := h
  have b' : (S ++ [Obj.arr [[.int .i64 i]] (some (some 1)) false])[id]? = some (.arr (intRows L) (some gr) false) := by rw [List.getElem?_append_left hl]; exact b
  refine ⟨appendHere b' a (y := .msl S.length 0 1 true) (l := [i]) (.msl S.length [i] true (some (some 1)) false (by simp [intRows])) (by simp only [List.length_cons, List.length_nil]; omega), some 1, .inr rfl, ?_⟩
  rw [Vs.pushed, List.getElem?_set_self (by simp; omega)]
theorem RS.pushed {g : Game} {S : Store} {v : PV} {R O Q : List Int} {F : List (List Int)} (h : RS g S v R O F Q) {id : Nat} (h1 : 6 + g.owner.length ≤ id) (h2 : id ∉ v.refs) (L : List Int) (i : Int) : RS g (Vs.pushed S id L i) v R O F Q := (h.ext _).here h1 h2 _
@[go_sem] theorem refs83 (a b : Nat) : PV.refs (.fn 83 [] [.mp a 0 0, .mp b 0 0]) = [a, b] := nr rfl
/-- Goals, and positions of player 1 without moves. -/
def parts (g : Game) (O : List Int) : Nat → Nat → List Int × List Int → List Int × List Int
  | 0, _, s => s
  | m + 1, i, s => parts g O m (i + 1) (if g.goal.getD i false = true then (s.1 ++ [(i : Int)], s.2) else if g.owner.getD i 0 = 1 ∧ O.getD i 0 = 0 then (s.1, s.2 ++ [(i : Int)]) else s)
@[go_sem] theorem Game.part24 (g : Game) : part (tyi Try.prog 24) (g.cells.drop 2) = some (.sl (boolRows g.goal) false) := by rw [Game.drop2, Vs.part24]
theorem loop57_4 (g : Game) (hg : g.good) (a : Nat) (ha : 6 + g.owner.length ≤ a) (R O : List Int) (F : List (List Int)) : ∀ (m i : Nat), i + m = g.owner.length → ∀ (S : Store) (Z One : List Int), RS g S (.sl [] true) R O F [] → At S a Z → At S (a + 1) One → Z.length ≤ i → One.length ≤ i →
    ∃ S', RS g S' (.sl [] true) R O F [] ∧ At S' a (parts g O m i (Z, One)).1 ∧ At S' (a + 1) (parts g O m i (Z, One)).2 ∧ ∀ z, F57.k148 0 .normal (F57.ee17 (.mp 0 0 0) (.mp 3 0 0) (.msl 2 0 g.owner.length true) (.msl 4 0 g.owner.length true) (.mp 5 0 0) (.fn 83 [] [.mp 3 0 0, .mp 5 0 0]) (.msl a 0 (parts g O m i (Z, One)).1.length false) (.msl (a + 1) 0 (parts g O m i (Z, One)).2.length false) .undef .undef .undef) S' = some z →
      F57.L4 0 (a + 2) (.mp 0 0 0) (.mp 3 0 0) (.msl 2 0 g.owner.length true) (.msl 4 0 g.owner.length true) (.mp 5 0 0) (.fn 83 [] [.mp 3 0 0, .mp 5 0 0]) (.msl a 0 Z.length false) (.msl (a + 1) 0 One.length false) (.int .i64 g.owner.length) (.int .i64 i) S = some z := by
  have hN := hg.n
  have hm4 : (4000 : Nat) ≤ maxLen := by decide
  intro m
  induction m with
  | zero =>
    intro i hi S Z One h hz1 ho1 hzl hol
    have c1 : ¬ (i : Int) < (g.owner.length : Int) := by omega
    have hl1 := ho1.lt
    let eA : Env := F57.ee17 (.mp 0 0 0) (.mp 3 0 0) (.msl 2 0 g.owner.length true) (.msl 4 0 g.owner.length true) (.mp 5 0 0) (.fn 83 [] [.mp 3 0 0, .mp 5 0 0]) (.msl a 0 Z.length false) (.msl (a + 1) 0 One.length false) .undef .undef .undef
    have hA := h.gc (n := a + 2) eA (by omega) (by omega)
    refine ⟨_, hA, hz1.gc eA (by omega) (by omega), ho1.gc eA (by omega) (by omega), fun z hz => F57.L4_step ?_⟩
    have s1 : ∀ K : KT, execL (F57.C 0) 4 F57.c159 K (F57.ee16 (.mp 0 0 0) (.mp 3 0 0) (.msl 2 0 g.owner.length true) (.msl 4 0 g.owner.length true) (.mp 5 0 0) (.fn 83 [] [.mp 3 0 0, .mp 5 0 0]) (.msl a 0 Z.length false) (.msl (a + 1) 0 One.length false) (.int .i64 g.owner.length) (.int .i64 i)) S = K .normal (F57.ee17 (.mp 0 0 0) (.mp 3 0 0) (.msl 2 0 g.owner.length true) (.msl 4 0 g.owner.length true) (.mp 5 0 0) (.fn 83 [] [.mp 3 0 0, .mp 5 0 0]) (.msl a 0 Z.length false) (.msl (a + 1) 0 One.length false) (.int .i64 g.owner.length) (.int .i64 i) (.bool false)) S := fun K => by
      simp only [go_sem, ↓reduceIte, Nat.reduceEqDiff, Nat.reduceBEq, Nat.reduceAdd, Nat.reduceMul, Nat.reduceSub, Nat.reduceLT, Nat.reduceLeDiff, reduceCtorEq, Int.reduceToNat, Int.reduceLE, Int.reduceLT, Int.reduceEq, c1]
    simp only [F57.B4_eq, s1, F57.k193_n, condC_false, F57.k167_exit, F57.k158_x1, F57.k155_exit, if_true]
    exact hz
  | succ m hm =>
    intro i hi S Z One h hz1 ho1 hzl hol
    have c1 : (i : Int) < (g.owner.length : Int) := by omega
    have hl1 := ho1.lt
    have w1 := wrap_succ (i := i) (n := g.owner.length) (by omega) (by omega)
    have hlO := h.lO
    have h4 : 0 ≤ (i : Int) ∧ (i : Int) < (g.goal.length : Int) := ⟨by omega, by rw [hg.l]; exact c1⟩
    have h5 : 0 ≤ (i : Int) ∧ (i : Int) < (g.owner.length : Int) := ⟨by omega, c1⟩
    have r0 := rowsAt_of h.p0
    have r2 := rowsAt_of h.p2
    have x2 := idx22m (ex := true) i r2 (by rw [intRows_length, hlO]) (intRows_ok O) (by omega : i < g.owner.length)
    have hiO : i < O.length := by omega
    have s1 : ∀ K : KT, execL (F57.C 0) 4 F57.c159 K (F57.ee16 (.mp 0 0 0) (.mp 3 0 0) (.msl 2 0 g.owner.length true) (.msl 4 0 g.owner.length true) (.mp 5 0 0) (.fn 83 [] [.mp 3 0 0, .mp 5 0 0]) (.msl a 0 Z.length false) (.msl (a + 1) 0 One.length false) (.int .i64 g.owner.length) (.int .i64 i)) S = K .normal (F57.ee17 (.mp 0 0 0) (.mp 3 0 0) (.msl 2 0 g.owner.length true) (.msl 4 0 g.owner.length true) (.mp 5 0 0) (.fn 83 [] [.mp 3 0 0, .mp 5 0 0]) (.msl a 0 Z.length false) (.msl (a + 1) 0 One.length false) (.int .i64 g.owner.length) (.int .i64 i) (.bool true)) S := fun K => by
      simp only [go_sem, ↓reduceIte, Nat.reduceEqDiff, Nat.reduceBEq, Nat.reduceAdd, Nat.reduceMul, Nat.reduceSub, Nat.reduceLT, Nat.reduceLeDiff, reduceCtorEq, Int.reduceToNat, Int.reduceLE, Int.reduceLT, Int.reduceEq, c1]
    have s2 : ∀ K : KT, execL (F57.C 0) 5 F57.c170 K (F57.ee17 (.mp 0 0 0) (.mp 3 0 0) (.msl 2 0 g.owner.length true) (.msl 4 0 g.owner.length true) (.mp 5 0 0) (.fn 83 [] [.mp 3 0 0, .mp 5 0 0]) (.msl a 0 Z.length false) (.msl (a + 1) 0 One.length false) (.int .i64 g.owner.length) (.int .i64 i) (.bool true)) S = K .normal (F57.ee13 (.mp 0 0 0) (.mp 3 0 0) (.msl 2 0 g.owner.length true) (.msl 4 0 g.owner.length true) (.mp 5 0 0) (.fn 83 [] [.mp 3 0 0, .mp 5 0 0]) (.msl a 0 Z.length false) (.msl (a + 1) 0 One.length false) (.int .i64 i) (.int .i64 g.owner.length) (.int .i64 i)) S := fun K => by
      simp only [go_sem, ↓reduceIte, Nat.reduceEqDiff, Nat.reduceBEq, Nat.reduceAdd, Nat.reduceMul, Nat.reduceSub, Nat.reduceLT, Nat.reduceLeDiff, reduceCtorEq, Int.reduceToNat, Int.reduceLE, Int.reduceLT, Int.reduceEq, withV_any]
    have s3 : ∀ K : KT, execL (F57.C 0) 6 F57.c175 K (F57.ee13 (.mp 0 0 0) (.mp 3 0 0) (.msl 2 0 g.owner.length true) (.msl 4 0 g.owner.length true) (.mp 5 0 0) (.fn 83 [] [.mp 3 0 0, .mp 5 0 0]) (.msl a 0 Z.length false) (.msl (a + 1) 0 One.length false) (.int .i64 i) (.int .i64 g.owner.length) (.int .i64 i)) S = K .normal (F57.ee14 (.mp 0 0 0) (.mp 3 0 0) (.msl 2 0 g.owner.length true) (.msl 4 0 g.owner.length true) (.mp 5 0 0) (.fn 83 [] [.mp 3 0 0, .mp 5 0 0]) (.msl a 0 Z.length false) (.msl (a + 1) 0 One.length false) (.int .i64 i) (.int .i64 g.owner.length) (.int .i64 i) (.bool (g.goal.getD i false))) S := fun K => by
      simp only [go_sem, ↓reduceIte, Nat.reduceEqDiff, Nat.reduceBEq, Nat.reduceAdd, Nat.reduceMul, Nat.reduceSub, Nat.reduceLT, Nat.reduceLeDiff, reduceCtorEq, Int.reduceToNat, Int.reduceLE, Int.reduceLT, Int.reduceEq, withV_any, r0, h4, Int.toNat_natCast]
    have s9 : ∀ (K : KT) (S : Store) (x : PV) (lz lo : Nat), execL (F57.C 0) 4 F57.c164 K (F57.ee15 (.mp 0 0 0) (.mp 3 0 0) (.msl 2 0 g.owner.length true) (.msl 4 0 g.owner.length true) (.mp 5 0 0) (.fn 83 [] [.mp 3 0 0, .mp 5 0 0]) (.msl a 0 lz false) (.msl (a + 1) 0 lo false) (.int .i64 i) (.int .i64 g.owner.length) (.int .i64 i) x) S = K .normal (F57.ee16 (.mp 0 0 0) (.mp 3 0 0) (.msl 2 0 g.owner.length true) (.msl 4 0 g.owner.length true) (.mp 5 0 0) (.fn 83 [] [.mp 3 0 0, .mp 5 0 0]) (.msl a 0 lz false) (.msl (a + 1) 0 lo false) (.int .i64 g.owner.length) (.int .i64 (i + 1 : Nat))) S := fun K S x lz lo => by
      simp only [go_sem, ↓reduceIte, Nat.reduceEqDiff, Nat.reduceBEq, Nat.reduceAdd, Nat.reduceMul, Nat.reduceSub, Nat.reduceLT, Nat.reduceLeDiff, reduceCtorEq, Int.reduceToNat, Int.reduceLE, Int.reduceLT, Int.reduceEq, withV_any, w1]
    have kb : ∀ (t : Nat), t < 6 → (t == a) = false ∧ (t == a + 1) = false := fun t ht => by simp only [beq_eq_false_iff_ne]; omega
    have kb1 : (a + 1 == a) = false := by simp only [beq_eq_false_iff_ne]; omega
    have kb2 : (a == a + 1) = false := by simp only [beq_eq_false_iff_ne]; omega
    cases hgo : g.goal.getD i false with
    | true =>
      rw [hgo] at s3
      obtain ⟨p1, p2⟩ := hz1.push (i : Int) (by omega)
      have h2 := h.pushed ha (by intro hx; cases hx) Z (i : Int)
      have o2 := ho1.pushed (id' := a) (by omega) Z (i : Int)
      have hl2 := pushed_length S a Z (i : Int)
      generalize Vs.pushed S a Z (i : Int) = S2 at *
      have s4 : ∀ K : KT, execL (F57.C 0) 6 F57.c178 K (F57.ee14 (.mp 0 0 0) (.mp 3 0 0) (.msl 2 0 g.owner.length true) (.msl 4 0 g.owner.length true) (.mp 5 0 0) (.fn 83 [] [.mp 3 0 0, .mp 5 0 0]) (.msl a 0 Z.length false) (.msl (a + 1) 0 One.length false) (.int .i64 i) (.int .i64 g.owner.length) (.int .i64 i) (.bool true)) S = K .normal (F57.ee15 (.mp 0 0 0) (.mp 3 0 0) (.msl 2 0 g.owner.length true) (.msl 4 0 g.owner.length true) (.mp 5 0 0) (.fn 83 [] [.mp 3 0 0, .mp 5 0 0]) (.msl a 0 (Z ++ [(i : Int)]).length false) (.msl (a + 1) 0 One.length false) (.int .i64 i) (.int .i64 g.owner.length) (.int .i64 i) .undef) S2 := fun K => by
        simp only [go_sem, ↓reduceIte, Nat.reduceEqDiff, Nat.reduceBEq, Nat.reduceAdd, Nat.reduceMul, Nat.reduceSub, Nat.reduceLT, Nat.reduceLeDiff, reduceCtorEq, Int.reduceToNat, Int.reduceLE, Int.reduceLT, Int.reduceEq, withV_any, p1, get_put, get_killE, kb 0 (by omega), kb 2 (by omega), kb 3 (by omega), kb 4 (by omega), kb 5 (by omega), kb1]
      let eA : Env := F57.ee16 (.mp 0 0 0) (.mp 3 0 0) (.msl 2 0 g.owner.length true) (.msl 4 0 g.owner.length true) (.mp 5 0 0) (.fn 83 [] [.mp 3 0 0, .mp 5 0 0]) (.msl a 0 (Z ++ [(i : Int)]).length false) (.msl (a + 1) 0 One.length false) (.int .i64 g.owner.length) (.int .i64 (i + 1 : Nat))
      obtain ⟨S', a1, a2, a3, a4⟩ := hm (i + 1) (by omega) _ (Z ++ [(i : Int)]) One (h2.gc (n := a + 2) eA (by omega) (by omega)) (p2.gc eA (by omega) (by omega)) (o2.gc eA (by omega) (by omega)) (by simp; omega) (by omega)
      have ep : parts g O (m + 1) i (Z, One) = parts g O m (i + 1) (Z ++ [(i : Int)], One) := by simp only [parts, hgo, if_true]
      rw [ep]
      refine ⟨S', a1, a2, a3, fun z hz => F57.L4_step ?_⟩
      simp only [F57.B4_eq, s1, F57.k193_n, condC_true, F57.k167_n, s2, F57.k172_n, s3, F57.k177_n, s4, F57.k174_n, F57.k169_n, F57.k165_n, s9, F57.k158_n]
      exact a4 z hz
    | false =>
      rw [hgo] at s3
      by_cases ho : g.owner.getD i 0 = 1 ∧ O.getD i 0 = 0
      · obtain ⟨p1, p2⟩ := ho1.push (i : Int) (by omega)
        have h2 := h.pushed (id := a + 1) (by omega) (by intro hx; cases hx) One (i : Int)
        have o2 := hz1.pushed (id' := a + 1) (by omega) One (i : Int)
        have hl2 := pushed_length S (a + 1) One (i : Int)
        generalize Vs.pushed S (a + 1) One (i : Int) = S2 at *
        have s4 : ∀ K : KT, execL (F57.C 0) 6 F57.c183 K (F57.ee14 (.mp 0 0 0) (.mp 3 0 0) (.msl 2 0 g.owner.length true) (.msl 4 0 g.owner.length true) (.mp 5 0 0) (.fn 83 [] [.mp 3 0 0, .mp 5 0 0]) (.msl a 0 Z.length false) (.msl (a + 1) 0 One.length false) (.int .i64 i) (.int .i64 g.owner.length) (.int .i64 i) (.bool false)) S = K .normal (F57.ee15 (.mp 0 0 0) (.mp 3 0 0) (.msl 2 0 g.owner.length true) (.msl 4 0 g.owner.length true) (.mp 5 0 0) (.fn 83 [] [.mp 3 0 0, .mp 5 0 0]) (.msl a 0 Z.length false) (.msl (a + 1) 0 One.length false) (.int .i64 i) (.int .i64 g.owner.length) (.int .i64 i) (.bool true)) S := fun K => by
          simp only [go_sem, ↓reduceIte, Nat.reduceEqDiff, Nat.reduceBEq, Nat.reduceAdd, Nat.reduceMul, Nat.reduceSub, Nat.reduceLT, Nat.reduceLeDiff, reduceCtorEq, Int.reduceToNat, Int.reduceLE, Int.reduceLT, Int.reduceEq, withV_any, r0, h5, Int.toNat_natCast, ho.1, x2, r2, intRows_get O i hiO, hiO, ho.2]
        have s5 : ∀ K : KT, execL (F57.C 0) 6 F57.c186 K (F57.ee15 (.mp 0 0 0) (.mp 3 0 0) (.msl 2 0 g.owner.length true) (.msl 4 0 g.owner.length true) (.mp 5 0 0) (.fn 83 [] [.mp 3 0 0, .mp 5 0 0]) (.msl a 0 Z.length false) (.msl (a + 1) 0 One.length false) (.int .i64 i) (.int .i64 g.owner.length) (.int .i64 i) (.bool true)) S = K .normal (F57.ee15 (.mp 0 0 0) (.mp 3 0 0) (.msl 2 0 g.owner.length true) (.msl 4 0 g.owner.length true) (.mp 5 0 0) (.fn 83 [] [.mp 3 0 0, .mp 5 0 0]) (.msl a 0 Z.length false) (.msl (a + 1) 0 (One ++ [(i : Int)]).length false) (.int .i64 i) (.int .i64 g.owner.length) (.int .i64 i) (.bool true)) S2 := fun K => by
          simp only [go_sem, ↓reduceIte, Nat.reduceEqDiff, Nat.reduceBEq, Nat.reduceAdd, Nat.reduceMul, Nat.reduceSub, Nat.reduceLT, Nat.reduceLeDiff, reduceCtorEq, Int.reduceToNat, Int.reduceLE, Int.reduceLT, Int.reduceEq, withV_any, p1, get_put, get_killE, kb 0 (by omega), kb 2 (by omega), kb 3 (by omega), kb 4 (by omega), kb 5 (by omega), kb2]
        let eA : Env := F57.ee16 (.mp 0 0 0) (.mp 3 0 0) (.msl 2 0 g.owner.length true) (.msl 4 0 g.owner.length true) (.mp 5 0 0) (.fn 83 [] [.mp 3 0 0, .mp 5 0 0]) (.msl a 0 Z.length false) (.msl (a + 1) 0 (One ++ [(i : Int)]).length false) (.int .i64 g.owner.length) (.int .i64 (i + 1 : Nat))
        obtain ⟨S', a1, a2, a3, a4⟩ := hm (i + 1) (by omega) _ Z (One ++ [(i : Int)]) (h2.gc (n := a + 2) eA (by omega) (by omega)) (o2.gc eA (by omega) (by omega)) (p2.gc eA (by omega) (by omega)) (by omega) (by simp; omega)
        have ep : parts g O (m + 1) i (Z, One) = parts g O m (i + 1) (Z, One ++ [(i : Int)]) := by simp only [parts, hgo, if_pos ho]; rfl
        rw [ep]
        refine ⟨S', a1, a2, a3, fun z hz => F57.L4_step ?_⟩
        simp only [F57.B4_eq, s1, F57.k193_n, condC_true, F57.k167_n, s2, F57.k172_n, s3, F57.k177_n, condC_false, s4, F57.k185_n, s5, F57.k174_n, F57.k169_n, F57.k165_n, s9, F57.k158_n]
        exact a4 z hz
      · have s4 : ∀ K : KT, execL (F57.C 0) 6 F57.c183 K (F57.ee14 (.mp 0 0 0) (.mp 3 0 0) (.msl 2 0 g.owner.length true) (.msl 4 0 g.owner.length true) (.mp 5 0 0) (.fn 83 [] [.mp 3 0 0, .mp 5 0 0]) (.msl a 0 Z.length false) (.msl (a + 1) 0 One.length false) (.int .i64 i) (.int .i64 g.owner.length) (.int .i64 i) (.bool false)) S = K .normal (F57.ee15 (.mp 0 0 0) (.mp 3 0 0) (.msl 2 0 g.owner.length true) (.msl 4 0 g.owner.length true) (.mp 5 0 0) (.fn 83 [] [.mp 3 0 0, .mp 5 0 0]) (.msl a 0 Z.length false) (.msl (a + 1) 0 One.length false) (.int .i64 i) (.int .i64 g.owner.length) (.int .i64 i) (.bool false)) S := fun K => by
          by_cases ho1 : g.owner.getD i 0 = 1
          · have ho2 : ¬ O.getD i 0 = 0 := fun e => ho ⟨ho1, e⟩
            simp only [go_sem, ↓reduceIte, Nat.reduceEqDiff, Nat.reduceBEq, Nat.reduceAdd, Nat.reduceMul, Nat.reduceSub, Nat.reduceLT, Nat.reduceLeDiff, reduceCtorEq, Int.reduceToNat, Int.reduceLE, Int.reduceLT, Int.reduceEq, withV_any, r0, h5, Int.toNat_natCast, ho1, x2, r2, intRows_get O i hiO, hiO, ho2]
          · simp only [go_sem, ↓reduceIte, Nat.reduceEqDiff, Nat.reduceBEq, Nat.reduceAdd, Nat.reduceMul, Nat.reduceSub, Nat.reduceLT, Nat.reduceLeDiff, reduceCtorEq, Int.reduceToNat, Int.reduceLE, Int.reduceLT, Int.reduceEq, withV_any, r0, h5, Int.toNat_natCast, ho1]
        let eA : Env := F57.ee16 (.mp 0 0 0) (.mp 3 0 0) (.msl 2 0 g.owner.length true) (.msl 4 0 g.owner.length true) (.mp 5 0 0) (.fn 83 [] [.mp 3 0 0, .mp 5 0 0]) (.msl a 0 Z.length false) (.msl (a + 1) 0 One.length false) (.int .i64 g.owner.length) (.int .i64 (i + 1 : Nat))
        obtain ⟨S', a1, a2, a3, a4⟩ := hm (i + 1) (by omega) _ Z One (h.gc (n := a + 2) eA (by omega) (by omega)) (hz1.gc eA (by omega) (by omega)) (ho1.gc eA (by omega) (by omega)) (by omega) (by omega)
        have ep : parts g O (m + 1) i (Z, One) = parts g O m (i + 1) (Z, One) := by simp only [parts, hgo, if_neg ho]; rfl
        rw [ep]
        refine ⟨S', a1, a2, a3, fun z hz => F57.L4_step ?_⟩
        simp only [F57.B4_eq, s1, F57.k193_n, condC_true, F57.k167_n, s2, F57.k172_n, s3, F57.k177_n, condC_false, s4, F57.k185_n, F57.k174_n, F57.k169_n, F57.k165_n, s9, F57.k158_n]
        exact a4 z hz
end Go.Vs
end
/- game.ranks: the loop over the predecessors of a position. -/
section
set_option linter.unusedVariables false
set_option linter.unusedSimpArgs false
namespace Go.Vs
open Go Go.Proofs
theorem RS.at6 {g : Game} {S : Store} {v : PV} {R O Q : List Int} {F : List (List Int)} (h : RS g S v R O F Q) {i : Nat} (hi : i < g.owner.length) : At S (6 + i) (F.getD i []) := h.p6 i hi
theorem At.set {S : Store} {id : Nat} {L : List Int} (h : At S id L) {j : Nat} (hj : j ≠ id) (o : Obj) : At (S.set j o) id L := by
  obtain ⟨gr, a, b⟩ := h
  exact ⟨gr, a, by rw [List.getElem?_set_ne hj]; exact b⟩
/-- Counts in bounds. -/
def Bnd (lo : Int) (O : List Int) : Prop := ∀ j, lo ≤ O.getD j 0 ∧ O.getD j 0 ≤ 4000
theorem Bnd.set {lo : Int} {O : List Int} (h : Bnd lo O) (j : Nat) : Bnd (lo - 1) (O.set j (O.getD j 0 - 1)) := fun q => by
  have h1 := h j
  have h2 := h q
  simp only [List.getD_eq_getElem?_getD, List.getElem?_set] at h1 h2 ⊢
  split
  · split
    · simp only [Option.getD_some]; omega
    · simp only [Option.getD_none]
      have := h O.length
      simp only [List.getD_eq_getElem?_getD, List.getElem?_eq_none (Nat.le_refl _), Option.getD_none] at this
      omega
  · omega
theorem wrap_dec {x : Int} (h1 : -1000000000 ≤ x) (h2 : x ≤ 1000000000) : IntKind.i64.wrap (x - 1) = x - 1 := by
  rw [IntKind.wrap_i64]; omega
theorem loop57_11 (g : Game) (hg : g.good) (n7 d c at0 q rr en : Nat) (hat : at0 < 1000000) (hq : q < g.owner.length) (hc : 6 + g.owner.length ≤ c) (hd : c < d) (v : PV) (hvd : ∀ r ∈ v.refs, r < d ∧ r ≠ c) (R Q One : List Int) (F : List (List Int)) (l : List Int) (el : F.getD q [] = l) (hl : l.length ≤ 400) (hx : ∀ x ∈ l, ∃ j : Nat, j < g.owner.length ∧ x = j) (n11 : Nat) (h11 : d + 1 ≤ n11) : ∀ (m k : Nat), k + m = l.length → ∀ (S : Store) (O L : List Int) (lo : Int), RS g S v R O F Q → At S c One → At S d L → n11 ≤ S.length → L.length + m ≤ 2000000 → Bnd lo O → -1000000000 ≤ lo - m →
    ∃ S', RS g S' v R ((l.drop k).foldl (Rk.ev g.toG R) (O, L)).1 F Q ∧ At S' c One ∧ At S' d ((l.drop k).foldl (Rk.ev g.toG R) (O, L)).2 ∧ d + 1 ≤ S'.length ∧ Bnd (lo - m) ((l.drop k).foldl (Rk.ev g.toG R) (O, L)).1 ∧ ((l.drop k).foldl (Rk.ev g.toG R) (O, L)).2.length ≤ L.length + m ∧ ∀ z, F57.L9 0 n7 (d + 1) (.mp 0 0 0) (.mp 3 0 0) (.msl 2 0 g.owner.length true) (.msl 4 0 g.owner.length true) (.mp 5 0 0) (.fn 83 [] [.mp 3 0 0, .mp 5 0 0]) (.msl c 0 One.length false) (.int .i64 (at0 + 1 : Nat)) (.int .i64 rr) (.int .i64 en) (.msl d 0 ((l.drop k).foldl (Rk.ev g.toG R) (O, L)).2.length false) S' = some z →
      F57.L11 0 n7 (d + 1) n11 (.mp 0 0 0) (.mp 3 0 0) (.msl 2 0 g.owner.length true) (.msl 4 0 g.owner.length true) (.mp 5 0 0) (.fn 83 [] [.mp 3 0 0, .mp 5 0 0]) (.msl c 0 One.length false) (.int .i64 at0) (.int .i64 rr) (.int .i64 en) (.msl d 0 L.length false) (.msl (6 + q) 0 l.length false) (.int .i64 l.length) (.int .i64 k) S = some z := by
  have hN := hg.n
  have hm4 : (1000000 : Nat) ≤ maxLen := by decide
  intro m
  induction m with
  | zero =>
    intro k hk S O L lo h ho hdl hS hL hB hlo
    have c1 : ¬ (k : Int) < (l.length : Int) := by omega
    have w1 := wrap_succ (i := at0) (n := at0 + 1) (by omega) (by omega)
    rw [List.drop_of_length_le (by omega), List.foldl_nil]
    let eA : Env := F57.ee26 (.mp 0 0 0) (.mp 3 0 0) (.msl 2 0 g.owner.length true) (.msl 4 0 g.owner.length true) (.mp 5 0 0) (.fn 83 [] [.mp 3 0 0, .mp 5 0 0]) (.msl c 0 One.length false) (.int .i64 at0) (.int .i64 rr) (.int .i64 en) (.msl d 0 L.length false) .undef .undef .undef .undef
    let eB : Env := F57.ee21 (.mp 0 0 0) (.mp 3 0 0) (.msl 2 0 g.owner.length true) (.msl 4 0 g.owner.length true) (.mp 5 0 0) (.fn 83 [] [.mp 3 0 0, .mp 5 0 0]) (.msl c 0 One.length false) (.int .i64 (at0 + 1 : Nat)) (.int .i64 rr) (.int .i64 en) (.msl d 0 L.length false)
    have hA := h.gc (n := n11) eA (by omega) hS
    have oA := ho.gc (n := n11) eA (by omega) hS
    have dA := hdl.gc (n := n11) eA (by omega) hS
    have lA := (gc_at (e := eA) hS).1
    have hB' := hA.gc (n := d + 1) eB (by omega) (by omega)
    have oB := oA.gc (n := d + 1) eB (by omega) (by omega)
    have dB := dA.gc (n := d + 1) eB (by omega) (by omega)
    have lB := (gc_at (n := d + 1) (e := eB) (S := Vs.gc n11 eA S) (by omega)).1
    refine ⟨_, hB', oB, dB, lB, by simpa using hB, by simp, fun z hz => F57.L11_step ?_⟩
    have s1 : ∀ K : KT, execL (F57.C 0) 11 F57.c88 K (F57.ee25 (.mp 0 0 0) (.mp 3 0 0) (.msl 2 0 g.owner.length true) (.msl 4 0 g.owner.length true) (.mp 5 0 0) (.fn 83 [] [.mp 3 0 0, .mp 5 0 0]) (.msl c 0 One.length false) (.int .i64 at0) (.int .i64 rr) (.int .i64 en) (.msl d 0 L.length false) (.msl (6 + q) 0 l.length false) (.int .i64 l.length) (.int .i64 k)) S = K .normal (F57.ee26 (.mp 0 0 0) (.mp 3 0 0) (.msl 2 0 g.owner.length true) (.msl 4 0 g.owner.length true) (.mp 5 0 0) (.fn 83 [] [.mp 3 0 0, .mp 5 0 0]) (.msl c 0 One.length false) (.int .i64 at0) (.int .i64 rr) (.int .i64 en) (.msl d 0 L.length false) (.msl (6 + q) 0 l.length false) (.int .i64 l.length) (.int .i64 k) (.bool false)) S := fun K => by
      simp only [go_sem, ↓reduceIte, Nat.reduceEqDiff, Nat.reduceBEq, Nat.reduceAdd, Nat.reduceMul, Nat.reduceSub, Nat.reduceLT, Nat.reduceLeDiff, reduceCtorEq, Int.reduceToNat, Int.reduceLE, Int.reduceLT, Int.reduceEq, c1]
    have s2 : ∀ (K : KT) (S : Store), execL (F57.C 0) 9 F57.c74 K eA S = K .normal (F57.ee21 (.mp 0 0 0) (.mp 3 0 0) (.msl 2 0 g.owner.length true) (.msl 4 0 g.owner.length true) (.mp 5 0 0) (.fn 83 [] [.mp 3 0 0, .mp 5 0 0]) (.msl c 0 One.length false) (.int .i64 (at0 + 1 : Nat)) (.int .i64 rr) (.int .i64 en) (.msl d 0 L.length false)) S := fun K S => by
      simp only [eA, go_sem, ↓reduceIte, Nat.reduceEqDiff, Nat.reduceBEq, Nat.reduceAdd, Nat.reduceMul, Nat.reduceSub, Nat.reduceLT, Nat.reduceLeDiff, reduceCtorEq, Int.reduceToNat, Int.reduceLE, Int.reduceLT, Int.reduceEq, withV_any, w1]
    simp only [F57.B11_eq, s1, F57.k124_n, condC_false, F57.k96_exit, F57.k87_x1, F57.k84_exit, if_true, F57.k79_n, F57.k75_n]
    rw [s2, F57.k70_n]
    exact hz
  | succ m hm =>
    intro k hk S O L lo h ho hdl hS hL hB hlo
    have c1 : (k : Int) < (l.length : Int) := by omega
    have hkl : k < l.length := by omega
    have w1 := wrap_succ (i := k) (n := l.length) hkl (by omega)
    obtain ⟨j, hj, ej⟩ := hx (l.getD k 0) (by simp [List.getD_eq_getElem?_getD, hkl])
    have ed : l.drop k = (j : Int) :: l.drop (k + 1) := by
      rw [List.drop_eq_getElem_cons hkl]
      simp only [List.getD_eq_getElem?_getD, List.getElem?_eq_getElem hkl, Option.getD_some] at ej
      rw [ej]
    have hat6 := h.at6 hq
    rw [el] at hat6
    obtain ⟨ad, a1, a2⟩ := (hat6.ints (ex := false)).load hkl
    rw [ej] at a2
    have hlR := h.lR
    have hlO := h.lO
    have hjR : j < R.length := by omega
    have hjO : j < O.length := by omega
    have r0 := rowsAt_of h.p0
    have r1 := rowsAt_of h.p1
    have r2 := rowsAt_of h.p2
    have r3 := rowsAt_of h.p3
    rw [hlR] at r3
    have x1 := idx22m (ex := true) j r1 (by rw [intRows_length, hlR]) (intRows_ok R) (by omega : j < g.owner.length)
    have x2 := idx22m (ex := true) j r2 (by rw [intRows_length, hlO]) (intRows_ok O) (by omega : j < g.owner.length)
    have hbj := hB j
    have w2 := wrap_dec (x := O.getD j 0) (by omega) (by omega)
    have h5 : 0 ≤ (j : Int) ∧ (j : Int) < (g.owner.length : Int) := ⟨by omega, by omega⟩
    have s1 : ∀ K : KT, execL (F57.C 0) 11 F57.c88 K (F57.ee25 (.mp 0 0 0) (.mp 3 0 0) (.msl 2 0 g.owner.length true) (.msl 4 0 g.owner.length true) (.mp 5 0 0) (.fn 83 [] [.mp 3 0 0, .mp 5 0 0]) (.msl c 0 One.length false) (.int .i64 at0) (.int .i64 rr) (.int .i64 en) (.msl d 0 L.length false) (.msl (6 + q) 0 l.length false) (.int .i64 l.length) (.int .i64 k)) S = K .normal (F57.ee26 (.mp 0 0 0) (.mp 3 0 0) (.msl 2 0 g.owner.length true) (.msl 4 0 g.owner.length true) (.mp 5 0 0) (.fn 83 [] [.mp 3 0 0, .mp 5 0 0]) (.msl c 0 One.length false) (.int .i64 at0) (.int .i64 rr) (.int .i64 en) (.msl d 0 L.length false) (.msl (6 + q) 0 l.length false) (.int .i64 l.length) (.int .i64 k) (.bool true)) S := fun K => by
      simp only [go_sem, ↓reduceIte, Nat.reduceEqDiff, Nat.reduceBEq, Nat.reduceAdd, Nat.reduceMul, Nat.reduceSub, Nat.reduceLT, Nat.reduceLeDiff, reduceCtorEq, Int.reduceToNat, Int.reduceLE, Int.reduceLT, Int.reduceEq, c1]
    have s2 : ∀ K : KT, execL (F57.C 0) 12 F57.c99 K (F57.ee26 (.mp 0 0 0) (.mp 3 0 0) (.msl 2 0 g.owner.length true) (.msl 4 0 g.owner.length true) (.mp 5 0 0) (.fn 83 [] [.mp 3 0 0, .mp 5 0 0]) (.msl c 0 One.length false) (.int .i64 at0) (.int .i64 rr) (.int .i64 en) (.msl d 0 L.length false) (.msl (6 + q) 0 l.length false) (.int .i64 l.length) (.int .i64 k) (.bool true)) S = K .normal (F57.ee22 (.mp 0 0 0) (.mp 3 0 0) (.msl 2 0 g.owner.length true) (.msl 4 0 g.owner.length true) (.mp 5 0 0) (.fn 83 [] [.mp 3 0 0, .mp 5 0 0]) (.msl c 0 One.length false) (.int .i64 at0) (.int .i64 rr) (.int .i64 en) (.msl d 0 L.length false) (.int .i64 j) (.msl (6 + q) 0 l.length false) (.int .i64 l.length) (.int .i64 k)) S := fun K => by
      simp only [go_sem, ↓reduceIte, Nat.reduceEqDiff, Nat.reduceBEq, Nat.reduceAdd, Nat.reduceMul, Nat.reduceSub, Nat.reduceLT, Nat.reduceLeDiff, reduceCtorEq, Int.reduceToNat, Int.reduceLE, Int.reduceLT, Int.reduceEq, withV_any, a1, a2]
    have s3 : ∀ K : KT, execL (F57.C 0) 12 F57.c117 K (F57.ee22 (.mp 0 0 0) (.mp 3 0 0) (.msl 2 0 g.owner.length true) (.msl 4 0 g.owner.length true) (.mp 5 0 0) (.fn 83 [] [.mp 3 0 0, .mp 5 0 0]) (.msl c 0 One.length false) (.int .i64 at0) (.int .i64 rr) (.int .i64 en) (.msl d 0 L.length false) (.int .i64 j) (.msl (6 + q) 0 l.length false) (.int .i64 l.length) (.int .i64 k)) S = K .normal (F57.ee23 (.mp 0 0 0) (.mp 3 0 0) (.msl 2 0 g.owner.length true) (.msl 4 0 g.owner.length true) (.mp 5 0 0) (.fn 83 [] [.mp 3 0 0, .mp 5 0 0]) (.msl c 0 One.length false) (.int .i64 at0) (.int .i64 rr) (.int .i64 en) (.msl d 0 L.length false) (.int .i64 j) (.msl (6 + q) 0 l.length false) (.int .i64 l.length) (.int .i64 k) (.bool (decide (0 ≤ Rk.rk R j))) .undef) S := fun K => by
      by_cases hh : 0 ≤ Rk.rk R j
      · simp only [go_sem, ↓reduceIte, Nat.reduceEqDiff, Nat.reduceBEq, Nat.reduceAdd, Nat.reduceMul, Nat.reduceSub, Nat.reduceLT, Nat.reduceLeDiff, reduceCtorEq, Int.reduceToNat, Int.reduceLE, Int.reduceLT, Int.reduceEq, withV_any, r1, r3, x1, intRows_get R j hjR, hjR, getD_rk hjR, hh, decide_true]
      · simp only [go_sem, ↓reduceIte, Nat.reduceEqDiff, Nat.reduceBEq, Nat.reduceAdd, Nat.reduceMul, Nat.reduceSub, Nat.reduceLT, Nat.reduceLeDiff, reduceCtorEq, Int.reduceToNat, Int.reduceLE, Int.reduceLT, Int.reduceEq, withV_any, r1, r3, x1, intRows_get R j hjR, hjR, getD_rk hjR, hh, decide_false]
    have s9 : ∀ (K : KT) (S : Store) (y1 y2 : PV) (ll : Nat), execL (F57.C 0) 11 F57.c93 K (F57.ee23 (.mp 0 0 0) (.mp 3 0 0) (.msl 2 0 g.owner.length true) (.msl 4 0 g.owner.length true) (.mp 5 0 0) (.fn 83 [] [.mp 3 0 0, .mp 5 0 0]) (.msl c 0 One.length false) (.int .i64 at0) (.int .i64 rr) (.int .i64 en) (.msl d 0 ll false) (.int .i64 j) (.msl (6 + q) 0 l.length false) (.int .i64 l.length) (.int .i64 k) y1 y2) S = K .normal (F57.ee25 (.mp 0 0 0) (.mp 3 0 0) (.msl 2 0 g.owner.length true) (.msl 4 0 g.owner.length true) (.mp 5 0 0) (.fn 83 [] [.mp 3 0 0, .mp 5 0 0]) (.msl c 0 One.length false) (.int .i64 at0) (.int .i64 rr) (.int .i64 en) (.msl d 0 ll false) (.msl (6 + q) 0 l.length false) (.int .i64 l.length) (.int .i64 (k + 1 : Nat))) S := fun K S y1 y2 ll => by
      simp only [go_sem, ↓reduceIte, Nat.reduceEqDiff, Nat.reduceBEq, Nat.reduceAdd, Nat.reduceMul, Nat.reduceSub, Nat.reduceLT, Nat.reduceLeDiff, reduceCtorEq, Int.reduceToNat, Int.reduceLE, Int.reduceLT, Int.reduceEq, withV_any, w1]
    have w3 : IntKind.i64.wrap (O.getD j 0 - 1) = O.getD j 0 - 1 := w2
    rw [ed, List.foldl_cons]
    by_cases hr : 0 ≤ Rk.rk R j
    · have ee : Rk.ev g.toG R (O, L) (j : Int) = (O, L) := by unfold Rk.ev; rw [if_pos hr]
      rw [ee]
      let eA : Env := F57.ee25 (.mp 0 0 0) (.mp 3 0 0) (.msl 2 0 g.owner.length true) (.msl 4 0 g.owner.length true) (.mp 5 0 0) (.fn 83 [] [.mp 3 0 0, .mp 5 0 0]) (.msl c 0 One.length false) (.int .i64 at0) (.int .i64 rr) (.int .i64 en) (.msl d 0 L.length false) (.msl (6 + q) 0 l.length false) (.int .i64 l.length) (.int .i64 (k + 1 : Nat))
      obtain ⟨S', b1, b2, b3, b4, b5, b6, b7⟩ := hm (k + 1) (by omega) _ O L (lo - 1) (h.gc (n := n11) eA (by omega) hS) (ho.gc eA (by omega) hS) (hdl.gc eA (by omega) hS) (gc_at hS).1 (by omega) (fun t => by have := hB t; omega) (by omega)
      refine ⟨S', b1, b2, b3, b4, fun t => by have := b5 t; omega, by omega, fun z hz => F57.L11_step ?_⟩
      simp only [F57.B11_eq, s1, F57.k124_n, condC_true, F57.k96_n, s2, F57.k116_n, s3, hr, decide_true, F57.k119_n, F57.k114_exit, F57.k98_exit, if_true, F57.k94_n, s9, F57.k87_n]
      exact b7 z hz
    · have hO2 := h.setO j (O.getD j 0 - 1)
      have st := storeInt (j := j) (O.getD j 0 - 1) h.p2 hjO
      have oc2 := ho.set (j := 2) (by omega) (.arr (intRows (O.set j (O.getD j 0 - 1))) (some (some 1)) false)
      have dc2 := hdl.set (j := 2) (by omega) (.arr (intRows (O.set j (O.getD j 0 - 1))) (some (some 1)) false)
      have hB2 := hB.set j
      have lS2 : (S.set 2 (.arr (intRows (O.set j (O.getD j 0 - 1))) (some (some 1)) false)).length = S.length := by rw [List.length_set]
      generalize eS2 : S.set 2 (.arr (intRows (O.set j (O.getD j 0 - 1))) (some (some 1)) false) = S2 at *
      have r0' := rowsAt_of hO2.p0
      have r2' := rowsAt_of hO2.p2
      have hjO' : j < (O.set j (O.getD j 0 - 1)).length := by rw [List.length_set]; exact hjO
      have x2' := idx22m (ex := true) j r2' (by rw [intRows_length, List.length_set, hlO]) (intRows_ok _) (by omega : j < g.owner.length)
      have gO : (O.set j (O.getD j 0 - 1)).getD j 0 = O.getD j 0 - 1 := by simp [List.getD_eq_getElem?_getD, hjO]
      have s4 : ∀ K : KT, execL (F57.C 0) 12 F57.c103 K (F57.ee23 (.mp 0 0 0) (.mp 3 0 0) (.msl 2 0 g.owner.length true) (.msl 4 0 g.owner.length true) (.mp 5 0 0) (.fn 83 [] [.mp 3 0 0, .mp 5 0 0]) (.msl c 0 One.length false) (.int .i64 at0) (.int .i64 rr) (.int .i64 en) (.msl d 0 L.length false) (.int .i64 j) (.msl (6 + q) 0 l.length false) (.int .i64 l.length) (.int .i64 k) (.bool false) .undef) S = K .normal (F57.ee22 (.mp 0 0 0) (.mp 3 0 0) (.msl 2 0 g.owner.length true) (.msl 4 0 g.owner.length true) (.mp 5 0 0) (.fn 83 [] [.mp 3 0 0, .mp 5 0 0]) (.msl c 0 One.length false) (.int .i64 at0) (.int .i64 rr) (.int .i64 en) (.msl d 0 L.length false) (.int .i64 j) (.msl (6 + q) 0 l.length false) (.int .i64 l.length) (.int .i64 k)) S2 := fun K => by
        simp only [storeE_eq, known3, if_true, size3] at st
        simp only [go_sem, ↓reduceIte, Nat.reduceEqDiff, Nat.reduceBEq, Nat.reduceAdd, Nat.reduceMul, Nat.reduceSub, Nat.reduceLT, Nat.reduceLeDiff, reduceCtorEq, Int.reduceToNat, Int.reduceLE, Int.reduceLT, Int.reduceEq, withV_any, x2, r2, intRows_get O j hjO, hjO, w3, st]
      have s5 : ∀ K : KT, execL (F57.C 0) 12 F57.c105 K (F57.ee22 (.mp 0 0 0) (.mp 3 0 0) (.msl 2 0 g.owner.length true) (.msl 4 0 g.owner.length true) (.mp 5 0 0) (.fn 83 [] [.mp 3 0 0, .mp 5 0 0]) (.msl c 0 One.length false) (.int .i64 at0) (.int .i64 rr) (.int .i64 en) (.msl d 0 L.length false) (.int .i64 j) (.msl (6 + q) 0 l.length false) (.int .i64 l.length) (.int .i64 k)) S2 = K .normal (F57.ee23 (.mp 0 0 0) (.mp 3 0 0) (.msl 2 0 g.owner.length true) (.msl 4 0 g.owner.length true) (.mp 5 0 0) (.fn 83 [] [.mp 3 0 0, .mp 5 0 0]) (.msl c 0 One.length false) (.int .i64 at0) (.int .i64 rr) (.int .i64 en) (.msl d 0 L.length false) (.int .i64 j) (.msl (6 + q) 0 l.length false) (.int .i64 l.length) (.int .i64 k) .undef (.bool (decide (g.owner.getD j 0 = 0 ∨ O.getD j 0 - 1 = 0)))) S2 := fun K => by
        by_cases h1 : g.owner.getD j 0 = 0
        · simp only [go_sem, ↓reduceIte, Nat.reduceEqDiff, Nat.reduceBEq, Nat.reduceAdd, Nat.reduceMul, Nat.reduceSub, Nat.reduceLT, Nat.reduceLeDiff, reduceCtorEq, Int.reduceToNat, Int.reduceLE, Int.reduceLT, Int.reduceEq, withV_any, r0', h5, Int.toNat_natCast, h1, true_or, decide_true]
        · by_cases h2 : O.getD j 0 - 1 = 0
          · have gO' : (O.set j (O.getD j 0 - 1)).getD j 0 = 0 := by rw [gO, h2]
            have e1 : (decide (g.owner.getD j 0 = 0 ∨ O.getD j 0 - 1 = 0)) = true := by simp only [h2, or_true, decide_true]
            rw [e1]
            simp only [go_sem, ↓reduceIte, Nat.reduceEqDiff, Nat.reduceBEq, Nat.reduceAdd, Nat.reduceMul, Nat.reduceSub, Nat.reduceLT, Nat.reduceLeDiff, reduceCtorEq, Int.reduceToNat, Int.reduceLE, Int.reduceLT, Int.reduceEq, withV_any, r0', h5, Int.toNat_natCast, h1, x2', r2', intRows_get _ j hjO', hjO', gO']
          · simp only [go_sem, ↓reduceIte, Nat.reduceEqDiff, Nat.reduceBEq, Nat.reduceAdd, Nat.reduceMul, Nat.reduceSub, Nat.reduceLT, Nat.reduceLeDiff, reduceCtorEq, Int.reduceToNat, Int.reduceLE, Int.reduceLT, Int.reduceEq, withV_any, r0', h5, Int.toNat_natCast, h1, x2', r2', intRows_get _ j hjO', hjO', gO, h2, or_self, decide_false]
      by_cases hp : g.owner.getD j 0 = 0 ∨ O.getD j 0 - 1 = 0
      · have ee : Rk.ev g.toG R (O, L) (j : Int) = (O.set j (O.getD j 0 - 1), L ++ [(j : Int)]) := by
          unfold Rk.ev; rw [if_neg hr]
          have hp' : g.toG.owner (j : Int).toNat = 0 ∨ (O, L).1.getD (j : Int).toNat 0 - 1 = 0 := hp
          rw [if_pos hp']; rfl
        rw [ee]
        obtain ⟨p1, p2⟩ := dc2.push (j : Int) (by omega)
        have hdv : d ∉ v.refs := fun hx => by have := (hvd d hx).1; omega
        have h3 := hO2.pushed (id := d) (by omega) hdv L (j : Int)
        have o3 := oc2.pushed (id' := d) (by omega) L (j : Int)
        have hl3 := pushed_length S2 d L (j : Int)
        generalize Vs.pushed S2 d L (j : Int) = S3 at *
        have kb : ∀ (t : Nat), t < 6 → (t == d) = false := fun t ht => by simp only [beq_eq_false_iff_ne]; omega
        have kb1 : (c == d) = false := by simp only [beq_eq_false_iff_ne]; omega
        have kb2 : (6 + q == d) = false := by simp only [beq_eq_false_iff_ne]; omega
        have s6 : ∀ K : KT, execL (F57.C 0) 12 F57.c108 K (F57.ee23 (.mp 0 0 0) (.mp 3 0 0) (.msl 2 0 g.owner.length true) (.msl 4 0 g.owner.length true) (.mp 5 0 0) (.fn 83 [] [.mp 3 0 0, .mp 5 0 0]) (.msl c 0 One.length false) (.int .i64 at0) (.int .i64 rr) (.int .i64 en) (.msl d 0 L.length false) (.int .i64 j) (.msl (6 + q) 0 l.length false) (.int .i64 l.length) (.int .i64 k) .undef (.bool true)) S2 = K .normal (F57.ee23 (.mp 0 0 0) (.mp 3 0 0) (.msl 2 0 g.owner.length true) (.msl 4 0 g.owner.length true) (.mp 5 0 0) (.fn 83 [] [.mp 3 0 0, .mp 5 0 0]) (.msl c 0 One.length false) (.int .i64 at0) (.int .i64 rr) (.int .i64 en) (.msl d 0 (L ++ [(j : Int)]).length false) (.int .i64 j) (.msl (6 + q) 0 l.length false) (.int .i64 l.length) (.int .i64 k) .undef (.bool true)) S3 := fun K => by
          simp only [go_sem, ↓reduceIte, Nat.reduceEqDiff, Nat.reduceBEq, Nat.reduceAdd, Nat.reduceMul, Nat.reduceSub, Nat.reduceLT, Nat.reduceLeDiff, reduceCtorEq, Int.reduceToNat, Int.reduceLE, Int.reduceLT, Int.reduceEq, withV_any, p1, get_put, get_killE, kb 0 (by omega), kb 2 (by omega), kb 3 (by omega), kb 4 (by omega), kb 5 (by omega), kb1, kb2]
        let eA : Env := F57.ee25 (.mp 0 0 0) (.mp 3 0 0) (.msl 2 0 g.owner.length true) (.msl 4 0 g.owner.length true) (.mp 5 0 0) (.fn 83 [] [.mp 3 0 0, .mp 5 0 0]) (.msl c 0 One.length false) (.int .i64 at0) (.int .i64 rr) (.int .i64 en) (.msl d 0 (L ++ [(j : Int)]).length false) (.msl (6 + q) 0 l.length false) (.int .i64 l.length) (.int .i64 (k + 1 : Nat))
        have l3 : n11 ≤ S3.length := by omega
        have lll : (L ++ [(j : Int)]).length = L.length + 1 := by simp
        obtain ⟨S', b1, b2, b3, b4, b5, b6, b7⟩ := hm (k + 1) (by omega) _ _ (L ++ [(j : Int)]) (lo - 1) (h3.gc (n := n11) eA (by omega) l3) (o3.gc eA (by omega) l3) (p2.gc eA (by omega) l3) (gc_at l3).1 (by omega) hB2 (by omega)
        refine ⟨S', b1, b2, b3, b4, fun t => by have := b5 t; omega, by omega, fun z hz => F57.L11_step ?_⟩
        simp only [F57.B11_eq, s1, F57.k124_n, condC_true, F57.k96_n, s2, F57.k116_n, s3, hr, decide_false, F57.k119_n, condC_false, F57.k114_n, s4, F57.k112_n, s5, hp, decide_true, F57.k107_n, s6, F57.k98_n, F57.k94_n, s9, F57.k87_n]
        exact b7 z hz
      · have ee : Rk.ev g.toG R (O, L) (j : Int) = (O.set j (O.getD j 0 - 1), L) := by
          unfold Rk.ev; rw [if_neg hr]
          have hp' : ¬ (g.toG.owner (j : Int).toNat = 0 ∨ (O, L).1.getD (j : Int).toNat 0 - 1 = 0) := hp
          rw [if_neg hp']; rfl
        rw [ee]
        let eA : Env := F57.ee25 (.mp 0 0 0) (.mp 3 0 0) (.msl 2 0 g.owner.length true) (.msl 4 0 g.owner.length true) (.mp 5 0 0) (.fn 83 [] [.mp 3 0 0, .mp 5 0 0]) (.msl c 0 One.length false) (.int .i64 at0) (.int .i64 rr) (.int .i64 en) (.msl d 0 L.length false) (.msl (6 + q) 0 l.length false) (.int .i64 l.length) (.int .i64 (k + 1 : Nat))
        have l3 : n11 ≤ S2.length := by omega
        obtain ⟨S', b1, b2, b3, b4, b5, b6, b7⟩ := hm (k + 1) (by omega) _ _ L (lo - 1) (hO2.gc (n := n11) eA (by omega) l3) (oc2.gc eA (by omega) l3) (dc2.gc eA (by omega) l3) (gc_at l3).1 (by omega) hB2 (by omega)
        refine ⟨S', b1, b2, b3, b4, fun t => by have := b5 t; omega, by omega, fun z hz => F57.L11_step ?_⟩
        simp only [F57.B11_eq, s1, F57.k124_n, condC_true, F57.k96_n, s2, F57.k116_n, s3, hr, decide_false, F57.k119_n, condC_false, F57.k114_n, s4, F57.k112_n, s5, hp, F57.k107_n, F57.k98_n, F57.k94_n, s9, F57.k87_n]
        exact b7 z hz
end Go.Vs
end
/- game.ranks: the loop over a level's positions. -/
section
set_option linter.unusedVariables false
set_option linter.unusedSimpArgs false
namespace Go.Vs
open Go Go.Proofs
/-- The lists of predecessors hold positions. -/
def FromOK (n : Nat) (F : List (List Int)) : Prop := ∀ q, q < n → (F.getD q []).length ≤ 400 ∧ ∀ x ∈ F.getD q [], ∃ j : Nat, j < n ∧ x = j
/-- The events of positions. -/
def evsOf (F : List (List Int)) (Q : List Int) : List Int := Q.flatMap fun q => F.getD q.toNat []
theorem loop57_9 (g : Game) (hg : g.good) (n7 d c rr : Nat) (hc : 6 + g.owner.length ≤ c) (hd : c < d) (v : PV) (hvd : ∀ r ∈ v.refs, r < d ∧ r ≠ c) (R Q One : List Int) (F : List (List Int)) (hF : FromOK g.owner.length F) (hQ : ∀ x ∈ Q, ∃ j : Nat, j < g.owner.length ∧ x = j) (hQl : Q.length ≤ 900000) : ∀ (m at0 : Nat), at0 + m = Q.length → ∀ (S : Store) (O L : List Int) (lo : Int), RS g S v R O F Q → At S c One → At S d L → d + 1 ≤ S.length → L.length + m * 400 ≤ 2000000 → Bnd lo O → -1000000000 ≤ lo - m * 400 →
    ∃ S', RS g S' v R ((evsOf F (Q.drop at0)).foldl (Rk.ev g.toG R) (O, L)).1 F Q ∧ At S' c One ∧ At S' d ((evsOf F (Q.drop at0)).foldl (Rk.ev g.toG R) (O, L)).2 ∧ d + 1 ≤ S'.length ∧ Bnd (lo - m * 400) ((evsOf F (Q.drop at0)).foldl (Rk.ev g.toG R) (O, L)).1 ∧ ((evsOf F (Q.drop at0)).foldl (Rk.ev g.toG R) (O, L)).2.length ≤ L.length + m * 400 ∧ ∀ z, F57.k56 0 n7 .normal (F57.ee24 (.mp 0 0 0) (.mp 3 0 0) (.msl 2 0 g.owner.length true) (.msl 4 0 g.owner.length true) (.mp 5 0 0) (.fn 83 [] [.mp 3 0 0, .mp 5 0 0]) (.msl c 0 One.length false) (.int .i64 Q.length) (.int .i64 rr) .undef (.msl d 0 ((evsOf F (Q.drop at0)).foldl (Rk.ev g.toG R) (O, L)).2.length false) .undef) S' = some z →
      F57.L9 0 n7 (d + 1) (.mp 0 0 0) (.mp 3 0 0) (.msl 2 0 g.owner.length true) (.msl 4 0 g.owner.length true) (.mp 5 0 0) (.fn 83 [] [.mp 3 0 0, .mp 5 0 0]) (.msl c 0 One.length false) (.int .i64 at0) (.int .i64 rr) (.int .i64 Q.length) (.msl d 0 L.length false) S = some z := by
  have hN := hg.n
  have hm4 : (1000000 : Nat) ≤ maxLen := by decide
  intro m
  induction m with
  | zero =>
    intro at0 hk S O L lo h ho hdl hS hL hB hlo
    have c1 : ¬ (at0 : Int) < (Q.length : Int) := by omega
    obtain rfl : at0 = Q.length := by omega
    have e0 : Q.drop Q.length = [] := List.drop_of_length_le (by omega)
    rw [e0]
    simp only [evsOf, List.flatMap_nil, List.foldl_nil]
    let eA : Env := F57.ee24 (.mp 0 0 0) (.mp 3 0 0) (.msl 2 0 g.owner.length true) (.msl 4 0 g.owner.length true) (.mp 5 0 0) (.fn 83 [] [.mp 3 0 0, .mp 5 0 0]) (.msl c 0 One.length false) (.int .i64 Q.length) (.int .i64 rr) .undef (.msl d 0 L.length false) .undef
    refine ⟨_, h.gc (n := d + 1) eA (by omega) hS, ho.gc eA (by omega) hS, hdl.gc eA (by omega) hS, (gc_at hS).1, by simpa using hB, by simp, fun z hz => F57.L9_step ?_⟩
    have s1 : ∀ K : KT, execL (F57.C 0) 9 F57.c130 K (F57.ee21 (.mp 0 0 0) (.mp 3 0 0) (.msl 2 0 g.owner.length true) (.msl 4 0 g.owner.length true) (.mp 5 0 0) (.fn 83 [] [.mp 3 0 0, .mp 5 0 0]) (.msl c 0 One.length false) (.int .i64 Q.length) (.int .i64 rr) (.int .i64 Q.length) (.msl d 0 L.length false)) S = K .normal (F57.ee24 (.mp 0 0 0) (.mp 3 0 0) (.msl 2 0 g.owner.length true) (.msl 4 0 g.owner.length true) (.mp 5 0 0) (.fn 83 [] [.mp 3 0 0, .mp 5 0 0]) (.msl c 0 One.length false) (.int .i64 Q.length) (.int .i64 rr) (.int .i64 Q.length) (.msl d 0 L.length false) (.bool false)) S := fun K => by
      simp only [go_sem, ↓reduceIte, Nat.reduceEqDiff, Nat.reduceBEq, Nat.reduceAdd, Nat.reduceMul, Nat.reduceSub, Nat.reduceLT, Nat.reduceLeDiff, reduceCtorEq, Int.reduceToNat, Int.reduceLE, Int.reduceLT, Int.reduceEq, withV_any, c1]
    simp only [F57.B9_eq, s1, F57.k132_n, condC_false, F57.k77_exit, F57.k70_x1, F57.k67_exit, if_true]
    exact hz
  | succ m hm =>
    intro at0 hk S O L lo h ho hdl hS hL hB hlo
    have c1 : (at0 : Int) < (Q.length : Int) := by omega
    have hkl : at0 < Q.length := by omega
    obtain ⟨q, hq, eq⟩ := hQ (Q.getD at0 0) (by simp [List.getD_eq_getElem?_getD, hkl])
    have ed : Q.drop at0 = (q : Int) :: Q.drop (at0 + 1) := by
      rw [List.drop_eq_getElem_cons hkl]
      simp only [List.getD_eq_getElem?_getD, List.getElem?_eq_getElem hkl, Option.getD_some] at eq
      rw [eq]
    have ev1 : evsOf F (Q.drop at0) = F.getD q [] ++ evsOf F (Q.drop (at0 + 1)) := by
      rw [ed]
      simp only [evsOf, List.flatMap_cons, Int.toNat_natCast]
    obtain ⟨f1, f2⟩ := hF q hq
    have hlF := h.lF
    obtain ⟨ad, a1, a2⟩ := h.q.ints.load hkl
    rw [eq] at a2
    have r4 := rowsAt_of h.p4
    have r5 := rowsAt_of h.p5
    have x4 := idx23m (ex := true) q r4 (by rw [fromRows_length]; exact hlF) (fromRows_ok F) hq
    have hqF : q < F.length := by omega
    have fg := fromRows_get F q hqF
    have hlen := ((h.at6 hq).ints (ex := false)).len
    obtain ⟨S1, b1, b2, b3, b4, b5, b6, b7⟩ := loop57_11 g hg n7 d c at0 q rr Q.length (by omega) hq hc hd v hvd R Q One F _ rfl f1 f2 S.length (by omega) (F.getD q []).length 0 (by omega) S O L lo h ho hdl (Nat.le_refl _) (by omega) hB (by omega)
    rw [List.drop_zero] at b1 b3 b5 b6 b7
    rw [ev1, List.foldl_append]
    generalize es : (F.getD q []).foldl (Rk.ev g.toG R) (O, L) = s1 at *
    obtain ⟨O1, L1⟩ := s1
    simp only at b1 b3 b5 b6 b7
    obtain ⟨S', d1, d2, d3, d4, d5, d6, d7⟩ := hm (at0 + 1) (by omega) S1 O1 L1 (lo - 400) b1 b2 b3 b4 (by omega) (fun t => by have := b5 t; omega) (by omega)
    refine ⟨S', d1, d2, d3, d4, fun t => by have := d5 t; omega, by omega, fun z hz => F57.L9_step ?_⟩
    have s1' : ∀ K : KT, execL (F57.C 0) 9 F57.c130 K (F57.ee21 (.mp 0 0 0) (.mp 3 0 0) (.msl 2 0 g.owner.length true) (.msl 4 0 g.owner.length true) (.mp 5 0 0) (.fn 83 [] [.mp 3 0 0, .mp 5 0 0]) (.msl c 0 One.length false) (.int .i64 at0) (.int .i64 rr) (.int .i64 Q.length) (.msl d 0 L.length false)) S = K .normal (F57.ee24 (.mp 0 0 0) (.mp 3 0 0) (.msl 2 0 g.owner.length true) (.msl 4 0 g.owner.length true) (.mp 5 0 0) (.fn 83 [] [.mp 3 0 0, .mp 5 0 0]) (.msl c 0 One.length false) (.int .i64 at0) (.int .i64 rr) (.int .i64 Q.length) (.msl d 0 L.length false) (.bool true)) S := fun K => by
      simp only [go_sem, ↓reduceIte, Nat.reduceEqDiff, Nat.reduceBEq, Nat.reduceAdd, Nat.reduceMul, Nat.reduceSub, Nat.reduceLT, Nat.reduceLeDiff, reduceCtorEq, Int.reduceToNat, Int.reduceLE, Int.reduceLT, Int.reduceEq, withV_any, c1]
    have s2 : ∀ K : KT, execL (F57.C 0) 10 F57.c80 K (F57.ee24 (.mp 0 0 0) (.mp 3 0 0) (.msl 2 0 g.owner.length true) (.msl 4 0 g.owner.length true) (.mp 5 0 0) (.fn 83 [] [.mp 3 0 0, .mp 5 0 0]) (.msl c 0 One.length false) (.int .i64 at0) (.int .i64 rr) (.int .i64 Q.length) (.msl d 0 L.length false) (.bool true)) S = K .normal (F57.ee25 (.mp 0 0 0) (.mp 3 0 0) (.msl 2 0 g.owner.length true) (.msl 4 0 g.owner.length true) (.mp 5 0 0) (.fn 83 [] [.mp 3 0 0, .mp 5 0 0]) (.msl c 0 One.length false) (.int .i64 at0) (.int .i64 rr) (.int .i64 Q.length) (.msl d 0 L.length false) (.msl (6 + q) 0 (F.getD q []).length false) (.int .i64 (F.getD q []).length) (.int .i64 (0 : Nat))) S := fun K => by
      simp only [go_sem, ↓reduceIte, Nat.reduceEqDiff, Nat.reduceBEq, Nat.reduceAdd, Nat.reduceMul, Nat.reduceSub, Nat.reduceLT, Nat.reduceLeDiff, reduceCtorEq, Int.reduceToNat, Int.reduceLE, Int.reduceLT, Int.reduceEq, withV_any, r5, a1, a2, x4, r4, fromRows_length, hqF, fg, hlen, Int.natCast_zero]
    simp only [F57.B9_eq, s1', F57.k132_n, condC_true, F57.k77_n, s2, F57.k82_n]
    exact b7 z (d7 z hz)
end Go.Vs
end

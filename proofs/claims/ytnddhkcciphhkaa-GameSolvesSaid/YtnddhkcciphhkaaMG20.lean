/- game.Ranks and the reference's: what they return. -/

import Derived.Test.YtnddhkcciphhkaaMG19
section
set_option linter.unusedVariables false
set_option linter.unusedSimpArgs false
namespace Go.Vs
open Go Go.Proofs
/-- The ranks. -/
def Game.ranks (g : Game) : List Int := Rk.lvl g.toG (g.owner.length + 1)
def Game.ranksRes (g : Game) : PV := if g.check = 0 then .tup [.sl (intRows g.ranks) false, .int .i64 0] else .tup [.sl [] true, .int .i64 g.check]
theorem call15 (g : Game) (hg : g.ok) : callL Try.prog hints 15 [.agg g.cells] = some g.ranksRes := by
  have c1 := fun S => callG S (call17 g hg)
  unfold Game.ranksRes
  by_cases h : g.check = 0
  · have c2 := fun S => callG S (call57 g (good_of h))
    rw [if_pos h]
    refine F15.call (r := (.tup [.sl (intRows g.ranks) false, .int .i64 0], [.arr [g.cells] none false])) ?_ ?_
    · simp only [go_sem, ↓reduceIte, Nat.reduceEqDiff, Nat.reduceBEq, Nat.reduceAdd, Nat.reduceMul, Nat.reduceSub, Nat.reduceLT, Nat.reduceLeDiff, reduceCtorEq, Int.reduceToNat, Int.reduceLE, Int.reduceLT, Int.reduceEq, withV_any, c1, h, c2, Game.ranks]
    · show (mapO (fzPV1 _) [.sl (intRows g.ranks) false, .int .i64 0]).map PV.tup = _
      have e : fzPV1 [.arr [g.cells] none false] (.sl (intRows g.ranks) false) = some (.sl (intRows g.ranks) false) := fzPV_sl _ _
      simp only [mapO, e, Option.bind_some]
      rfl
  · rw [if_neg h]
    refine F15.call (r := (.tup [.sl [] true, .int .i64 g.check], [.arr [g.cells] none false])) ?_ rfl
    simp only [go_sem, ↓reduceIte, Nat.reduceEqDiff, Nat.reduceBEq, Nat.reduceAdd, Nat.reduceMul, Nat.reduceSub, Nat.reduceLT, Nat.reduceLeDiff, reduceCtorEq, Int.reduceToNat, Int.reduceLE, Int.reduceLT, Int.reduceEq, withV_any, c1, h, decide_false, Bool.not_false]
theorem call16 (g : Game) (hg : g.ok) : callL Try.prog hints 16 [.agg g.cells] = some g.ranksRes := by
  have c1 := fun S => callG S (call18 g hg)
  unfold Game.ranksRes
  by_cases h : g.check = 0
  · have c2 := fun S => callG S (call58 g (good_of h))
    rw [if_pos h]
    refine F16.call (r := (.tup [.sl (intRows g.ranks) false, .int .i64 0], [.arr [g.cells] none false])) ?_ ?_
    · simp only [go_sem, ↓reduceIte, Nat.reduceEqDiff, Nat.reduceBEq, Nat.reduceAdd, Nat.reduceMul, Nat.reduceSub, Nat.reduceLT, Nat.reduceLeDiff, reduceCtorEq, Int.reduceToNat, Int.reduceLE, Int.reduceLT, Int.reduceEq, withV_any, c1, h, c2, Game.ranks]
    · show (mapO (fzPV1 _) [.sl (intRows g.ranks) false, .int .i64 0]).map PV.tup = _
      have e : fzPV1 [.arr [g.cells] none false] (.sl (intRows g.ranks) false) = some (.sl (intRows g.ranks) false) := fzPV_sl _ _
      simp only [mapO, e, Option.bind_some]
      rfl
  · rw [if_neg h]
    refine F16.call (r := (.tup [.sl [] true, .int .i64 g.check], [.arr [g.cells] none false])) ?_ rfl
    simp only [go_sem, ↓reduceIte, Nat.reduceEqDiff, Nat.reduceBEq, Nat.reduceAdd, Nat.reduceMul, Nat.reduceSub, Nat.reduceLT, Nat.reduceLeDiff, reduceCtorEq, Int.reduceToNat, Int.reduceLE, Int.reduceLT, Int.reduceEq, withV_any, c1, h, decide_false, Bool.not_false]
end Go.Vs
end
/- game.Wins: what it returns. -/
section
set_option linter.unusedVariables false
set_option linter.unusedSimpArgs false
namespace Go.Vs
open Go Go.Proofs
theorem bytes4 : (tyi Try.prog 4).bytes = 1 := by kernel_rfl
theorem zeroOK4 : zeroOK (tyi Try.prog 4) = true := by kernel_rfl
@[go_sem] theorem buildSlice24 (id n : Nat) (is : List Nat) (rows : List (List PV)) : buildSliceO Try.prog 24 id n is rows = if is = List.range n ∧ rowsOK 1 rows = true ∧ (rows.all fun r => r.all PV.cell) = true ∧ n * 1 ≤ 16777216 then some { v := .msl id 0 n true, new := some (rows, some (some 1)) } else none := by
  have e : (tyi Try.prog 4).zero.isSome = true := by kernel_rfl
  simp [buildSliceO, d24, size4, e]
theorem boolRows_ok (l : List Bool) : rowsOK 1 (boolRows l) = true := by simp [rowsOK, boolRows]
theorem boolRows_refs (l : List Bool) : rowsRefs (boolRows l) = [] := by
  induction l with
  | nil => rfl
  | cons a l ih => simp only [boolRows, List.map_cons, rowsRefs_cons] at ih ⊢; rw [ih]; rfl
theorem boolRows_append (a b : List Bool) : boolRows (a ++ b) = boolRows a ++ boolRows b := by simp [boolRows]
/-- A list of bools that is appended to. -/
inductive BoolO (S : Store) : PV → List Bool → Prop
  | nil : BoolO S (.sl [] true) []
  | arr (id : Nat) (L : List Bool) (g : Option Nat) (hg : g = none ∨ g = some 1) (h : S[id]? = some (.arr (boolRows L) (some g) false)) (h0 : L ≠ []) : BoolO S (.msl id 0 L.length false) L
theorem appendBool {S : Store} {v : PV} {L : List Bool} (x : Bool) (h : BoolO S v L) (hv : ∀ r ∈ v.refs, 1 ≤ r) (hS : 1 ≤ S.length) (hn : L.length ≤ 2000000) :
    ∃ v' S' ks, appendE Try.prog 0 24 24 (S ++ [.arr [[.bool x]] (some (some 1)) false]) v (.msl S.length 0 1 true) = some { v := v', S := S', kill := ks } ∧ BoolO S' v' (L ++ [x]) ∧ (∃ r, r ∈ v'.refs ∧ 1 ≤ r) ∧ (∀ r ∈ v'.refs, 1 ≤ r) ∧ 1 ≤ S'.length := by
  have hy : rowsIn (S ++ [Obj.arr [[.bool x]] (some (some 1)) false]) (.msl S.length 0 1 true) = some (boolRows [x]) := by
    rw [rowsIn_msl, rowsAt_of (S := S ++ [Obj.arr [[.bool x]] (some (some 1)) false]) (id := S.length) (rows := [[.bool x]]) (g := some (some 1)) (f := false) (by simp)]
    rfl
  cases h with
  | nil =>
    refine ⟨.msl (S.length + 1) 0 1 false, (S ++ [.arr [[.bool x]] (some (some 1)) false]) ++ [.arr (boolRows [x]) (some (some 1)) false], [], ?_, .arr (S.length + 1) [x] (some 1) (.inr rfl) (by rw [List.getElem?_append_right (by simp)]; simp) (by simp), ⟨S.length + 1, by simp [PV.refs], by omega⟩, by intro r hr; simp only [PV.refs, List.mem_singleton] at hr; omega, by simp⟩
    have e5 : evAppendNew 1 1 (S ++ [Obj.arr [[.bool x]] (some (some 1)) false]) (S ++ [Obj.arr [[.bool x]] (some (some 1)) false]).length (.sl [] true) (.msl S.length 0 1 true) = some { v := .msl (S.length + 1) 0 1 false, new := some (boolRows [x], some (some 1)) } := by
      have e6 : Vs.rowsIn (S ++ [Obj.arr [[.bool x]] (some (some 1)) false]) (.sl [] true) = some [] := rfl
      have e7 : exact (.sl [] true) = true := rfl
      simp only [evAppendNew, e7, if_true, e6, hy, Option.bind_some]
      rw [if_pos ⟨rfl, boolRows_ok [x], by simp [boolRows], by simp [boolRows]⟩, if_neg (by simp [boolRows])]
      simp [boolRows]
    simp only [appendE, exact, if_true, appendN, d24, zeroOK4, bytes4, size4, e5, Option.map_some, place]
  | arr id L g hg h h0 =>
    have hid := (List.getElem?_eq_some_iff.1 h).1
    have h1 := hv id (by simp [PV.refs])
    have h' : (S ++ [Obj.arr [[.bool x]] (some (some 1)) false])[id]? = some (.arr (boolRows L) (some g) false) := by rw [List.getElem?_append_left hid]; exact h
    have hk := append_known (ex := false) (esz := 1) (bytes := 1) h' hy (Nat.zero_le id) (boolRows_length L).symm hg (boolRows_ok L) (boolRows_ok [x]) (by simp only [boolRows_length, List.length_cons, List.length_nil]; omega) (by simp only [boolRows_length, List.length_cons, List.length_nil]; omega) (by rw [boolRows_refs, boolRows_refs]; rfl)
    have hl1 : (boolRows L).length + (boolRows [x]).length = (L ++ [x]).length := by simp [boolRows_length]
    rw [hl1, ← boolRows_append] at hk
    have e1 : ∀ y : PV, appendE Try.prog 0 24 24 (S ++ [Obj.arr [[.bool x]] (some (some 1)) false]) (.msl id 0 L.length false) y = evAppend 0 1 1 (S ++ [Obj.arr [[.bool x]] (some (some 1)) false]) (.msl id 0 L.length false) y := fun y => by
      simp only [appendE, exact, Bool.false_eq_true, if_false, d24, zeroOK4, if_true, bytes4, size4]
    exact ⟨_, _, [id], by rw [e1, hk], .arr id (L ++ [x]) (some 1) (.inr rfl) (by rw [List.getElem?_set_self (by simp; omega)]) (by simp), ⟨id, by simp [PV.refs], h1⟩, by intro r hr; simp only [PV.refs, List.mem_singleton] at hr; omega, by simp⟩
/-- Does the player win where the rank is this? -/
def winB (p r : Int) : Bool := decide (0 ≤ r) == decide (p = 0)
theorem loop20 (p : Int) (R : List Int) (hR : R.length ≤ 2000000) : ∀ (m i : Nat), i + m = R.length → ∀ (S : Store) (v : PV) (L : List Bool), BoolO S v L → (∀ r ∈ v.refs, 1 ≤ r) → 1 ≤ S.length → L.length + m ≤ 2000000 →
    ∃ v' S', F20.L0 0 1 (.int .i64 p) v (.sl (intRows R) false) (.int .i64 R.length) (.int .i64 i) S = some (.tup [v', .int .i64 0], S') ∧ BoolO S' v' (L ++ (R.drop i).map (winB p)) := by
  have hm4 : (2000000 : Nat) ≤ maxLen := by decide
  have gcO : ∀ (e : Env) (S : Store) (v : PV) (L : List Bool), (∃ t, (t, v) ∈ e) → BoolO S v L → (∀ r ∈ v.refs, 1 ≤ r) → BoolO (Vs.gc 1 e S) v L := fun e S v L he h hv => by
    cases h with
    | nil => exact .nil
    | arr id L g hg h h0 =>
      obtain ⟨t, ht⟩ := he
      rw [gc_no ht (r := id) (by simp [PV.refs]) (hv id (by simp [PV.refs]))]
      exact .arr id L g hg h h0
  intro m
  induction m with
  | zero =>
    intro i hi S v L h hv hS hL
    have c1 : ¬ (i : Int) < (R.length : Int) := by omega
    rw [List.drop_of_length_le (by omega), List.map_nil, List.append_nil]
    refine ⟨v, Vs.gc 1 (F20.ee7 .undef v .undef .undef .undef .undef) S, F20.L0_step ?_, gcO _ S v L ⟨7, by simp [F20.ee7]⟩ h hv⟩
    have s1 : ∀ (K : KT), execL (F20.C 0) 0 F20.c25 K (F20.ee6 (.int .i64 p) v (.sl (intRows R) false) (.int .i64 R.length) (.int .i64 i)) S = K .normal (F20.ee7 (.int .i64 p) v (.sl (intRows R) false) (.int .i64 R.length) (.int .i64 i) (.bool false)) S := fun K => by
      simp only [go_sem, ↓reduceIte, Nat.reduceEqDiff, Nat.reduceBEq, Nat.reduceAdd, Nat.reduceMul, Nat.reduceSub, Nat.reduceLT, Nat.reduceLeDiff, reduceCtorEq, Int.reduceToNat, Int.reduceLE, Int.reduceLT, Int.reduceEq, c1]
    simp only [F20.B0_eq, s1, F20.k41_n, condC_false, F20.k33_exit, F20.k24_x1, F20.k21_exit, if_true, F20.k14_n, F20.g15, withV_any, F20.k13_n, F20.k0_ret8]
  | succ m hm =>
    intro i hi S v L h hv hS hL
    have c1 : (i : Int) < (R.length : Int) := by omega
    have hiR : i < R.length := by omega
    have w1 := wrap_succ (i := i) (n := R.length) hiR (by omega)
    have h5 : 0 ≤ (i : Int) ∧ (i : Int) < (R.length : Int) := ⟨by omega, c1⟩
    have ed : R.drop i = R.getD i 0 :: R.drop (i + 1) := by
      rw [List.drop_eq_getElem_cons hiR]
      simp [List.getD_eq_getElem?_getD, hiR]
    obtain ⟨v1, S1, ks, p1, p2, ⟨r, p3, p4⟩, p5, p6⟩ := appendBool (winB p (R.getD i 0)) h hv hS (by omega)
    have e1 : Vs.gc 1 (F20.ee6 (.int .i64 p) v1 (.sl (intRows R) false) (.int .i64 R.length) (.int .i64 (i + 1 : Nat))) S1 = S1 := gc_no (t := 7) (v := v1) (by simp [F20.ee6]) p3 p4
    obtain ⟨v', S', q1, q2⟩ := hm (i + 1) (by omega) S1 v1 (L ++ [winB p (R.getD i 0)]) p2 p5 p6 (by simp; omega)
    refine ⟨v', S', F20.L0_step ?_, by rw [ed, List.map_cons]; simpa using q2⟩
    have s1 : ∀ (K : KT), execL (F20.C 0) 0 F20.c25 K (F20.ee6 (.int .i64 p) v (.sl (intRows R) false) (.int .i64 R.length) (.int .i64 i)) S = K .normal (F20.ee7 (.int .i64 p) v (.sl (intRows R) false) (.int .i64 R.length) (.int .i64 i) (.bool true)) S := fun K => by
      simp only [go_sem, ↓reduceIte, Nat.reduceEqDiff, Nat.reduceBEq, Nat.reduceAdd, Nat.reduceMul, Nat.reduceSub, Nat.reduceLT, Nat.reduceLeDiff, reduceCtorEq, Int.reduceToNat, Int.reduceLE, Int.reduceLT, Int.reduceEq, c1]
    have s2 : ∀ (K : KT), execL (F20.C 0) 1 F20.c36 K (F20.ee7 (.int .i64 p) v (.sl (intRows R) false) (.int .i64 R.length) (.int .i64 i) (.bool true)) S = K .normal (F20.ee5 (.int .i64 p) v (.int .i64 (R.getD i 0)) (.sl (intRows R) false) (.int .i64 R.length) (.int .i64 i)) S := fun K => by
      simp only [go_sem, ↓reduceIte, Nat.reduceEqDiff, Nat.reduceBEq, Nat.reduceAdd, Nat.reduceMul, Nat.reduceSub, Nat.reduceLT, Nat.reduceLeDiff, reduceCtorEq, Int.reduceToNat, Int.reduceLE, Int.reduceLT, Int.reduceEq, withV_any, h5, Int.toNat_natCast]
    have ki : ∀ z : Int, kill1 ks (.int .i64 z) = .int .i64 z := fun z => rfl
    have kl : kill1 ks (.sl (intRows R) false) = .sl (intRows R) false := rfl
    have s3 : ∀ (K : KT), execL (F20.C 0) 1 F20.c37 K (F20.ee5 (.int .i64 p) v (.int .i64 (R.getD i 0)) (.sl (intRows R) false) (.int .i64 R.length) (.int .i64 i)) S = K .normal (F20.ee6 (.int .i64 p) v1 (.sl (intRows R) false) (.int .i64 R.length) (.int .i64 i)) S1 := fun K => by
      by_cases a1 : 0 ≤ R.getD i 0 <;> by_cases a2 : p = 0 <;> simp only [winB, a1, a2, decide_true, decide_false, beq_self_eq_true] at p1 <;> simp only [go_sem, ↓reduceIte, Nat.reduceEqDiff, Nat.reduceBEq, Nat.reduceAdd, Nat.reduceMul, Nat.reduceSub, Nat.reduceLT, Nat.reduceLeDiff, reduceCtorEq, Int.reduceToNat, Int.reduceLE, Int.reduceLT, Int.reduceEq, withV_any, a1, a2, p1, get_put, get_killE, ki, kl]
    have s4 : ∀ (K : KT), execL (F20.C 0) 0 F20.c30 K (F20.ee6 (.int .i64 p) v1 (.sl (intRows R) false) (.int .i64 R.length) (.int .i64 i)) S1 = K .normal (F20.ee6 (.int .i64 p) v1 (.sl (intRows R) false) (.int .i64 R.length) (.int .i64 (i + 1 : Nat))) S1 := fun K => by
      simp only [go_sem, ↓reduceIte, Nat.reduceEqDiff, Nat.reduceBEq, Nat.reduceAdd, Nat.reduceMul, Nat.reduceSub, Nat.reduceLT, Nat.reduceLeDiff, reduceCtorEq, Int.reduceToNat, Int.reduceLE, Int.reduceLT, Int.reduceEq, withV_any, w1]
    simp only [F20.B0_eq, s1, F20.k41_n, condC_true, F20.k33_n, s2, F20.k38_n, s3, F20.k35_n, F20.k31_n, s4, F20.k24_n, e1]
    exact q1
end Go.Vs
end
/- game.Wins, game.Safe and the reference's Wins: what they return. -/
section
set_option linter.unusedVariables false
set_option linter.unusedSimpArgs false
namespace Go.Vs
open Go Go.Proofs
theorem bools_fz {S : Store} {id : Nat} {ex : Bool} {L : List Bool} {g : Option (Option Nat)} {f : Bool} (h : S[id]? = some (.arr (boolRows L) g f)) (d : Nat) : fzCell S (d + 2) (.msl id 0 L.length ex) = some (.sl (boolRows L) false) := by
  have e0 : rowsAt S id = some (boolRows L) := by simp only [rowsAt, h]
  have e1 : Vs.rowsIn S (.msl id 0 L.length false) = some (boolRows L) := by
    rw [rowsIn_msl, e0]
    simp only [Option.bind_some, Nat.zero_add, boolRows_length, Nat.le_refl, if_true, List.drop_zero]
    rw [← boolRows_length L, List.take_length]
  have e2 : mapO (mapO (fzCell S (d + 1))) (boolRows L) = some (boolRows L) := by
    have := mapO_all (f := mapO (fzCell S (d + 1))) (g := fun x => x) (l := boolRows L) (fun a ha => by
      obtain ⟨w, _, rfl⟩ := List.mem_map.1 ha
      rfl)
    simpa using this
  show ((Vs.rowsIn S (.msl id 0 L.length false)).bind fun rows => (mapO (mapO (fzCell S (d + 1))) rows).map fun rows => PV.sl rows false) = _
  rw [e1]
  simp only [Option.bind_some, e2, Option.map_some]
/-- A list of bools as a value; nil only if it is empty. -/
def IsBools (v : PV) (l : List Bool) : Prop := ∃ ex, v = .sl (boolRows l) ex ∧ (ex = true → l = [])
theorem IsBools.plain {v : PV} {l : List Bool} (h : IsBools v l) : Plain v := by
  obtain ⟨ex, rfl, h2⟩ := h
  cases ex with
  | false => exact .sl _
  | true => rw [h2 rfl]; exact .nil
theorem BoolO.fz {S : Store} {v : PV} {L : List Bool} (h : BoolO S v L) : ∃ w, IsBools w L ∧ fzPV1 S v = some w := by
  cases h with
  | nil => exact ⟨.sl [] true, ⟨true, rfl, fun _ => rfl⟩, rfl⟩
  | arr id L g hg h h0 => exact ⟨.sl (boolRows L) false, ⟨false, rfl, fun h => by cases h⟩, bools_fz (ex := false) h 6⟩
theorem callGI {f : FuncId} {g : Game} {p : Int} {v : PV} (S : Store) (h : callL Try.prog hints f [.agg g.cells, .int .i64 p] = some v) : callO (callL Try.prog hints) S f [.agg g.cells, .int .i64 p] = some { v } := callO_plain h (by
  intro a ha
  rcases List.mem_cons.1 ha with rfl | ha
  · exact g.plain
  · rw [List.mem_singleton.1 ha]; exact ⟨rfl, fun _ => rfl⟩)
/-- Who wins where. -/
def Game.wins (g : Game) (p : Int) : List Bool := g.ranks.map (winB p)
def Game.winsErr (g : Game) (p : Int) : Int := if g.check = 0 then (if p = 0 ∨ p = 1 then 0 else 1) else g.check
theorem ranks_len (g : Game) : g.ranks.length = g.owner.length := by rw [Game.ranks, Rk.lvl_length]; rfl
/-- A result of Wins: the list if there is no error, nil otherwise. -/
def IsWins (g : Game) (p : Int) (v : PV) : Prop := ∃ w, v = .tup [w, .int .i64 (g.winsErr p)] ∧ (g.winsErr p = 0 → IsBools w (g.wins p)) ∧ (g.winsErr p ≠ 0 → w = .sl [] true)
theorem winsErr_ok {g : Game} {p : Int} (h : g.check = 0) (hp : p = 0 ∨ p = 1) : g.winsErr p = 0 := by unfold Game.winsErr; rw [if_pos h, if_pos hp]
theorem call20 (g : Game) (hg : g.ok) (p : Int) : ∃ v, IsWins g p v ∧ callL Try.prog hints 20 [.agg g.cells, .int .i64 p] = some v := by
  have c1 := fun S => callG S (call17 g hg)
  by_cases h : g.check = 0
  · by_cases hp : p = 0 ∨ p = 1
    · have hgood := good_of h
      have c2 := fun S => callG S (call57 g hgood)
      have hN := hgood.n
      have hrl := ranks_len g
      obtain ⟨v', S', a1, a2⟩ := loop20 p g.ranks (by omega) g.ranks.length 0 (by omega) [.arr [g.cells] none false] (.sl [] true) [] .nil (by intro r hr; cases hr) (by simp) (by simp; omega)
      rw [List.drop_zero, List.nil_append] at a2
      obtain ⟨w, b1, b2⟩ := a2.fz
      have e0 := winsErr_ok h hp
      refine ⟨.tup [w, .int .i64 (g.winsErr p)], ⟨w, rfl, fun _ => b1, fun hn => absurd e0 hn⟩, ?_⟩
      rw [e0]
      refine F20.call (r := (.tup [v', .int .i64 0], S')) ?_ ?_
      · simp only [Int.natCast_zero] at a1
        have c2' : ∀ S, callO (callL Try.prog hints) S 57 [.agg g.cells] = some { v := .sl (intRows g.ranks) false } := c2
        rcases hp with rfl | rfl
        · simp only [go_sem, ↓reduceIte, Nat.reduceEqDiff, Nat.reduceBEq, Nat.reduceAdd, Nat.reduceMul, Nat.reduceSub, Nat.reduceLT, Nat.reduceLeDiff, reduceCtorEq, Int.reduceToNat, Int.reduceLE, Int.reduceLT, Int.reduceEq, withV_any, c1, h, c2', a1]
        · simp only [go_sem, ↓reduceIte, Nat.reduceEqDiff, Nat.reduceBEq, Nat.reduceAdd, Nat.reduceMul, Nat.reduceSub, Nat.reduceLT, Nat.reduceLeDiff, reduceCtorEq, Int.reduceToNat, Int.reduceLE, Int.reduceLT, Int.reduceEq, withV_any, c1, h, c2', a1]
      · show (mapO (fzPV1 S') [v', .int .i64 0]).map PV.tup = _
        simp only [mapO, b2, Option.bind_some]
        rfl
    · have e0 : g.winsErr p = 1 := by unfold Game.winsErr; rw [if_pos h, if_neg hp]
      refine ⟨.tup [.sl [] true, .int .i64 (g.winsErr p)], ⟨.sl [] true, rfl, fun hn => by rw [e0] at hn; exact absurd hn (by decide), fun _ => rfl⟩, ?_⟩
      rw [e0]
      have h0 : ¬ p = 0 := fun e => hp (.inl e)
      have h1 : ¬ p = 1 := fun e => hp (.inr e)
      refine F20.call (r := (.tup [.sl [] true, .int .i64 1], [.arr [g.cells] none false])) ?_ rfl
      simp only [go_sem, ↓reduceIte, Nat.reduceEqDiff, Nat.reduceBEq, Nat.reduceAdd, Nat.reduceMul, Nat.reduceSub, Nat.reduceLT, Nat.reduceLeDiff, reduceCtorEq, Int.reduceToNat, Int.reduceLE, Int.reduceLT, Int.reduceEq, withV_any, c1, h, h0, h1, decide_false, Bool.not_false]
  · have e0 : g.winsErr p = g.check := by unfold Game.winsErr; rw [if_neg h]
    refine ⟨.tup [.sl [] true, .int .i64 (g.winsErr p)], ⟨.sl [] true, rfl, fun hn => absurd (e0 ▸ hn) h, fun _ => rfl⟩, ?_⟩
    rw [e0]
    refine F20.call (r := (.tup [.sl [] true, .int .i64 g.check], [.arr [g.cells] none false])) ?_ rfl
    simp only [go_sem, ↓reduceIte, Nat.reduceEqDiff, Nat.reduceBEq, Nat.reduceAdd, Nat.reduceMul, Nat.reduceSub, Nat.reduceLT, Nat.reduceLeDiff, reduceCtorEq, Int.reduceToNat, Int.reduceLE, Int.reduceLT, Int.reduceEq, withV_any, c1, h, decide_false, Bool.not_false]
theorem call23 (g : Game) (hg : g.ok) : ∃ v, IsWins g 1 v ∧ callL Try.prog hints 23 [.agg g.cells] = some v := by
  obtain ⟨v, hv, c⟩ := call20 g hg 1
  have c1 := fun S => callGI S c
  refine ⟨v, hv, ?_⟩
  obtain ⟨w, rfl, h1, h2⟩ := hv
  have hw : Plain w := by
    by_cases h : g.winsErr 1 = 0
    · exact (h1 h).plain
    · rw [h2 h]; exact .nil
  refine F23.call (r := (.tup [w, .int .i64 (g.winsErr 1)], [.arr [g.cells] none false])) ?_ ?_
  · simp only [go_sem, ↓reduceIte, Nat.reduceEqDiff, Nat.reduceBEq, Nat.reduceAdd, Nat.reduceMul, Nat.reduceSub, Nat.reduceLT, Nat.reduceLeDiff, reduceCtorEq, Int.reduceToNat, Int.reduceLE, Int.reduceLT, Int.reduceEq, withV_any, c1, extractO]
    rfl
  · show (mapO (fzPV1 _) [w, .int .i64 (g.winsErr 1)]).map PV.tup = _
    have e : fzPV1 [.arr [g.cells] none false] w = some w := by
      by_cases h : g.winsErr 1 = 0
      · obtain ⟨ex, rfl, hx⟩ := h1 h
        cases ex with
        | false => exact fzPV_sl _ _
        | true => rw [hx rfl]; rfl
      · rw [h2 h]; rfl
    simp only [mapO, e, Option.bind_some]
    rfl
end Go.Vs
end
/- The reference's Wins: what it returns. -/
section
set_option linter.unusedVariables false
set_option linter.unusedSimpArgs false
namespace Go.Vs
open Go Go.Proofs
theorem known4' : (tyi Try.prog 4).known = true := by kernel_rfl
def zbool (n : Nat) : List Bool := List.replicate n false
theorem makeSlice24 (id n : Nat) (h : n ≤ 2000000) : makeSliceO Try.prog 24 id (.int .i64 n) (.int .i64 n) = some { v := .msl id 0 n true, new := some (boolRows (zbool n), some (some 1)) } := by
  have e3 : (tyi Try.prog 4).zero = some [.bool false] := by kernel_rfl
  simp only [makeSliceO, d24, e3, Option.bind_some, bytes4, size4]
  rw [if_pos ⟨by omega, by omega, by omega, by omega, rfl, rfl⟩]
  simp [zbool, boolRows]
theorem idx24m {S : Store} {id n : Nat} {ex : Bool} {rows : List (List PV)} (i : Nat) (hS : rowsAt S id = some rows) (hl : rows.length = n) (h2 : rowsOK 1 rows = true) (hi : i < n) : indexAddrO Try.prog 24 S (.msl id 0 n ex) (.int .i64 i) = some (.mp id i 0) := by
  have e1 : elemTy (tyi Try.prog 24) = 4 := by simp [elemTy, d24]
  have e2 : isSlice (tyi Try.prog 24) = true := by simp [isSlice, d24]
  simp only [indexAddrO, e1, e2, known4', size4, and_self, if_true, evIndexAddr, hS, Option.bind_some]
  rw [if_pos ⟨by omega, by omega⟩, if_pos ⟨h2, by omega⟩, Nat.zero_add, Int.toNat_natCast]
theorem storeBool {S : Store} {id j : Nat} {L : List Bool} {g : Option (Option Nat)} (x : Bool) (h : S[id]? = some (.arr (boolRows L) g false)) (hj : j < L.length) : storeE (tyi Try.prog 4) S (.mp id j 0) (.bool x) = some { v := .skip, S := S.set id (.arr (boolRows (L.set j x)) g false) } := by
  have e : (boolRows L).set j [.bool x] = boolRows (L.set j x) := by simp [boolRows, List.map_set]
  rw [storeRow known4' size4 h (by rw [boolRows_length]; exact hj) (by simp [boolRows, List.getD_eq_getElem?_getD, hj]) rfl rfl, e]
def winF (p : Int) (R : List Int) : Nat → Nat → List Bool → List Bool
  | 0, _, L => L
  | m + 1, i, L => winF p R m (i + 1) (L.set i (winB p (R.getD i 0)))
theorem winF_len (p : Int) (R : List Int) : ∀ (m i : Nat) (L : List Bool), (winF p R m i L).length = L.length
  | 0, _, _ => rfl
  | m + 1, i, L => by rw [winF, winF_len p R m, List.length_set]
theorem winF_get (p : Int) (R : List Int) : ∀ (m i : Nat) (L : List Bool), i + m = L.length → ∀ j, j < L.length → (winF p R m i L).getD j false = if i ≤ j then winB p (R.getD j 0) else L.getD j false
  | 0, i, L, hi, j, hj => by rw [winF, if_neg (by omega)]
  | m + 1, i, L, hi, j, hj => by
    rw [winF, winF_get p R m (i + 1) _ (by rw [List.length_set]; omega) j (by rw [List.length_set]; exact hj)]
    by_cases e : i = j
    · subst e
      rw [if_neg (by omega), if_pos (Nat.le_refl _)]
      simp [List.getD_eq_getElem?_getD, hj]
    · have e2 : (L.set i (winB p (R.getD i 0))).getD j false = L.getD j false := by simp [List.getD_eq_getElem?_getD, List.getElem?_set_ne e]
      rw [e2]
      by_cases e3 : i ≤ j
      · rw [if_pos (by omega), if_pos e3]
      · rw [if_neg (by omega), if_neg e3]
theorem winF_all (p : Int) (R : List Int) : winF p R R.length 0 (zbool R.length) = R.map (winB p) := by
  have hz : (zbool R.length).length = R.length := by simp [zbool]
  apply List.ext_getElem (by rw [winF_len, hz]; simp)
  intro j h1 h2
  have hj : j < (zbool R.length).length := by rw [winF_len] at h1; exact h1
  have := winF_get p R R.length 0 (zbool R.length) (by rw [hz]; omega) j hj
  rw [if_pos (Nat.zero_le _), List.getD_eq_getElem?_getD, List.getElem?_eq_getElem h1, Option.getD_some] at this
  rw [this]
  rw [hz] at hj
  simp [List.getD_eq_getElem?_getD, hj]
theorem loop21 (g : Game) (p : Int) (R : List Int) (hR : R.length ≤ 2000000) : ∀ (m i : Nat), i + m = R.length → ∀ L : List Bool, L.length = R.length →
    F21.L0 0 2 (.int .i64 p) (.sl (intRows R) false) (.msl 1 0 R.length true) (.int .i64 i) [.arr [g.cells] none false, .arr (boolRows L) (some (some 1)) false] = some (.tup [.msl 1 0 R.length true, .int .i64 0], [.arr [g.cells] none false, .arr (boolRows (winF p R m i L)) (some (some 1)) false]) := by
  have hm4 : (2000000 : Nat) ≤ maxLen := by decide
  have full : ∀ (e : Env) (a b : Obj), Vs.gc 2 e [a, b] = [a, b] := fun e a b => gc_full e [a, b]
  intro m
  induction m with
  | zero =>
    intro i hi L hL
    have c1 : ¬ (i : Int) < (R.length : Int) := by omega
    refine F21.L0_step ?_
    have s1 : ∀ (K : KT) (S : Store), execL (F21.C 0) 0 F21.c37 K (F21.ee6 (.int .i64 p) (.sl (intRows R) false) (.msl 1 0 R.length true) (.int .i64 i)) S = K .normal (F21.ee7 (.int .i64 p) (.sl (intRows R) false) (.msl 1 0 R.length true) (.int .i64 i) (.bool false)) S := fun K S => by
      simp only [go_sem, ↓reduceIte, Nat.reduceEqDiff, Nat.reduceBEq, Nat.reduceAdd, Nat.reduceMul, Nat.reduceSub, Nat.reduceLT, Nat.reduceLeDiff, reduceCtorEq, Int.reduceToNat, Int.reduceLE, Int.reduceLT, Int.reduceEq, withV_any, c1]
    simp only [F21.B0_eq, s1, F21.k39_n, condC_false, F21.k33_exit, F21.k26_x1, full, F21.k23_exit, if_true, F21.k16_n, F21.g17, withV_any, F21.k15_n, F21.k0_ret8, winF]
  | succ m hm =>
    intro i hi L hL
    have c1 : (i : Int) < (R.length : Int) := by omega
    have w1 := wrap_succ (i := i) (n := R.length) (by omega) (by omega)
    have h5 : 0 ≤ (i : Int) ∧ (i : Int) < (R.length : Int) := ⟨by omega, c1⟩
    have p1 : ([.arr [g.cells] none false, .arr (boolRows L) (some (some 1)) false] : Store)[1]? = some (.arr (boolRows L) (some (some 1)) false) := rfl
    have x1 : indexAddrO Try.prog 24 [.arr [g.cells] none false, .arr (boolRows L) (some (some 1)) false] (.msl 1 0 R.length true) (.int .i64 i) = some (.mp 1 i 0) := idx24m i (rowsAt_of p1) (by rw [boolRows_length, hL]) (boolRows_ok L) (by omega)
    have st := storeBool (j := i) (winB p (R.getD i 0)) p1 (by omega)
    simp only [List.set_cons_succ, List.set_cons_zero] at st
    refine F21.L0_step ?_
    have s1 : ∀ (K : KT) (S : Store), execL (F21.C 0) 0 F21.c37 K (F21.ee6 (.int .i64 p) (.sl (intRows R) false) (.msl 1 0 R.length true) (.int .i64 i)) S = K .normal (F21.ee7 (.int .i64 p) (.sl (intRows R) false) (.msl 1 0 R.length true) (.int .i64 i) (.bool true)) S := fun K S => by
      simp only [go_sem, ↓reduceIte, Nat.reduceEqDiff, Nat.reduceBEq, Nat.reduceAdd, Nat.reduceMul, Nat.reduceSub, Nat.reduceLT, Nat.reduceLeDiff, reduceCtorEq, Int.reduceToNat, Int.reduceLE, Int.reduceLT, Int.reduceEq, withV_any, c1]
    have s2g : ∀ (K : KT) (S0 S1 : Store), indexAddrO Try.prog 24 S0 (.msl 1 0 R.length true) (.int .i64 i) = some (.mp 1 i 0) → storeE (tyi Try.prog 4) S0 (.mp 1 i 0) (.bool (winB p (R.getD i 0))) = some { v := .skip, S := S1 } → execL (F21.C 0) 1 F21.c34 K (F21.ee7 (.int .i64 p) (.sl (intRows R) false) (.msl 1 0 R.length true) (.int .i64 i) (.bool true)) S0 = K .normal (F21.ee6 (.int .i64 p) (.sl (intRows R) false) (.msl 1 0 R.length true) (.int .i64 i)) S1 := fun K S0 S1 hx hs => by
      simp only [storeE_eq, known4', if_true, size4] at hs
      by_cases a1 : 0 ≤ R.getD i 0 <;> by_cases a2 : p = 0 <;> simp only [winB, a1, a2, decide_true, decide_false, beq_self_eq_true] at hs <;> simp only [go_sem, ↓reduceIte, Nat.reduceEqDiff, Nat.reduceBEq, Nat.reduceAdd, Nat.reduceMul, Nat.reduceSub, Nat.reduceLT, Nat.reduceLeDiff, reduceCtorEq, Int.reduceToNat, Int.reduceLE, Int.reduceLT, Int.reduceEq, withV_any, h5, Int.toNat_natCast, a1, a2, hx, hs, known4', size4]
    have s3 : ∀ (K : KT) (S : Store), execL (F21.C 0) 0 F21.c30 K (F21.ee6 (.int .i64 p) (.sl (intRows R) false) (.msl 1 0 R.length true) (.int .i64 i)) S = K .normal (F21.ee6 (.int .i64 p) (.sl (intRows R) false) (.msl 1 0 R.length true) (.int .i64 (i + 1 : Nat))) S := fun K S => by
      simp only [go_sem, ↓reduceIte, Nat.reduceEqDiff, Nat.reduceBEq, Nat.reduceAdd, Nat.reduceMul, Nat.reduceSub, Nat.reduceLT, Nat.reduceLeDiff, reduceCtorEq, Int.reduceToNat, Int.reduceLE, Int.reduceLT, Int.reduceEq, withV_any, w1]
    have s2 := fun K : KT => s2g K _ _ x1 st
    simp only [F21.B0_eq, s1, F21.k39_n, condC_true, F21.k33_n, s2, F21.k35_n, F21.k31_n, s3, F21.k26_n, full, winF]
    exact hm (i + 1) (by omega) _ (by rw [List.length_set]; exact hL)
theorem call21 (g : Game) (hg : g.ok) (p : Int) : ∃ v, IsWins g p v ∧ callL Try.prog hints 21 [.agg g.cells, .int .i64 p] = some v := by
  have c1 := fun S => callG S (call18 g hg)
  by_cases h : g.check = 0
  · by_cases hp : p = 0 ∨ p = 1
    · have hgood := good_of h
      have hN := hgood.n
      have hrl := ranks_len g
      have c2' : ∀ S, callO (callL Try.prog hints) S 58 [.agg g.cells] = some { v := .sl (intRows g.ranks) false } := fun S => callG S (call58 g hgood)
      have a1 := loop21 g p g.ranks (by omega) g.ranks.length 0 (by omega) (zbool g.ranks.length) (by simp [zbool])
      rw [winF_all] at a1
      have m2 := fun id => makeSlice24 id g.ranks.length (by omega)
      have e0 := winsErr_ok h hp
      refine ⟨.tup [.sl (boolRows (g.wins p)) false, .int .i64 (g.winsErr p)], ⟨_, rfl, fun _ => ⟨false, rfl, fun h => by cases h⟩, fun hn => absurd e0 hn⟩, ?_⟩
      rw [e0]
      refine F21.call (r := (.tup [.msl 1 0 g.ranks.length true, .int .i64 0], [.arr [g.cells] none false, .arr (boolRows (g.wins p)) (some (some 1)) false])) ?_ ?_
      · simp only [Int.natCast_zero] at a1
        have a1' : F21.L0 0 2 (.int .i64 p) (.sl (intRows g.ranks) false) (.msl 1 0 g.ranks.length true) (.int .i64 0) [.arr [g.cells] none false, .arr (boolRows (zbool g.ranks.length)) (some (some 1)) false] = some (.tup [.msl 1 0 g.ranks.length true, .int .i64 0], [.arr [g.cells] none false, .arr (boolRows (g.wins p)) (some (some 1)) false]) := a1
        rcases hp with rfl | rfl
        · simp only [go_sem, ↓reduceIte, Nat.reduceEqDiff, Nat.reduceBEq, Nat.reduceAdd, Nat.reduceMul, Nat.reduceSub, Nat.reduceLT, Nat.reduceLeDiff, reduceCtorEq, Int.reduceToNat, Int.reduceLE, Int.reduceLT, Int.reduceEq, withV_any, c1, h, c2', m2, a1']
        · simp only [go_sem, ↓reduceIte, Nat.reduceEqDiff, Nat.reduceBEq, Nat.reduceAdd, Nat.reduceMul, Nat.reduceSub, Nat.reduceLT, Nat.reduceLeDiff, reduceCtorEq, Int.reduceToNat, Int.reduceLE, Int.reduceLT, Int.reduceEq, withV_any, c1, h, c2', m2, a1']
      · show (mapO (fzPV1 _) [.msl 1 0 g.ranks.length true, .int .i64 0]).map PV.tup = _
        have hl : (g.wins p).length = g.ranks.length := by simp [Game.wins]
        have e : fzPV1 [.arr [g.cells] none false, .arr (boolRows (g.wins p)) (some (some 1)) false] (.msl 1 0 g.ranks.length true) = some (.sl (boolRows (g.wins p)) false) := by
          rw [← hl]
          exact bools_fz (ex := true) (g := some (some 1)) (f := false) rfl 6
        simp only [mapO, e, Option.bind_some]
        rfl
    · have e0 : g.winsErr p = 1 := by unfold Game.winsErr; rw [if_pos h, if_neg hp]
      refine ⟨.tup [.sl [] true, .int .i64 (g.winsErr p)], ⟨.sl [] true, rfl, fun hn => by rw [e0] at hn; exact absurd hn (by decide), fun _ => rfl⟩, ?_⟩
      rw [e0]
      have h0 : ¬ p = 0 := fun e => hp (.inl e)
      have h1 : ¬ p = 1 := fun e => hp (.inr e)
      refine F21.call (r := (.tup [.sl [] true, .int .i64 1], [.arr [g.cells] none false])) ?_ rfl
      simp only [go_sem, ↓reduceIte, Nat.reduceEqDiff, Nat.reduceBEq, Nat.reduceAdd, Nat.reduceMul, Nat.reduceSub, Nat.reduceLT, Nat.reduceLeDiff, reduceCtorEq, Int.reduceToNat, Int.reduceLE, Int.reduceLT, Int.reduceEq, withV_any, c1, h, h0, h1, decide_false, Bool.not_false]
  · have e0 : g.winsErr p = g.check := by unfold Game.winsErr; rw [if_neg h]
    refine ⟨.tup [.sl [] true, .int .i64 (g.winsErr p)], ⟨.sl [] true, rfl, fun hn => absurd (e0 ▸ hn) h, fun _ => rfl⟩, ?_⟩
    rw [e0]
    refine F21.call (r := (.tup [.sl [] true, .int .i64 g.check], [.arr [g.cells] none false])) ?_ rfl
    simp only [go_sem, ↓reduceIte, Nat.reduceEqDiff, Nat.reduceBEq, Nat.reduceAdd, Nat.reduceMul, Nat.reduceSub, Nat.reduceLT, Nat.reduceLeDiff, reduceCtorEq, Int.reduceToNat, Int.reduceLE, Int.reduceLT, Int.reduceEq, withV_any, c1, h, decide_false, Bool.not_false]
end Go.Vs
end
/- law 23's helpers: light, bools, ints. -/
section
set_option linter.unusedVariables false
set_option linter.unusedSimpArgs false
namespace Go.Vs
open Go Go.Proofs
theorem loop14 (g : Game) (hg : g.ok) : ∀ (m i : Nat), i + m = g.moves.length → ∀ a : Int,
    F14.L0 0 1 (.mp 0 0 0) (.int .i64 a) (.int .i64 i) [.arr [g.cells] none false] = some (.bool (decide (sumLens a (g.moves.drop i) ≤ 600)), [.arr [g.cells] none false]) := by
  intro m
  induction m with
  | zero =>
    intro i hi a
    have h1 : ¬ (i : Int) < (g.moves.length : Int) := by omega
    rw [List.drop_of_length_le (by omega), sumLens]
    refine F14.L0_step ?_
    have s1 : ∀ (K : KT), execL (F14.C 0) 0 F14.c33 K (F14.ee2 (.mp 0 0 0) (.int .i64 a) (.int .i64 i)) [.arr [g.cells] none false] = K .normal (F14.ee3 (.mp 0 0 0) (.int .i64 a) (.int .i64 i) (.bool false)) [.arr [g.cells] none false] := fun K => by
      simp only [go_sem, ↓reduceIte, Nat.reduceEqDiff, Nat.reduceBEq, Nat.reduceAdd, Nat.reduceMul, Nat.reduceSub, Nat.reduceLT, Nat.reduceLeDiff, reduceCtorEq, Int.reduceToNat, Int.reduceLE, Int.reduceLT, Int.reduceEq, withV_any, h1]
    have s2 : ∀ (K : KT) (S : Store), execL (F14.C 0) 0 F14.c9 K (F14.ee3 .undef (.int .i64 a) .undef .undef) S = K .normal (F14.ee5 (.bool (decide (a ≤ 600)))) S := fun K S => by
      by_cases hh : a ≤ 600
      · simp only [go_sem, ↓reduceIte, Nat.reduceEqDiff, Nat.reduceBEq, Nat.reduceAdd, Nat.reduceMul, Nat.reduceSub, Nat.reduceLT, Nat.reduceLeDiff, reduceCtorEq, Int.reduceToNat, Int.reduceLE, Int.reduceLT, Int.reduceEq, withV_any, hh, decide_true]
      · simp only [go_sem, ↓reduceIte, Nat.reduceEqDiff, Nat.reduceBEq, Nat.reduceAdd, Nat.reduceMul, Nat.reduceSub, Nat.reduceLT, Nat.reduceLeDiff, reduceCtorEq, Int.reduceToNat, Int.reduceLE, Int.reduceLT, Int.reduceEq, withV_any, hh, decide_false]
    simp only [F14.B0_eq, s1, F14.k35_n, condC_false, F14.k29_exit, F14.k22_x1, gc_one, F14.k19_exit, if_true, F14.k12_n, s2, F14.k11_n, F14.k0_ret5]
  | succ m hm =>
    intro i hi a
    have h1 : (i : Int) < (g.moves.length : Int) := by omega
    have h2 := wrap_succ (i := i) (n := g.moves.length) (by omega) hg.moves
    have h4 : 0 ≤ (i : Int) ∧ (i : Int) < (g.moves.length : Int) := ⟨by omega, h1⟩
    rw [paths_drop (by omega), sumLens]
    refine F14.L0_step ?_
    have s1 : ∀ (K : KT), execL (F14.C 0) 0 F14.c33 K (F14.ee2 (.mp 0 0 0) (.int .i64 a) (.int .i64 i)) [.arr [g.cells] none false] = K .normal (F14.ee3 (.mp 0 0 0) (.int .i64 a) (.int .i64 i) (.bool true)) [.arr [g.cells] none false] := fun K => by
      simp only [go_sem, ↓reduceIte, Nat.reduceEqDiff, Nat.reduceBEq, Nat.reduceAdd, Nat.reduceMul, Nat.reduceSub, Nat.reduceLT, Nat.reduceLeDiff, reduceCtorEq, Int.reduceToNat, Int.reduceLE, Int.reduceLT, Int.reduceEq, withV_any, h1]
    have s2 : ∀ (K : KT), execL (F14.C 0) 1 F14.c30 K (F14.ee3 (.mp 0 0 0) (.int .i64 a) (.int .i64 i) (.bool true)) [.arr [g.cells] none false] = K .normal (F14.ee2 (.mp 0 0 0) (.int .i64 (IntKind.i64.wrap (a + (g.moves.getD i []).length))) (.int .i64 i)) [.arr [g.cells] none false] := fun K => by
      simp only [go_sem, ↓reduceIte, Nat.reduceEqDiff, Nat.reduceBEq, Nat.reduceAdd, Nat.reduceMul, Nat.reduceSub, Nat.reduceLT, Nat.reduceLeDiff, reduceCtorEq, Int.reduceToNat, Int.reduceLE, Int.reduceLT, Int.reduceEq, withV_any, h4, Int.toNat_natCast]
    have s3 : ∀ (K : KT) (a : Int), execL (F14.C 0) 0 F14.c26 K (F14.ee2 (.mp 0 0 0) (.int .i64 a) (.int .i64 i)) [.arr [g.cells] none false] = K .normal (F14.ee2 (.mp 0 0 0) (.int .i64 a) (.int .i64 (i + 1 : Nat))) [.arr [g.cells] none false] := fun K a => by
      simp only [go_sem, ↓reduceIte, Nat.reduceEqDiff, Nat.reduceBEq, Nat.reduceAdd, Nat.reduceMul, Nat.reduceSub, Nat.reduceLT, Nat.reduceLeDiff, reduceCtorEq, Int.reduceToNat, Int.reduceLE, Int.reduceLT, Int.reduceEq, withV_any, h2]
    simp only [F14.B0_eq, s1, F14.k35_n, condC_true, F14.k29_n, s2, F14.k31_n, F14.k27_n, s3, F14.k22_n, gc_one]
    exact hm (i + 1) (by omega) _
theorem call14 (g : Game) (hg : g.ok) : ∃ b, callL Try.prog hints 14 [.agg g.cells] = some (.bool b) := by
  have key := loop14 g hg g.moves.length 0 (by omega) 0
  simp only [Int.natCast_zero] at key
  by_cases b1 : (60 : Int) < (g.owner.length : Int)
  · by_cases b2 : (g.owner.length : Int) ≤ 400
    · refine ⟨false, F14.call (r := (.bool false, [.arr [g.cells] none false])) ?_ rfl⟩
      simp only [go_sem, ↓reduceIte, Nat.reduceEqDiff, Nat.reduceBEq, Nat.reduceAdd, Nat.reduceMul, Nat.reduceSub, Nat.reduceLT, Nat.reduceLeDiff, reduceCtorEq, Int.reduceToNat, Int.reduceLE, Int.reduceLT, Int.reduceEq, withV_any, b1, b2]
    · by_cases b3 : (2000 : Int) < (g.owner.length : Int)
      · refine ⟨false, F14.call (r := (.bool false, [.arr [g.cells] none false])) ?_ rfl⟩
        simp only [go_sem, ↓reduceIte, Nat.reduceEqDiff, Nat.reduceBEq, Nat.reduceAdd, Nat.reduceMul, Nat.reduceSub, Nat.reduceLT, Nat.reduceLeDiff, reduceCtorEq, Int.reduceToNat, Int.reduceLE, Int.reduceLT, Int.reduceEq, withV_any, b1, b2, b3]
      · by_cases b4 : (2000 : Int) < (g.moves.length : Int)
        · refine ⟨false, F14.call (r := (.bool false, [.arr [g.cells] none false])) ?_ rfl⟩
          simp only [go_sem, ↓reduceIte, Nat.reduceEqDiff, Nat.reduceBEq, Nat.reduceAdd, Nat.reduceMul, Nat.reduceSub, Nat.reduceLT, Nat.reduceLeDiff, reduceCtorEq, Int.reduceToNat, Int.reduceLE, Int.reduceLT, Int.reduceEq, withV_any, b1, b2, b3, b4]
        · refine ⟨_, F14.call (r := (.bool (decide (sumLens 0 (g.moves.drop 0) ≤ 600)), [.arr [g.cells] none false])) ?_ rfl⟩
          simp only [go_sem, ↓reduceIte, Nat.reduceEqDiff, Nat.reduceBEq, Nat.reduceAdd, Nat.reduceMul, Nat.reduceSub, Nat.reduceLT, Nat.reduceLeDiff, reduceCtorEq, Int.reduceToNat, Int.reduceLE, Int.reduceLT, Int.reduceEq, withV_any, b1, b2, b3, b4, key]
  · by_cases b3 : (2000 : Int) < (g.owner.length : Int)
    · exfalso; omega
    · by_cases b4 : (2000 : Int) < (g.moves.length : Int)
      · refine ⟨false, F14.call (r := (.bool false, [.arr [g.cells] none false])) ?_ rfl⟩
        simp only [go_sem, ↓reduceIte, Nat.reduceEqDiff, Nat.reduceBEq, Nat.reduceAdd, Nat.reduceMul, Nat.reduceSub, Nat.reduceLT, Nat.reduceLeDiff, reduceCtorEq, Int.reduceToNat, Int.reduceLE, Int.reduceLT, Int.reduceEq, withV_any, b1, b3, b4]
      · refine ⟨_, F14.call (r := (.bool (decide (sumLens 0 (g.moves.drop 0) ≤ 600)), [.arr [g.cells] none false])) ?_ rfl⟩
        simp only [go_sem, ↓reduceIte, Nat.reduceEqDiff, Nat.reduceBEq, Nat.reduceAdd, Nat.reduceMul, Nat.reduceSub, Nat.reduceLT, Nat.reduceLeDiff, reduceCtorEq, Int.reduceToNat, Int.reduceLE, Int.reduceLT, Int.reduceEq, withV_any, b1, b3, b4, key]
theorem loop22 (l : List Bool) (e1 e2 : Bool) (hl : l.length ≤ 2000000) : ∀ (m i : Nat), i + m = l.length → F22.L0 0 0 (.sl (boolRows l) e1) (.sl (boolRows l) e2) (.int .i64 i) [] = some (.bool true, []) := by
  have hm4 : (2000000 : Nat) ≤ maxLen := by decide
  intro m
  induction m with
  | zero =>
    intro i hi
    have h1 : ¬ (i : Int) < (l.length : Int) := by omega
    refine F22.L0_step ?_
    simp only [go_sem, ↓reduceIte, Nat.reduceEqDiff, Nat.reduceBEq, Nat.reduceAdd, Nat.reduceMul, Nat.reduceSub, Nat.reduceLT, Nat.reduceLeDiff, reduceCtorEq, Int.reduceToNat, Int.reduceLE, Int.reduceLT, Int.reduceEq, withV_any, h1]
  | succ m hm =>
    intro i hi
    have h1 : (i : Int) < (l.length : Int) := by omega
    have h2 := wrap_succ (i := i) (n := l.length) (by omega) (by omega)
    have h4 : 0 ≤ (i : Int) ∧ (i : Int) < (l.length : Int) := ⟨by omega, h1⟩
    refine F22.L0_step ?_
    cases hb : l.getD i false with
    | true => simp only [go_sem, ↓reduceIte, Nat.reduceEqDiff, Nat.reduceBEq, Nat.reduceAdd, Nat.reduceMul, Nat.reduceSub, Nat.reduceLT, Nat.reduceLeDiff, reduceCtorEq, Int.reduceToNat, Int.reduceLE, Int.reduceLT, Int.reduceEq, withV_any, h1, h2, h4, Int.toNat_natCast, hb, beq_self_eq_true, Bool.not_true, hm (i + 1) (by omega)]
    | false => simp only [go_sem, ↓reduceIte, Nat.reduceEqDiff, Nat.reduceBEq, Nat.reduceAdd, Nat.reduceMul, Nat.reduceSub, Nat.reduceLT, Nat.reduceLeDiff, reduceCtorEq, Int.reduceToNat, Int.reduceLE, Int.reduceLT, Int.reduceEq, withV_any, h1, h2, h4, Int.toNat_natCast, hb, beq_self_eq_true, Bool.not_true, hm (i + 1) (by omega)]
theorem call22 {v w : PV} {l : List Bool} (hv : IsBools v l) (hw : IsBools w l) (hl : l.length ≤ 2000000) : callL Try.prog hints 22 [v, w] = some (.bool true) := by
  obtain ⟨e1, rfl, _⟩ := hv
  obtain ⟨e2, rfl, _⟩ := hw
  refine F22.call (r := (.bool true, [])) ?_ rfl
  have h := loop22 l e1 e2 hl l.length 0 (by omega)
  simp only [Int.natCast_zero] at h
  simp only [go_sem, ↓reduceIte, Nat.reduceEqDiff, Nat.reduceBEq, Nat.reduceAdd, Nat.reduceMul, Nat.reduceSub, Nat.reduceLT, Nat.reduceLeDiff, reduceCtorEq, Int.reduceToNat, Int.reduceLE, Int.reduceLT, Int.reduceEq, withV_any, h, decide_true, Bool.not_true]
end Go.Vs
end

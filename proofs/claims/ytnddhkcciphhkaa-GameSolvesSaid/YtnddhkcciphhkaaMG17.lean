/- game.ranks: it gives the ranks round by round. -/

import Derived.Test.YtnddhkcciphhkaaMG9
import Derived.Test.YtnddhkcciphhkaaMG16
section
set_option linter.unusedVariables false
set_option linter.unusedSimpArgs false
namespace Go.Vs
open Go Go.Proofs
theorem makeSlice23 (id n : Nat) (h : n ≤ 2000000) : makeSliceO Try.prog 23 id (.int .i64 n) (.int .i64 n) = some { v := .msl id 0 n true, new := some (List.replicate n [.sl [] true], some (some 1)) } := by
  have e2 : (tyi Try.prog 22).bytes = 24 := by kernel_rfl
  have e3 : (tyi Try.prog 22).zero = some [.sl [] true] := by kernel_rfl
  simp only [makeSliceO, d23, e3, Option.bind_some, e2, size22]
  rw [if_pos ⟨by omega, by omega, by omega, by omega, rfl, rfl⟩]
  simp
@[go_sem] theorem alloc22 (id : Nat) : allocO (tyi Try.prog 22) id = some { v := .mp id 0 0, new := some ([[.sl [] true]], none) } := by
  have e : (tyi Try.prog 22).zero = some [.sl [] true] := by kernel_rfl
  simp [allocO, e, PV.cell]
def zint (n : Nat) : List Int := List.replicate n 0
theorem zint_rows (n : Nat) : List.replicate n [PV.int .i64 0] = intRows (zint n) := by simp [zint, intRows]
/-- The lists of predecessors, the first k of them with an array. -/
def ownRows (n k : Nat) : List (List PV) := (List.range n).map fun i => if i < k then [.msl (6 + i) 0 0 false] else [.sl [] true]
theorem ownRows_zero (n : Nat) : ownRows n 0 = List.replicate n [.sl [] true] := by
  simp [ownRows, List.map_const']
theorem ownRows_set (n k : Nat) (h : k < n) : (ownRows n k).set k [.msl (6 + k) 0 0 false] = ownRows n (k + 1) := by
  apply List.ext_getElem
  · simp [ownRows]
  · intro j h1 h2
    simp only [ownRows, List.length_map, List.length_range] at h2
    rw [List.getElem_set]
    simp only [ownRows, List.getElem_map, List.getElem_range]
    by_cases e : k = j
    · subst e
      rw [if_pos rfl, if_pos (by omega)]
    · rw [if_neg e]
      by_cases e2 : j < k
      · rw [if_pos e2, if_pos (by omega)]
      · rw [if_neg e2, if_neg (by omega)]
noncomputable def base57 (g : Game) (k : Nat) : Store := [.arr [g.cells] none false, .arr (intRows (zint g.owner.length)) (some (some 1)) false, .arr (intRows (zint g.owner.length)) (some (some 1)) false, .arr [[.msl 1 0 g.owner.length true]] none false, .arr (ownRows g.owner.length k) (some (some 1)) false, .arr [[.sl [] true]] none false] ++ List.replicate k (.arr [] (some none) false)
theorem own57 (g : Game) : ∀ k : Nat, k ≤ g.owner.length → (List.range k).foldl (fun S t => ownCell S 4 (0 + t) 0) (base57 g 0) = base57 g k
  | 0, _ => rfl
  | k + 1, h => by
    rw [List.range_succ, List.foldl_append, own57 g k (by omega), List.foldl_cons, List.foldl_nil, Nat.zero_add]
    have e1 : (base57 g k)[4]? = some (.arr (ownRows g.owner.length k) (some (some 1)) false) := rfl
    have e2 : (ownRows g.owner.length k).getD k [] = [.sl [] true] := by
      simp [ownRows, List.getD_eq_getElem?_getD, show k < g.owner.length by omega]
    have e3 : (base57 g k).length = 6 + k := by simp [base57]; omega
    have e4 : (base57 g k).set 4 (.arr (ownRows g.owner.length (k + 1)) (some (some 1)) false) ++ [.arr [] (some none) false] = base57 g (k + 1) := by
      simp only [base57, List.cons_append, List.nil_append, List.set_cons_succ, List.set_cons_zero, List.replicate_succ']
    have e5 : ([PV.sl [] true] : List PV)[0]? = some (.sl [] true) := rfl
    simp only [ownCell, e1, e2, e5, e3]
    rw [← e4, ← ownRows_set _ _ (by omega)]
    rfl
theorem base57_RS (g : Game) : RS g (base57 g g.owner.length) (.sl [] true) (zint g.owner.length) (zint g.owner.length) (List.replicate g.owner.length []) [] := by
  have hz : (zint g.owner.length).length = g.owner.length := by simp [zint]
  refine ⟨hz, hz, by simp, by simp [base57]; omega, rfl, rfl, rfl, by rw [hz]; rfl, ?_, rfl, fun i hi => ⟨none, .inl rfl, ?_⟩, .nil, by intro r hr; cases hr⟩
  · have : fromRows (List.replicate g.owner.length []) = ownRows g.owner.length g.owner.length := by
      apply List.ext_getElem
      · simp [fromRows, ownRows]
      · intro j h1 h2
        simp only [ownRows, List.length_map, List.length_range] at h2
        simp [fromRows, ownRows, h2]
    rw [this]; rfl
  · have e : (List.replicate g.owner.length ([] : List Int)).getD i [] = [] := by
      simp [List.getD_eq_getElem?_getD, hi]
    rw [e]
    simp only [base57]
    rw [List.getElem?_append_right (by simp)]
    simp [intRows, hi]
theorem call57 (g : Game) (hg : g.good) : callL Try.prog hints 57 [.agg g.cells] = some (.sl (intRows (Rk.lvl g.toG (g.owner.length + 1))) false) := by
  have hN := hg.n
  have hgn : g.toG.n = g.owner.length := rfl
  obtain ⟨f1, f2, f3⟩ := fill_all g hg
  -- the first loop
  obtain ⟨S1, a1, a2⟩ := loop57_0 g hg g.owner.length 0 (by omega) _ _ _ _ 0 (base57_RS g) (by
    intro q
    simp only [List.getD_eq_getElem?_getD, List.getElem?_replicate]
    split <;> simp) (by omega)
  rw [show fill g g.owner.length 0 (zint g.owner.length) (zint g.owner.length) (List.replicate g.owner.length []) = fill g g.owner.length 0 (List.replicate g.owner.length 0) (List.replicate g.owner.length 0) (List.replicate g.owner.length []) from rfl] at a1
  rw [f1, f2] at a1
  generalize (fill g g.owner.length 0 (List.replicate g.owner.length 0) (List.replicate g.owner.length 0) (List.replicate g.owner.length [])).2.2 = F at *
  -- goals and positions without moves
  obtain ⟨S2, b1, b2, b3, b4⟩ := loop57_4 g hg S1.length a1.len (List.replicate g.toG.n (-1)) (Rk.openL g.toG) F g.owner.length 0 (by omega) (S1 ++ [.arr [] (some none) false, .arr [] (some none) false]) [] [] (a1.ext _) ⟨none, .inl rfl, by simp [intRows]⟩ ⟨none, .inl rfl, by rw [List.getElem?_append_right (by omega)]; simp [intRows]⟩ (Nat.zero_le _) (Nat.zero_le _)
  rw [parts_all g] at b2 b3 b4
  simp only at b2 b3 b4
  have hS1 := a1.len
  have hS2 := b3.lt
  -- the goals' level
  obtain ⟨Qn, st1, st2⟩ := Rk.start g.toG
  have hzpos : ∀ x ∈ Rk.zeroL g.toG, ∃ j : Nat, j < (List.replicate g.toG.n (-1 : Int)).length ∧ x = j := fun x hx => by
    obtain ⟨j, hj, e, _⟩ := (Rk.mem_zeroL g.toG x).1 hx
    exact ⟨j, by rw [List.length_replicate]; exact hj, e⟩
  have hzl : (Rk.zeroL g.toG).length ≤ 400 := by
    have := List.length_filter_le (fun i => g.toG.goal i) (List.range g.toG.n)
    simp only [List.length_range] at this
    simp only [Rk.zeroL, List.length_map]
    omega
  have hol : (Rk.oneL g.toG).length ≤ 400 := by
    have := List.length_filter_le (fun i => !g.toG.goal i && (decide (g.toG.owner i = 1) && decide (g.toG.moves i = []))) (List.range g.toG.n)
    simp only [List.length_range] at this
    simp only [Rk.oneL, List.length_map]
    omega
  obtain ⟨v', S3, e1, e2, e3, e4⟩ := call83 (k := 0) b1.toLev (b2.ints (ex := false)) (by
    intro t ht
    simp only [PV.refs, List.mem_singleton] at ht
    subst ht
    exact ⟨by omega, by omega, fun hx => by cases hx⟩) hzpos (by simp only [List.length_nil]; omega)
  rw [st1] at e2
  simp only at e2
  have h3 := b1.lev e2 e3 e4 (by rw [Rk.lvl_length, List.length_replicate])
  have hcall := (show callE (F57.C 0) S2 83 _ = _ from callE_eq (b := 0) (h := F57.hint) (by rfl) e1 e3.len)
  have l3 := e3.len
  have o3 := b3.keep e3 (by omega) (by simp only [List.mem_cons, not_or]; exact ⟨by omega, by omega, by intro hx; cases hx⟩)
  have hcv : S1.length + 1 ∉ v'.refs := fun hx => by
    rcases e4 _ hx with hx | hx
    · cases hx
    · omega
  have hQnl : Qn.length ≤ 400 := Nat.le_trans (nodup_le _ Qn st2.nodup (fun x hx => by
    obtain ⟨j, hj, e, _⟩ := (st2.mem x).1 hx
    exact ⟨j, hj, e⟩)) hN
  have hunr := Rk.unr_le g.toG 0
  obtain ⟨S4, z1, z2⟩ := loop57_7 g hg (S1.length + 1) (by omega) (Rk.oneL g.toG) (Rk.mem_oneL g.toG) hol F f3 S3.length (by omega) (g.owner.length + 2) 0 (by omega) S3 v' (Rk.openL g.toG) [] Qn 0 (by rw [List.nil_append]; exact h3) o3 hcv (Nat.le_refl _) st2 (by simp only [List.length_nil]; omega) (by intro x hx; cases hx) (fun j => by
    by_cases hj : j < g.toG.n
    · have e : (Rk.openL g.toG).getD j 0 = ((g.toG.moves j).length : Int) := by
        simp only [Rk.openL, List.getD_eq_getElem?_getD, List.getElem?_map, List.getElem?_range hj, Option.map_some, Option.getD_some]
      have := hg.s j
      rw [e]
      simp only [Game.toG]
      omega
    · have e : (Rk.openL g.toG).getD j 0 = 0 := by
        simp only [Rk.openL, List.getD_eq_getElem?_getD, List.getElem?_map]
        rw [List.getElem?_eq_none (by simp; omega)]; rfl
      omega) (by omega) (by omega) (fun _ => by omega)
  -- the whole
  have hfz : fzPV S4 (.msl 1 0 g.owner.length true) = some (.sl (intRows (Rk.lvl g.toG (g.owner.length + 1))) false) := by
    have hl : (Rk.lvl g.toG (g.owner.length + 1)).length = g.owner.length := by rw [Rk.lvl_length]; rfl
    have := (Ints.msl 1 (Rk.lvl g.toG (g.owner.length + 1)) true (some (some 1)) false z2).fz 6
    rw [hl] at this
    exact this
  refine F57.call (r := (.msl 1 0 g.owner.length true, S4)) ?_ hfz
  have m2 := fun id => makeSlice22 id g.owner.length (by omega)
  have m3 := fun id => makeSlice23 id g.owner.length (by omega)
  have s0 : ∀ K : KT, execL (F57.C 0) 0 F57.c1 K [(0, .agg g.cells)] [] = K .normal (F57.ee0 (.mp 0 0 0)) [.arr [g.cells] none false] := fun K => by
    simp only [go_sem, ↓reduceIte, Nat.reduceEqDiff, Nat.reduceBEq, Nat.reduceAdd, Nat.reduceMul, Nat.reduceSub, Nat.reduceLT, Nat.reduceLeDiff, reduceCtorEq, Int.reduceToNat, Int.reduceLE, Int.reduceLT, Int.reduceEq, withV_any]
  have s1 : ∀ K : KT, execL (F57.C 0) 0 F57.c3 K (F57.ee0 (.mp 0 0 0)) [.arr [g.cells] none false] = K .normal (F57.ee1 (.mp 0 0 0) (.int .i64 g.owner.length)) [.arr [g.cells] none false] := fun K => by
    simp only [go_sem, ↓reduceIte, Nat.reduceEqDiff, Nat.reduceBEq, Nat.reduceAdd, Nat.reduceMul, Nat.reduceSub, Nat.reduceLT, Nat.reduceLeDiff, reduceCtorEq, Int.reduceToNat, Int.reduceLE, Int.reduceLT, Int.reduceEq, withV_any]
  have s2 : ∀ K : KT, execL (F57.C 0) 0 F57.c5 K (F57.ee1 (.mp 0 0 0) (.int .i64 g.owner.length)) [.arr [g.cells] none false] = K .normal (F57.ee2 (.mp 0 0 0) (.int .i64 g.owner.length) (.mp 3 0 0) (.msl 2 0 g.owner.length true)) [.arr [g.cells] none false, .arr (intRows (zint g.owner.length)) (some (some 1)) false, .arr (intRows (zint g.owner.length)) (some (some 1)) false, .arr [[.msl 1 0 g.owner.length true]] none false] := fun K => by
    rw [← zint_rows]
    simp only [go_sem, ↓reduceIte, Nat.reduceEqDiff, Nat.reduceBEq, Nat.reduceAdd, Nat.reduceMul, Nat.reduceSub, Nat.reduceLT, Nat.reduceLeDiff, reduceCtorEq, Int.reduceToNat, Int.reduceLE, Int.reduceLT, Int.reduceEq, withV_any, m2]
  have s3 : ∀ K : KT, execL (F57.C 0) 0 F57.c7 K (F57.ee2 (.mp 0 0 0) (.int .i64 g.owner.length) (.mp 3 0 0) (.msl 2 0 g.owner.length true)) [.arr [g.cells] none false, .arr (intRows (zint g.owner.length)) (some (some 1)) false, .arr (intRows (zint g.owner.length)) (some (some 1)) false, .arr [[.msl 1 0 g.owner.length true]] none false] = K .normal (F57.ee3 (.mp 0 0 0) (.int .i64 g.owner.length) (.mp 3 0 0) (.msl 2 0 g.owner.length true) (.msl 4 0 g.owner.length true)) [.arr [g.cells] none false, .arr (intRows (zint g.owner.length)) (some (some 1)) false, .arr (intRows (zint g.owner.length)) (some (some 1)) false, .arr [[.msl 1 0 g.owner.length true]] none false, .arr (ownRows g.owner.length 0) (some (some 1)) false] := fun K => by
    rw [ownRows_zero]
    simp only [go_sem, ↓reduceIte, Nat.reduceEqDiff, Nat.reduceBEq, Nat.reduceAdd, Nat.reduceMul, Nat.reduceSub, Nat.reduceLT, Nat.reduceLeDiff, reduceCtorEq, Int.reduceToNat, Int.reduceLE, Int.reduceLT, Int.reduceEq, withV_any, m3]
  have s4 : ∀ K : KT, execL (F57.C 0) 0 F57.c9 K (F57.ee3 (.mp 0 0 0) (.int .i64 g.owner.length) (.mp 3 0 0) (.msl 2 0 g.owner.length true) (.msl 4 0 g.owner.length true)) [.arr [g.cells] none false, .arr (intRows (zint g.owner.length)) (some (some 1)) false, .arr (intRows (zint g.owner.length)) (some (some 1)) false, .arr [[.msl 1 0 g.owner.length true]] none false, .arr (ownRows g.owner.length 0) (some (some 1)) false] = K .normal (F57.ee4 (.mp 0 0 0) (.int .i64 g.owner.length) (.mp 3 0 0) (.msl 2 0 g.owner.length true) (.msl 4 0 g.owner.length true) (.mp 5 0 0)) (base57 g 0) := fun K => by
    simp only [base57, List.replicate_zero, List.append_nil]
    simp only [go_sem, ↓reduceIte, Nat.reduceEqDiff, Nat.reduceBEq, Nat.reduceAdd, Nat.reduceMul, Nat.reduceSub, Nat.reduceLT, Nat.reduceLeDiff, reduceCtorEq, Int.reduceToNat, Int.reduceLE, Int.reduceLT, Int.reduceEq, withV_any]
  have s5 : withM (base57 g 0) (.msl 4 0 g.owner.length true) 0 (fun S => F57.L0 0 (List.length S) (.mp 0 0 0) (.int .i64 g.owner.length) (.mp 3 0 0) (.msl 2 0 g.owner.length true) (.msl 4 0 g.owner.length true) (.mp 5 0 0) (.int .i64 g.owner.length) (.int .i64 (0 : Int)) S) = F57.L0 0 (6 + g.owner.length) (.mp 0 0 0) (.int .i64 g.owner.length) (.mp 3 0 0) (.msl 2 0 g.owner.length true) (.msl 4 0 g.owner.length true) (.mp 5 0 0) (.int .i64 g.owner.length) (.int .i64 (0 : Int)) (base57 g g.owner.length) := by
    have e : ownMem (base57 g 0) (.msl 4 0 g.owner.length true) 0 = base57 g g.owner.length := own57 g g.owner.length (Nat.le_refl _)
    have e3 : (base57 g g.owner.length).length = 6 + g.owner.length := by simp [base57]; omega
    unfold withM
    rw [e]
    show F57.L0 0 (base57 g g.owner.length).length _ _ _ _ _ _ _ _ _ = _
    rw [e3]
  have s6 : ∀ K : KT, execL (F57.C 0) 0 F57.c19 K (F57.ee17 (.mp 0 0 0) (.mp 3 0 0) (.msl 2 0 g.owner.length true) (.msl 4 0 g.owner.length true) (.mp 5 0 0) (.fn 83 [] [.mp 3 0 0, .mp 5 0 0]) (.msl S1.length 0 (Rk.zeroL g.toG).length false) (.msl (S1.length + 1) 0 (Rk.oneL g.toG).length false) .undef .undef .undef) S2 = K .normal (F57.ee18 (.mp 0 0 0) (.mp 3 0 0) (.msl 2 0 g.owner.length true) (.msl 4 0 g.owner.length true) (.mp 5 0 0) (.fn 83 [] [.mp 3 0 0, .mp 5 0 0]) (.msl (S1.length + 1) 0 (Rk.oneL g.toG).length false)) S3 := fun K => by
    simp only [F57.g149, withV_any, callV_fn83, List.nil_append, List.cons_append, hcall, withS, Option.bind_some]
  have key := a2 (.msl 1 0 g.owner.length true, S4) (b4 _ (by
    simp only [F57.k148_n, s6, F57.k28_n, F57.g147, withV_any, F57.k31_n]
    exact z1))
  simp only [F57.E_eq, s0, F57.k277_n, s1, F57.k275_n, s2, F57.k273_n, s3, F57.k271_n, s4, F57.k203_n, F57.g270, withV_any, F57.k206_n, s5]
  exact key
end Go.Vs
end
/- Printed by a program of mine (stage1.py): the functions 58, piece by piece. -/
section
set_option linter.unusedVariables false
set_option linter.unusedSimpArgs false
namespace Go.Vs
open Go Go.Proofs
noncomputable section

/-! ### isochroneref23.ranks -/
namespace F58
section
variable (b i n n0 n2 n4 n6 : Nat) (K : KT) (x0 x1 x2 x3 x4 x5 x6 x7 x8 x9 x10 x11 x19 x29 x36 x46 x53 x61 x75 x95 : PV) (e : Env) (S : Store)
noncomputable def hint : Hint := { keep := [], loops := [(6, { live := [1, 3, 4, 6, 7, 8, 9, 10, 11], after := [1, 3, 4, 6, 7, 8, 9, 10], own := [], fz := [] }), (4, { live := [1, 3, 4, 6, 7, 8], after := [1, 3, 6, 7], own := [], fz := [] }), (2, { live := [1, 3, 4, 6], after := [4], own := [], fz := [] }), (0, { live := [1, 3, 4, 5], after := [1, 3, 4], own := [], fz := [] })], regs := [(0, [1]), (1, [1, 3]), (2, [1, 3, 4]), (3, [1, 3, 4, 5]), (4, [1, 3, 4, 5, 19]), (5, [1, 3, 4, 5]), (6, [1, 3, 4, 5]), (7, [1, 3, 4, 5, 29]), (8, [1, 3, 4, 5, 29]), (9, [1, 3, 4, 6]), (10, [1, 3, 4, 6, 36]), (11, [1, 3, 4, 6]), (12, [1, 3, 4, 6, 7]), (13, [1, 3, 4, 6, 7]), (14, [1, 3, 4, 6, 7, 8]), (15, [1, 3, 4, 6, 7, 8, 46]), (16, [1, 3, 4, 6, 7, 8]), (17, [1, 3, 4, 6, 7, 8, 53, 95]), (18, [1, 3, 4, 6, 7, 8, 9, 10]), (19, [1, 3, 4, 6, 7, 8, 9, 10, 11]), (20, [1, 3, 4, 6, 7, 8, 9, 10, 11, 61]), (21, [1, 3, 4, 6, 7, 8, 9, 10, 11]), (22, [1, 3, 4, 6, 7, 8, 9, 10, 11, 75]), (23, [1, 3, 4, 6, 7, 8, 9, 10, 11]), (24, [1, 3, 4, 6, 7, 8, 9, 10, 11]), (25, [1, 3, 4, 6, 7, 8, 53, 95]), (26, [1, 3, 4, 6, 7, 8, 53, 95]), (27, [1, 3, 4, 6]), (28, [2])] }
noncomputable def C (b : Nat) : Ctx := ctxL Try.prog hints b hint
noncomputable def code : Code := Try.f58.body.get rfl
noncomputable def k0 (b : Nat) : KT := endC Try.prog Try.f58
def ee0 (x1 : PV) : Env := [(1, x1)]
def ee1 (x1 x3 : PV) : Env := [(1, x1), (3, x3)]
def ee2 (x1 x3 x4 : PV) : Env := [(1, x1), (3, x3), (4, x4)]
def ee3 (x1 x3 x4 x5 : PV) : Env := [(1, x1), (3, x3), (4, x4), (5, x5)]
def ee4 (x1 x3 x4 x5 x19 : PV) : Env := [(1, x1), (3, x3), (4, x4), (5, x5), (19, x19)]
def ee5 (x1 x3 x4 x5 x29 : PV) : Env := [(1, x1), (3, x3), (4, x4), (5, x5), (29, x29)]
def ee6 (x1 x3 x4 x6 : PV) : Env := [(1, x1), (3, x3), (4, x4), (6, x6)]
def ee7 (x1 x3 x4 x6 x7 : PV) : Env := [(1, x1), (3, x3), (4, x4), (6, x6), (7, x7)]
def ee8 (x1 x3 x4 x6 x7 x8 : PV) : Env := [(1, x1), (3, x3), (4, x4), (6, x6), (7, x7), (8, x8)]
def ee9 (x1 x3 x4 x6 x7 x8 x9 x10 : PV) : Env := [(1, x1), (3, x3), (4, x4), (6, x6), (7, x7), (8, x8), (9, x9), (10, x10)]
def ee10 (x1 x3 x4 x6 x7 x8 x9 x10 x11 : PV) : Env := [(1, x1), (3, x3), (4, x4), (6, x6), (7, x7), (8, x8), (9, x9), (10, x10), (11, x11)]
def ee11 (x1 x3 x4 x6 x7 x8 x9 x10 x11 x61 : PV) : Env := [(1, x1), (3, x3), (4, x4), (6, x6), (7, x7), (8, x8), (9, x9), (10, x10), (11, x11), (61, x61)]
def ee12 (x1 x3 x4 x6 x7 x8 x9 x10 x11 x75 : PV) : Env := [(1, x1), (3, x3), (4, x4), (6, x6), (7, x7), (8, x8), (9, x9), (10, x10), (11, x11), (75, x75)]
def ee13 (x1 x3 x4 x6 x7 x8 x46 : PV) : Env := [(1, x1), (3, x3), (4, x4), (6, x6), (7, x7), (8, x8), (46, x46)]
def ee14 (x1 x3 x4 x6 x7 x8 x53 x95 : PV) : Env := [(1, x1), (3, x3), (4, x4), (6, x6), (7, x7), (8, x8), (53, x53), (95, x95)]
def ee15 (x1 x3 x4 x6 x36 : PV) : Env := [(1, x1), (3, x3), (4, x4), (6, x6), (36, x36)]
def ee16 (x2 : PV) : Env := [(2, x2)]
def c1 : Code := at0 code
def c2 : Code := at1 code
def c3 : Code := at0 c2
def c4 : Code := at1 c2
def c5 : Code := at0 c4
def c6 : Code := at1 c4
def c7 : Code := at0 c6
def c8 : Code := at1 c6
def c9 : Code := at0 c8
def c10 : Code := at1 c8
def c11 : Code := at0 c10
def c12 : Code := at1 c10
def k13 (b : Nat) : KT := seqC (fun e S => execL (C b) 0 c12 (k0 b) e S) (k0 b)
@[go_sem] theorem k13_n : k13 b .normal (ee16 x2) S =
  (k0 b) .ret (ee16 x2) S := nr (seqN (execL_ret (by kernel_rfl)))
def k14 (b : Nat) : KT := seqC (fun e S => execL (C b) 0 c10 (k0 b) e S) (k0 b)
@[go_sem] theorem g15 : execL (C b) 0 c11 K (ee15 x1 x3 x4 x6 x36) S =
  withV (some x4) fun x101 =>
    withV (some x101) fun x2 =>
    K .normal (ee16 x2) S := nr (by kernel_rfl)
@[go_sem] theorem k14_n : k14 b .normal e S = execL (C b) 0 c11 (k13 b) e S := nr (seqN (enterS (by kernel_rfl)))
def k16 (b : Nat) : KT := seqC (fun e S => execL (C b) 0 c8 (k0 b) e S) (k0 b)
def c17 : Code := at0 c9
def c18 : Code := at1 c9
def k19 (b : Nat) : KT := seqC (fun e S => execL (C b) 0 c18 (k14 b) e S) (k14 b)
def c20 : Code := atB c18
def k21 (b : Nat) : KT := blockC 2 (k14 b)
@[go_sem] theorem k21_exit : k21 b (.exit i) e S = if i = 2 then (k14 b) .normal e S else (k14 b) (.exit i) e S := nr (blockC_x _ _ _ _ _)
def c22 : Code := atL c20
def k23 (b n2 : Nat) : KT := afterC 2 n2 [4] (k21 b)
def L2g (b n2 : Nat) (e : Env) (S : Store) : RT := loopL (fun K e S => execL (C b) 2 c22 K e S) (normG [1, 3, 4, 6] [] n2) (k23 b n2) e S
def L2 (b n2 : Nat) (x1 x3 x4 x6 : PV) (S : Store) : RT := L2g b n2 (ee6 x1 x3 x4 x6) S
def k24 (b n2 : Nat) : KT := stepC (normG [1, 3, 4, 6] [] n2) (k23 b n2) (L2g b n2)
@[go_sem] theorem k24_n : k24 b n2 .normal (ee6 x1 x3 x4 x6) S = L2 b n2 x1 x3 x4 x6 (gc n2 (ee6 x1 x3 x4 x6) S) := nr (by kernel_rfl)
@[go_sem] theorem k24_x1 : k24 b n2 (.exit 2) (ee15 x1 x3 x4 x6 x36) S = (k21 b) (.exit 2) (ee15 .undef .undef x4 .undef .undef) (gc n2 (ee15 .undef .undef x4 .undef .undef) S) := nr ((show k24 b n2 (.exit 2) (ee15 x1 x3 x4 x6 x36) S = (k23 b n2) (.exit 2) (ee15 x1 x3 x4 x6 x36) S from stepC_x _ _ _ _ _ _).trans ((show (k23 b n2) (.exit 2) (ee15 x1 x3 x4 x6 x36) S = _ from afterC_x _ _ _ _ _ _ _).trans (if_pos rfl)))
def c25 : Code := at0 c22
def c26 : Code := at1 c22
def c27 : Code := at0 c26
def c28 : Code := at1 c26
def k29 (b n2 : Nat) : KT := seqC (fun e S => execL (C b) 2 c28 (k24 b n2) e S) (k24 b n2)
@[go_sem] theorem g30 : execL (C b) 2 c28 K (ee6 x1 x3 x4 x6) S =
  withV (some x6) fun x37 =>
    withV (evBin .add (tyi Try.prog 3) x37 (.int .i64 1)) fun x38 =>
    withV (some x38) fun x6 =>
    K .normal (ee6 x1 x3 x4 x6) S := nr (by kernel_rfl)
@[go_sem] theorem k29_n : k29 b n2 .normal e S = execL (C b) 2 c28 (k24 b n2) e S := nr (seqN rfl)
def k31 (b n2 : Nat) : KT := seqC (fun e S => execL (C b) 2 c26 (k24 b n2) e S) (k24 b n2)
def c32 : Code := atB c27
def k33 (b n2 : Nat) : KT := blockC 3 (k29 b n2)
@[go_sem] theorem k33_n : k33 b n2 .normal e S = (k29 b n2) .normal e S := nr (blockC_n _ _ _ _)
def c34 : Code := at0 c32
def c35 : Code := at1 c32
def c36 : Code := at0 c35
def c37 : Code := at1 c35
def c38 : Code := at0 c37
def c39 : Code := at1 c37
def k40 (b n2 : Nat) : KT := seqC (fun e S => execL (C b) 3 c39 (k33 b n2) e S) (k33 b n2)
@[go_sem] theorem g41 : execL (C b) 3 c39 K (ee13 x1 x3 x4 x6 x7 x8 x46) S =
  withV (some x7) fun x100 =>
    withV (some x100) fun x4 =>
    K .normal (ee6 x1 x3 x4 x6) S := nr (by kernel_rfl)
@[go_sem] theorem k40_n : k40 b n2 .normal e S = execL (C b) 3 c39 (k33 b n2) e S := nr (seqN rfl)
def k42 (b n2 : Nat) : KT := seqC (fun e S => execL (C b) 3 c37 (k33 b n2) e S) (k33 b n2)
def c43 : Code := at0 c38
def c44 : Code := at1 c38
def k45 (b n2 : Nat) : KT := seqC (fun e S => execL (C b) 3 c44 (k40 b n2) e S) (k40 b n2)
def c46 : Code := atB c44
def k47 (b n2 : Nat) : KT := blockC 4 (k40 b n2)
@[go_sem] theorem k47_exit : k47 b n2 (.exit i) e S = if i = 4 then (k40 b n2) .normal e S else (k40 b n2) (.exit i) e S := nr (blockC_x _ _ _ _ _)
def c48 : Code := atL c46
def k49 (b n2 n4 : Nat) : KT := afterC 4 n4 [1, 3, 6, 7] (k47 b n2)
def L4g (b n2 n4 : Nat) (e : Env) (S : Store) : RT := loopL (fun K e S => execL (C b) 4 c48 K e S) (normG [1, 3, 4, 6, 7, 8] [] n4) (k49 b n2 n4) e S
def L4 (b n2 n4 : Nat) (x1 x3 x4 x6 x7 x8 : PV) (S : Store) : RT := L4g b n2 n4 (ee8 x1 x3 x4 x6 x7 x8) S
def k50 (b n2 n4 : Nat) : KT := stepC (normG [1, 3, 4, 6, 7, 8] [] n4) (k49 b n2 n4) (L4g b n2 n4)
@[go_sem] theorem k50_n : k50 b n2 n4 .normal (ee8 x1 x3 x4 x6 x7 x8) S = L4 b n2 n4 x1 x3 x4 x6 x7 x8 (gc n4 (ee8 x1 x3 x4 x6 x7 x8) S) := nr (by kernel_rfl)
@[go_sem] theorem k50_x1 : k50 b n2 n4 (.exit 4) (ee13 x1 x3 x4 x6 x7 x8 x46) S = (k47 b n2) (.exit 4) (ee13 x1 x3 .undef x6 x7 .undef .undef) (gc n4 (ee13 x1 x3 .undef x6 x7 .undef .undef) S) := nr ((show k50 b n2 n4 (.exit 4) (ee13 x1 x3 x4 x6 x7 x8 x46) S = (k49 b n2 n4) (.exit 4) (ee13 x1 x3 x4 x6 x7 x8 x46) S from stepC_x _ _ _ _ _ _).trans ((show (k49 b n2 n4) (.exit 4) (ee13 x1 x3 x4 x6 x7 x8 x46) S = _ from afterC_x _ _ _ _ _ _ _).trans (if_pos rfl)))
def c51 : Code := at0 c48
def c52 : Code := at1 c48
def c53 : Code := at0 c52
def c54 : Code := at1 c52
def k55 (b n2 n4 : Nat) : KT := seqC (fun e S => execL (C b) 4 c54 (k50 b n2 n4) e S) (k50 b n2 n4)
@[go_sem] theorem g56 : execL (C b) 4 c54 K (ee14 x1 x3 x4 x6 x7 x8 x53 x95) S =
  withV (some x8) fun x47 =>
    withV (evBin .add (tyi Try.prog 3) x47 (.int .i64 1)) fun x48 =>
    withV (some x48) fun x8 =>
    K .normal (ee8 x1 x3 x4 x6 x7 x8) S := nr (by kernel_rfl)
@[go_sem] theorem k55_n : k55 b n2 n4 .normal e S = execL (C b) 4 c54 (k50 b n2 n4) e S := nr (seqN rfl)
def k57 (b n2 n4 : Nat) : KT := seqC (fun e S => execL (C b) 4 c52 (k50 b n2 n4) e S) (k50 b n2 n4)
def c58 : Code := atB c53
def k59 (b n2 n4 : Nat) : KT := blockC 5 (k55 b n2 n4)
@[go_sem] theorem k59_n : k59 b n2 n4 .normal e S = (k55 b n2 n4) .normal e S := nr (blockC_n _ _ _ _)
@[go_sem] theorem k59_exit : k59 b n2 n4 (.exit i) e S = if i = 5 then (k55 b n2 n4) .normal e S else (k55 b n2 n4) (.exit i) e S := nr (blockC_x _ _ _ _ _)
def c60 : Code := at0 c58
def c61 : Code := at1 c58
def c62 : Code := at0 c61
def c63 : Code := at1 c61
def c64 : Code := at0 c63
def c65 : Code := at1 c63
def c66 : Code := at0 c65
def c67 : Code := at1 c65
def k68 (b n2 n4 : Nat) : KT := seqC (fun e S => execL (C b) 5 c67 (k59 b n2 n4) e S) (k59 b n2 n4)
def c69 : Code := atT c67
@[go_sem] theorem g72 : execL (C b) 5 c69 K (ee14 x1 x3 x4 x6 x7 x8 x53 x95) S =
  withV (some x7) fun x96 =>
    withV (some x8) fun x97 =>
    withV (some x6) fun x98 =>
    withV (indexAddrO Try.prog 22 S x96 x97) fun x99 =>
    withS (storeE (tyi Try.prog 3) S x99 x98) fun _u S =>
    K .normal (ee14 x1 x3 x4 x6 x7 x8 x53 x95) S := nr (by kernel_rfl)
@[go_sem] theorem k68_n : k68 b n2 n4 .normal (ee14 x1 x3 x4 x6 x7 x8 x53 x95) S =
  condC x95 (execL (C b) 5 c69 (k59 b n2 n4) (ee14 x1 x3 x4 x6 x7 x8 x53 x95) S)
    ((k59 b n2 n4) .normal (ee14 x1 x3 x4 x6 x7 x8 x53 x95) S) := nr (seqN (condE (t := 95) (by kernel_rfl) (rfl) (execL_skip (by kernel_rfl)) rfl))
def k73 (b n2 n4 : Nat) : KT := seqC (fun e S => execL (C b) 5 c65 (k59 b n2 n4) e S) (k59 b n2 n4)
@[go_sem] theorem g74 : execL (C b) 5 c66 K (ee11 x1 x3 x4 x6 x7 x8 x9 x10 x11 x61) S =
  withV (evFieldAddr (tyi Try.prog 26) 0 x1) fun x76 =>
    withV (evLoad (tyi Try.prog 22) S x76) fun x77 =>
    withV (some x8) fun x78 =>
    withV (indexAddrO Try.prog 22 S x77 x78) fun x79 =>
    withV (evLoad (tyi Try.prog 3) S x79) fun x80 =>
    withV (evBin .eql (tyi Try.prog 3) x80 (.int .i64 0)) fun x81 =>
    withV (some x81) fun x82 =>
    withV (gval x82 true (some x9)) fun x83 =>
    withV (pickO x82 x83 (.bool false)) fun x84 =>
    withV (some x84) fun x85 =>
    withV (gval x85 false (evFieldAddr (tyi Try.prog 26) 0 x1)) fun x86 =>
    withV (gval x85 false (evLoad (tyi Try.prog 22) S x86)) fun x87 =>
    withV (gval x85 false (some x8)) fun x88 =>
    withV (gval x85 false (indexAddrO Try.prog 22 S x87 x88)) fun x89 =>
    withV (gval x85 false (evLoad (tyi Try.prog 3) S x89)) fun x90 =>
    withV (gval x85 false (evBin .eql (tyi Try.prog 3) x90 (.int .i64 1))) fun x91 =>
    withV (gval x85 false (some x91)) fun x92 =>
    withV (gval x92 true (some x10)) fun x93 =>
    withV (gval x85 false (pickO x92 x93 (.bool false))) fun x94 =>
    withV (pickO x85 (.bool true) x94) fun x95 =>
    K .normal (ee14 x1 x3 x4 x6 x7 x8 .undef x95) S := nr (by kernel_rfl)
@[go_sem] theorem k73_n : k73 b n2 n4 .normal e S = execL (C b) 5 c66 (k68 b n2 n4) e S := nr (seqN (enterS (by kernel_rfl)))
def k75 (b n2 n4 : Nat) : KT := seqC (fun e S => execL (C b) 5 c63 (k59 b n2 n4) e S) (k59 b n2 n4)
def c76 : Code := at0 c64
def c77 : Code := at1 c64
def k78 (b n2 n4 : Nat) : KT := seqC (fun e S => execL (C b) 5 c77 (k73 b n2 n4) e S) (k73 b n2 n4)
def c79 : Code := atB c77
def k80 (b n2 n4 : Nat) : KT := blockC 6 (k73 b n2 n4)
@[go_sem] theorem k80_exit : k80 b n2 n4 (.exit i) e S = if i = 6 then (k73 b n2 n4) .normal e S else (k73 b n2 n4) (.exit i) e S := nr (blockC_x _ _ _ _ _)
def c81 : Code := atL c79
def k82 (b n2 n4 n6 : Nat) : KT := afterC 6 n6 [1, 3, 4, 6, 7, 8, 9, 10] (k80 b n2 n4)
def L6g (b n2 n4 n6 : Nat) (e : Env) (S : Store) : RT := loopL (fun K e S => execL (C b) 6 c81 K e S) (normG [1, 3, 4, 6, 7, 8, 9, 10, 11] [] n6) (k82 b n2 n4 n6) e S
def L6 (b n2 n4 n6 : Nat) (x1 x3 x4 x6 x7 x8 x9 x10 x11 : PV) (S : Store) : RT := L6g b n2 n4 n6 (ee10 x1 x3 x4 x6 x7 x8 x9 x10 x11) S
def k83 (b n2 n4 n6 : Nat) : KT := stepC (normG [1, 3, 4, 6, 7, 8, 9, 10, 11] [] n6) (k82 b n2 n4 n6) (L6g b n2 n4 n6)
@[go_sem] theorem k83_n : k83 b n2 n4 n6 .normal (ee10 x1 x3 x4 x6 x7 x8 x9 x10 x11) S = L6 b n2 n4 n6 x1 x3 x4 x6 x7 x8 x9 x10 x11 (gc n6 (ee10 x1 x3 x4 x6 x7 x8 x9 x10 x11) S) := nr (by kernel_rfl)
@[go_sem] theorem k83_x1 : k83 b n2 n4 n6 (.exit 6) (ee11 x1 x3 x4 x6 x7 x8 x9 x10 x11 x61) S = (k80 b n2 n4) (.exit 6) (ee11 x1 x3 x4 x6 x7 x8 x9 x10 .undef .undef) (gc n6 (ee11 x1 x3 x4 x6 x7 x8 x9 x10 .undef .undef) S) := nr ((show k83 b n2 n4 n6 (.exit 6) (ee11 x1 x3 x4 x6 x7 x8 x9 x10 x11 x61) S = (k82 b n2 n4 n6) (.exit 6) (ee11 x1 x3 x4 x6 x7 x8 x9 x10 x11 x61) S from stepC_x _ _ _ _ _ _).trans ((show (k82 b n2 n4 n6) (.exit 6) (ee11 x1 x3 x4 x6 x7 x8 x9 x10 x11 x61) S = _ from afterC_x _ _ _ _ _ _ _).trans (if_pos rfl)))
def c84 : Code := at0 c81
def c85 : Code := at1 c81
def c86 : Code := at0 c85
def c87 : Code := at1 c85
def k88 (b n2 n4 n6 : Nat) : KT := seqC (fun e S => execL (C b) 6 c87 (k83 b n2 n4 n6) e S) (k83 b n2 n4 n6)
@[go_sem] theorem g89 : execL (C b) 6 c87 K (ee10 x1 x3 x4 x6 x7 x8 x9 x10 x11) S =
  withV (some x11) fun x62 =>
    withV (evBin .add (tyi Try.prog 3) x62 (.int .i64 1)) fun x63 =>
    withV (some x63) fun x11 =>
    K .normal (ee10 x1 x3 x4 x6 x7 x8 x9 x10 x11) S := nr (by kernel_rfl)
@[go_sem] theorem k88_n : k88 b n2 n4 n6 .normal e S = execL (C b) 6 c87 (k83 b n2 n4 n6) e S := nr (seqN rfl)
def k90 (b n2 n4 n6 : Nat) : KT := seqC (fun e S => execL (C b) 6 c85 (k83 b n2 n4 n6) e S) (k83 b n2 n4 n6)
def c91 : Code := atB c86
def k92 (b n2 n4 n6 : Nat) : KT := blockC 7 (k88 b n2 n4 n6)
@[go_sem] theorem k92_n : k92 b n2 n4 n6 .normal e S = (k88 b n2 n4 n6) .normal e S := nr (blockC_n _ _ _ _)
def c93 : Code := at0 c91
def c94 : Code := at1 c91
def k95 (b n2 n4 n6 : Nat) : KT := seqC (fun e S => execL (C b) 7 c94 (k92 b n2 n4 n6) e S) (k92 b n2 n4 n6)
def c96 : Code := atT c94
def c97 : Code := atF c94
@[go_sem] theorem g99 : execL (C b) 7 c96 K (ee12 x1 x3 x4 x6 x7 x8 x9 x10 x11 x75) S =
  withV (some (.bool true)) fun x9 =>
    K .normal (ee10 x1 x3 x4 x6 x7 x8 x9 x10 x11) S := nr (by kernel_rfl)
@[go_sem] theorem g101 : execL (C b) 7 c97 K (ee12 x1 x3 x4 x6 x7 x8 x9 x10 x11 x75) S =
  withV (some (.bool false)) fun x10 =>
    K .normal (ee10 x1 x3 x4 x6 x7 x8 x9 x10 x11) S := nr (by kernel_rfl)
@[go_sem] theorem k95_n : k95 b n2 n4 n6 .normal (ee12 x1 x3 x4 x6 x7 x8 x9 x10 x11 x75) S =
  condC x75 (execL (C b) 7 c96 (k92 b n2 n4 n6) (ee12 x1 x3 x4 x6 x7 x8 x9 x10 x11 x75) S)
    (execL (C b) 7 c97 (k92 b n2 n4 n6) (ee12 x1 x3 x4 x6 x7 x8 x9 x10 x11 x75) S) := nr (seqN (condE (t := 75) (by kernel_rfl) (rfl) (rfl) rfl))
@[go_sem] theorem g102 : execL (C b) 7 c93 K (ee11 x1 x3 x4 x6 x7 x8 x9 x10 x11 x61) S =
  withV (some x4) fun x64 =>
    withV (evFieldAddr (tyi Try.prog 26) 1 x1) fun x65 =>
    withV (evLoad (tyi Try.prog 23) S x65) fun x66 =>
    withV (some x8) fun x67 =>
    withV (indexAddrO Try.prog 23 S x66 x67) fun x68 =>
    withV (evLoad (tyi Try.prog 22) S x68) fun x69 =>
    withV (some x11) fun x70 =>
    withV (indexAddrO Try.prog 22 S x69 x70) fun x71 =>
    withV (evLoad (tyi Try.prog 3) S x71) fun x72 =>
    withV (indexAddrO Try.prog 22 S x64 x72) fun x73 =>
    withV (evLoad (tyi Try.prog 3) S x73) fun x74 =>
    withV (evBin .geq (tyi Try.prog 3) x74 (.int .i64 0)) fun x75 =>
    K .normal (ee12 x1 x3 x4 x6 x7 x8 x9 x10 x11 x75) S := nr (by kernel_rfl)
@[go_sem] theorem k90_n : k90 b n2 n4 n6 .normal (ee11 x1 x3 x4 x6 x7 x8 x9 x10 x11 x61) S =
  execL (C b) 7 c93 (k95 b n2 n4 n6) (ee11 x1 x3 x4 x6 x7 x8 x9 x10 x11 x61) S := nr (seqN ((enterS (by kernel_rfl)).trans ((blockE (by kernel_rfl)).trans (enterS (by kernel_rfl)))))
@[go_sem] theorem k90_exit : k90 b n2 n4 n6 (.exit i) e S = (k83 b n2 n4 n6) (.exit i) e S := nr (seqC_x _ _ _ _ _)
def c103 : Code := at0 c84
def c104 : Code := at1 c84
def k105 (b n2 n4 n6 : Nat) : KT := seqC (fun e S => execL (C b) 6 c104 (k90 b n2 n4 n6) e S) (k90 b n2 n4 n6)
@[go_sem] theorem k105_n : k105 b n2 n4 n6 .normal (ee11 x1 x3 x4 x6 x7 x8 x9 x10 x11 x61) S =
  condC x61 ((k90 b n2 n4 n6) .normal (ee11 x1 x3 x4 x6 x7 x8 x9 x10 x11 x61) S)
    ((k90 b n2 n4 n6) (.exit 6) (ee11 x1 x3 x4 x6 x7 x8 x9 x10 x11 x61) S) := nr (seqN (condE (t := 61) (by kernel_rfl) (execL_skip (by kernel_rfl)) (execL_exit (by kernel_rfl)) rfl))
@[go_sem] theorem g108 : execL (C b) 6 c103 K (ee10 x1 x3 x4 x6 x7 x8 x9 x10 x11) S =
  withV (some x11) fun x54 =>
    withV (evFieldAddr (tyi Try.prog 26) 1 x1) fun x55 =>
    withV (evLoad (tyi Try.prog 23) S x55) fun x56 =>
    withV (some x8) fun x57 =>
    withV (indexAddrO Try.prog 23 S x56 x57) fun x58 =>
    withV (evLoad (tyi Try.prog 22) S x58) fun x59 =>
    withV (lenO (tyi Try.prog 22) x59) fun x60 =>
    withV (evBin .lss (tyi Try.prog 3) x54 x60) fun x61 =>
    K .normal (ee11 x1 x3 x4 x6 x7 x8 x9 x10 x11 x61) S := nr (by kernel_rfl)
def B6 (b n2 n4 n6 : Nat) (x1 x3 x4 x6 x7 x8 x9 x10 x11 : PV) (S : Store) : RT := execL (C b) 6 c81 (k83 b n2 n4 n6) (ee10 x1 x3 x4 x6 x7 x8 x9 x10 x11) S
@[go_sem] theorem B6_eq : B6 b n2 n4 n6 x1 x3 x4 x6 x7 x8 x9 x10 x11 S =
  execL (C b) 6 c103 (k105 b n2 n4 n6) (ee10 x1 x3 x4 x6 x7 x8 x9 x10 x11) S := nr ((enterS (by kernel_rfl)).trans (enterS (by kernel_rfl)))
theorem L6_step {b n2 n4 n6 : Nat} {x1 x3 x4 x6 x7 x8 x9 x10 x11 : PV} {S : Store} {z : PV × Store} (h : B6 b n2 n4 n6 x1 x3 x4 x6 x7 x8 x9 x10 x11 S = some z) : L6 b n2 n4 n6 x1 x3 x4 x6 x7 x8 x9 x10 x11 S = some z := loopL_step h
theorem L6_in (b n2 n4 : Nat) (x1 x3 x4 x6 x7 x8 x9 x10 x11 : PV) (S : Store) : execL (C b) 6 c79 (k80 b n2 n4) (ee10 x1 x3 x4 x6 x7 x8 x9 x10 x11) S = L6 b n2 n4 (List.length S) x1 x3 x4 x6 x7 x8 x9 x10 x11 S := by kernel_rfl
@[go_sem] theorem k78_n : k78 b n2 n4 .normal (ee10 x1 x3 x4 x6 x7 x8 x9 x10 x11) S =
  L6 b n2 n4 (List.length S) x1 x3 x4 x6 x7 x8 x9 x10 x11 S := nr (seqN ((blockE (by kernel_rfl)).trans (L6_in b n2 n4 x1 x3 x4 x6 x7 x8 x9 x10 x11 S)))
@[go_sem] theorem g110 : execL (C b) 5 c76 K (ee9 x1 x3 x4 x6 x7 x8 x9 x10) S =
  withV (some (.int .i64 0)) fun x11 =>
    K .normal (ee10 x1 x3 x4 x6 x7 x8 x9 x10 x11) S := nr (by kernel_rfl)
@[go_sem] theorem k75_n : k75 b n2 n4 .normal (ee9 x1 x3 x4 x6 x7 x8 x9 x10) S =
  execL (C b) 5 c76 (k78 b n2 n4) (ee9 x1 x3 x4 x6 x7 x8 x9 x10) S := nr (seqN ((enterS (by kernel_rfl)).trans (enterS (by kernel_rfl))))
def k111 (b n2 n4 : Nat) : KT := seqC (fun e S => execL (C b) 5 c61 (k59 b n2 n4) e S) (k59 b n2 n4)
@[go_sem] theorem g112 : execL (C b) 5 c62 K (ee14 x1 x3 x4 x6 x7 x8 x53 x95) S =
  withV (some (.bool false)) fun x9 =>
    withV (some (.bool true)) fun x10 =>
    K .normal (ee9 x1 x3 x4 x6 x7 x8 x9 x10) S := nr (by kernel_rfl)
@[go_sem] theorem k111_n : k111 b n2 n4 .normal e S = execL (C b) 5 c62 (k75 b n2 n4) e S := nr (seqN (enterS (by kernel_rfl)))
@[go_sem] theorem k111_exit : k111 b n2 n4 (.exit i) e S = (k59 b n2 n4) (.exit i) e S := nr (seqC_x _ _ _ _ _)
def c113 : Code := at0 c60
def c114 : Code := at1 c60
def k115 (b n2 n4 : Nat) : KT := seqC (fun e S => execL (C b) 5 c114 (k111 b n2 n4) e S) (k111 b n2 n4)
@[go_sem] theorem k115_n : k115 b n2 n4 .normal (ee14 x1 x3 x4 x6 x7 x8 x53 x95) S =
  condC x53 ((k111 b n2 n4) (.exit 5) (ee14 x1 x3 x4 x6 x7 x8 x53 x95) S)
    ((k111 b n2 n4) .normal (ee14 x1 x3 x4 x6 x7 x8 x53 x95) S) := nr (seqN (condE (t := 53) (by kernel_rfl) (execL_exit (by kernel_rfl)) (execL_skip (by kernel_rfl)) rfl))
@[go_sem] theorem g118 : execL (C b) 5 c113 K (ee13 x1 x3 x4 x6 x7 x8 x46) S =
  withV (some x4) fun x49 =>
    withV (some x8) fun x50 =>
    withV (indexAddrO Try.prog 22 S x49 x50) fun x51 =>
    withV (evLoad (tyi Try.prog 3) S x51) fun x52 =>
    withV (evBin .geq (tyi Try.prog 3) x52 (.int .i64 0)) fun x53 =>
    K .normal (ee14 x1 x3 x4 x6 x7 x8 x53 .undef) S := nr (by kernel_rfl)
@[go_sem] theorem k57_n : k57 b n2 n4 .normal (ee13 x1 x3 x4 x6 x7 x8 x46) S =
  execL (C b) 5 c113 (k115 b n2 n4) (ee13 x1 x3 x4 x6 x7 x8 x46) S := nr (seqN ((enterS (by kernel_rfl)).trans ((blockE (by kernel_rfl)).trans ((enterS (by kernel_rfl)).trans (enterS (by kernel_rfl))))))
@[go_sem] theorem k57_exit : k57 b n2 n4 (.exit i) e S = (k50 b n2 n4) (.exit i) e S := nr (seqC_x _ _ _ _ _)
def c119 : Code := at0 c51
def c120 : Code := at1 c51
def k121 (b n2 n4 : Nat) : KT := seqC (fun e S => execL (C b) 4 c120 (k57 b n2 n4) e S) (k57 b n2 n4)
@[go_sem] theorem k121_n : k121 b n2 n4 .normal (ee13 x1 x3 x4 x6 x7 x8 x46) S =
  condC x46 ((k57 b n2 n4) .normal (ee13 x1 x3 x4 x6 x7 x8 x46) S)
    ((k57 b n2 n4) (.exit 4) (ee13 x1 x3 x4 x6 x7 x8 x46) S) := nr (seqN (condE (t := 46) (by kernel_rfl) (execL_skip (by kernel_rfl)) (execL_exit (by kernel_rfl)) rfl))
@[go_sem] theorem g124 : execL (C b) 4 c119 K (ee8 x1 x3 x4 x6 x7 x8) S =
  withV (some x8) fun x44 =>
    withV (some x3) fun x45 =>
    withV (evBin .lss (tyi Try.prog 3) x44 x45) fun x46 =>
    K .normal (ee13 x1 x3 x4 x6 x7 x8 x46) S := nr (by kernel_rfl)
def B4 (b n2 n4 : Nat) (x1 x3 x4 x6 x7 x8 : PV) (S : Store) : RT := execL (C b) 4 c48 (k50 b n2 n4) (ee8 x1 x3 x4 x6 x7 x8) S
@[go_sem] theorem B4_eq : B4 b n2 n4 x1 x3 x4 x6 x7 x8 S =
  execL (C b) 4 c119 (k121 b n2 n4) (ee8 x1 x3 x4 x6 x7 x8) S := nr ((enterS (by kernel_rfl)).trans (enterS (by kernel_rfl)))
theorem L4_step {b n2 n4 : Nat} {x1 x3 x4 x6 x7 x8 : PV} {S : Store} {z : PV × Store} (h : B4 b n2 n4 x1 x3 x4 x6 x7 x8 S = some z) : L4 b n2 n4 x1 x3 x4 x6 x7 x8 S = some z := loopL_step h
theorem L4_in (b n2 : Nat) (x1 x3 x4 x6 x7 x8 : PV) (S : Store) : execL (C b) 4 c46 (k47 b n2) (ee8 x1 x3 x4 x6 x7 x8) S = L4 b n2 (List.length S) x1 x3 x4 x6 x7 x8 S := by kernel_rfl
@[go_sem] theorem k45_n : k45 b n2 .normal (ee8 x1 x3 x4 x6 x7 x8) S =
  L4 b n2 (List.length S) x1 x3 x4 x6 x7 x8 S := nr (seqN ((blockE (by kernel_rfl)).trans (L4_in b n2 x1 x3 x4 x6 x7 x8 S)))
@[go_sem] theorem g126 : execL (C b) 3 c43 K (ee7 x1 x3 x4 x6 x7) S =
  withV (some (.int .i64 0)) fun x8 =>
    K .normal (ee8 x1 x3 x4 x6 x7 x8) S := nr (by kernel_rfl)
@[go_sem] theorem k42_n : k42 b n2 .normal (ee7 x1 x3 x4 x6 x7) S =
  execL (C b) 3 c43 (k45 b n2) (ee7 x1 x3 x4 x6 x7) S := nr (seqN ((enterS (by kernel_rfl)).trans (enterS (by kernel_rfl))))
def k127 (b n2 : Nat) : KT := seqC (fun e S => execL (C b) 3 c35 (k33 b n2) e S) (k33 b n2)
@[go_sem] theorem g128 : execL (C b) 3 c36 K (ee7 x1 x3 x4 x6 x7) S =
  withV (some x7) fun x41 =>
    withV (some x4) fun x42 =>
    withS (copyE Try.prog 22 22 S x41 x42) fun x43 S =>
    K .normal (ee7 x1 x3 x4 x6 x7) S := nr (by kernel_rfl)
@[go_sem] theorem k127_n : k127 b n2 .normal e S = execL (C b) 3 c36 (k42 b n2) e S := nr (seqN (enterS (by kernel_rfl)))
@[go_sem] theorem g129 : execL (C b) 3 c34 K (ee15 x1 x3 x4 x6 x36) S =
  withV (some x3) fun x39 =>
    withN (makeSliceO Try.prog 22 (List.length S) x39 x39) S fun x40 S =>
    withV (some x40) fun x7 =>
    K .normal (ee7 x1 x3 x4 x6 x7) S := nr (by kernel_rfl)
@[go_sem] theorem k31_n : k31 b n2 .normal (ee15 x1 x3 x4 x6 x36) S =
  execL (C b) 3 c34 (k127 b n2) (ee15 x1 x3 x4 x6 x36) S := nr (seqN ((enterS (by kernel_rfl)).trans ((blockE (by kernel_rfl)).trans (enterS (by kernel_rfl)))))
@[go_sem] theorem k31_exit : k31 b n2 (.exit i) e S = (k24 b n2) (.exit i) e S := nr (seqC_x _ _ _ _ _)
def c130 : Code := at0 c25
def c131 : Code := at1 c25
def k132 (b n2 : Nat) : KT := seqC (fun e S => execL (C b) 2 c131 (k31 b n2) e S) (k31 b n2)
@[go_sem] theorem k132_n : k132 b n2 .normal (ee15 x1 x3 x4 x6 x36) S =
  condC x36 ((k31 b n2) .normal (ee15 x1 x3 x4 x6 x36) S)
    ((k31 b n2) (.exit 2) (ee15 x1 x3 x4 x6 x36) S) := nr (seqN (condE (t := 36) (by kernel_rfl) (execL_skip (by kernel_rfl)) (execL_exit (by kernel_rfl)) rfl))
@[go_sem] theorem g135 : execL (C b) 2 c130 K (ee6 x1 x3 x4 x6) S =
  withV (some x6) fun x33 =>
    withV (some x3) fun x34 =>
    withV (evBin .add (tyi Try.prog 3) x34 (.int .i64 1)) fun x35 =>
    withV (evBin .leq (tyi Try.prog 3) x33 x35) fun x36 =>
    K .normal (ee15 x1 x3 x4 x6 x36) S := nr (by kernel_rfl)
def B2 (b n2 : Nat) (x1 x3 x4 x6 : PV) (S : Store) : RT := execL (C b) 2 c22 (k24 b n2) (ee6 x1 x3 x4 x6) S
@[go_sem] theorem B2_eq : B2 b n2 x1 x3 x4 x6 S =
  execL (C b) 2 c130 (k132 b n2) (ee6 x1 x3 x4 x6) S := nr ((enterS (by kernel_rfl)).trans (enterS (by kernel_rfl)))
theorem L2_step {b n2 : Nat} {x1 x3 x4 x6 : PV} {S : Store} {z : PV × Store} (h : B2 b n2 x1 x3 x4 x6 S = some z) : L2 b n2 x1 x3 x4 x6 S = some z := loopL_step h
theorem L2_in (b : Nat) (x1 x3 x4 x6 : PV) (S : Store) : execL (C b) 2 c20 (k21 b) (ee6 x1 x3 x4 x6) S = L2 b (List.length S) x1 x3 x4 x6 S := by kernel_rfl
@[go_sem] theorem k19_n : k19 b .normal (ee6 x1 x3 x4 x6) S =
  L2 b (List.length S) x1 x3 x4 x6 S := nr (seqN ((blockE (by kernel_rfl)).trans (L2_in b x1 x3 x4 x6 S)))
@[go_sem] theorem g137 : execL (C b) 0 c17 K (ee4 x1 x3 x4 x5 x19) S =
  withV (some (.int .i64 1)) fun x6 =>
    K .normal (ee6 x1 x3 x4 x6) S := nr (by kernel_rfl)
@[go_sem] theorem k16_n : k16 b .normal (ee4 x1 x3 x4 x5 x19) S =
  execL (C b) 0 c17 (k19 b) (ee4 x1 x3 x4 x5 x19) S := nr (seqN ((enterS (by kernel_rfl)).trans (enterS (by kernel_rfl))))
def k138 (b : Nat) : KT := seqC (fun e S => execL (C b) 0 c6 (k0 b) e S) (k0 b)
def c139 : Code := at0 c7
def c140 : Code := at1 c7
def k141 (b : Nat) : KT := seqC (fun e S => execL (C b) 0 c140 (k16 b) e S) (k16 b)
def c142 : Code := atB c140
def k143 (b : Nat) : KT := blockC 0 (k16 b)
@[go_sem] theorem k143_exit : k143 b (.exit i) e S = if i = 0 then (k16 b) .normal e S else (k16 b) (.exit i) e S := nr (blockC_x _ _ _ _ _)
def c144 : Code := atL c142
def k145 (b n0 : Nat) : KT := afterC 0 n0 [1, 3, 4] (k143 b)
def L0g (b n0 : Nat) (e : Env) (S : Store) : RT := loopL (fun K e S => execL (C b) 0 c144 K e S) (normG [1, 3, 4, 5] [] n0) (k145 b n0) e S
def L0 (b n0 : Nat) (x1 x3 x4 x5 : PV) (S : Store) : RT := L0g b n0 (ee3 x1 x3 x4 x5) S
def k146 (b n0 : Nat) : KT := stepC (normG [1, 3, 4, 5] [] n0) (k145 b n0) (L0g b n0)
@[go_sem] theorem k146_n : k146 b n0 .normal (ee3 x1 x3 x4 x5) S = L0 b n0 x1 x3 x4 x5 (gc n0 (ee3 x1 x3 x4 x5) S) := nr (by kernel_rfl)
@[go_sem] theorem k146_x1 : k146 b n0 (.exit 0) (ee4 x1 x3 x4 x5 x19) S = (k143 b) (.exit 0) (ee4 x1 x3 x4 .undef .undef) (gc n0 (ee4 x1 x3 x4 .undef .undef) S) := nr ((show k146 b n0 (.exit 0) (ee4 x1 x3 x4 x5 x19) S = (k145 b n0) (.exit 0) (ee4 x1 x3 x4 x5 x19) S from stepC_x _ _ _ _ _ _).trans ((show (k145 b n0) (.exit 0) (ee4 x1 x3 x4 x5 x19) S = _ from afterC_x _ _ _ _ _ _ _).trans (if_pos rfl)))
def c147 : Code := at0 c144
def c148 : Code := at1 c144
def c149 : Code := at0 c148
def c150 : Code := at1 c148
def k151 (b n0 : Nat) : KT := seqC (fun e S => execL (C b) 0 c150 (k146 b n0) e S) (k146 b n0)
@[go_sem] theorem g152 : execL (C b) 0 c150 K (ee5 x1 x3 x4 x5 x29) S =
  withV (some x5) fun x20 =>
    withV (evBin .add (tyi Try.prog 3) x20 (.int .i64 1)) fun x21 =>
    withV (some x21) fun x5 =>
    K .normal (ee3 x1 x3 x4 x5) S := nr (by kernel_rfl)
@[go_sem] theorem k151_n : k151 b n0 .normal e S = execL (C b) 0 c150 (k146 b n0) e S := nr (seqN rfl)
def k153 (b n0 : Nat) : KT := seqC (fun e S => execL (C b) 0 c148 (k146 b n0) e S) (k146 b n0)
def c154 : Code := atB c149
def k155 (b n0 : Nat) : KT := blockC 1 (k151 b n0)
@[go_sem] theorem k155_n : k155 b n0 .normal e S = (k151 b n0) .normal e S := nr (blockC_n _ _ _ _)
def c156 : Code := at0 c154
def c157 : Code := at1 c154
def c158 : Code := at0 c157
def c159 : Code := at1 c157
def k160 (b n0 : Nat) : KT := seqC (fun e S => execL (C b) 1 c159 (k155 b n0) e S) (k155 b n0)
def c161 : Code := atT c159
@[go_sem] theorem g164 : execL (C b) 1 c161 K (ee5 x1 x3 x4 x5 x29) S =
  withV (some x4) fun x30 =>
    withV (some x5) fun x31 =>
    withV (indexAddrO Try.prog 22 S x30 x31) fun x32 =>
    withS (storeE (tyi Try.prog 3) S x32 (.int .i64 0)) fun _u S =>
    K .normal (ee5 x1 x3 x4 x5 x29) S := nr (by kernel_rfl)
@[go_sem] theorem k160_n : k160 b n0 .normal (ee5 x1 x3 x4 x5 x29) S =
  condC x29 (execL (C b) 1 c161 (k155 b n0) (ee5 x1 x3 x4 x5 x29) S)
    ((k155 b n0) .normal (ee5 x1 x3 x4 x5 x29) S) := nr (seqN (condE (t := 29) (by kernel_rfl) (rfl) (execL_skip (by kernel_rfl)) rfl))
def k165 (b n0 : Nat) : KT := seqC (fun e S => execL (C b) 1 c157 (k155 b n0) e S) (k155 b n0)
@[go_sem] theorem g166 : execL (C b) 1 c158 K (ee3 x1 x3 x4 x5) S =
  withV (evFieldAddr (tyi Try.prog 26) 2 x1) fun x25 =>
    withV (evLoad (tyi Try.prog 24) S x25) fun x26 =>
    withV (some x5) fun x27 =>
    withV (indexAddrO Try.prog 24 S x26 x27) fun x28 =>
    withV (evLoad (tyi Try.prog 4) S x28) fun x29 =>
    K .normal (ee5 x1 x3 x4 x5 x29) S := nr (by kernel_rfl)
@[go_sem] theorem k165_n : k165 b n0 .normal e S = execL (C b) 1 c158 (k160 b n0) e S := nr (seqN (enterS (by kernel_rfl)))
@[go_sem] theorem g167 : execL (C b) 1 c156 K (ee4 x1 x3 x4 x5 x19) S =
  withV (some x4) fun x22 =>
    withV (some x5) fun x23 =>
    withV (indexAddrO Try.prog 22 S x22 x23) fun x24 =>
    withS (storeE (tyi Try.prog 3) S x24 (.int .i64 (-1))) fun _u S =>
    K .normal (ee3 x1 x3 x4 x5) S := nr (by kernel_rfl)
@[go_sem] theorem k153_n : k153 b n0 .normal (ee4 x1 x3 x4 x5 x19) S =
  execL (C b) 1 c156 (k165 b n0) (ee4 x1 x3 x4 x5 x19) S := nr (seqN ((enterS (by kernel_rfl)).trans ((blockE (by kernel_rfl)).trans (enterS (by kernel_rfl)))))
@[go_sem] theorem k153_exit : k153 b n0 (.exit i) e S = (k146 b n0) (.exit i) e S := nr (seqC_x _ _ _ _ _)
def c168 : Code := at0 c147
def c169 : Code := at1 c147
def k170 (b n0 : Nat) : KT := seqC (fun e S => execL (C b) 0 c169 (k153 b n0) e S) (k153 b n0)
@[go_sem] theorem k170_n : k170 b n0 .normal (ee4 x1 x3 x4 x5 x19) S =
  condC x19 ((k153 b n0) .normal (ee4 x1 x3 x4 x5 x19) S)
    ((k153 b n0) (.exit 0) (ee4 x1 x3 x4 x5 x19) S) := nr (seqN (condE (t := 19) (by kernel_rfl) (execL_skip (by kernel_rfl)) (execL_exit (by kernel_rfl)) rfl))
@[go_sem] theorem g173 : execL (C b) 0 c168 K (ee3 x1 x3 x4 x5) S =
  withV (some x5) fun x17 =>
    withV (some x3) fun x18 =>
    withV (evBin .lss (tyi Try.prog 3) x17 x18) fun x19 =>
    K .normal (ee4 x1 x3 x4 x5 x19) S := nr (by kernel_rfl)
def B0 (b n0 : Nat) (x1 x3 x4 x5 : PV) (S : Store) : RT := execL (C b) 0 c144 (k146 b n0) (ee3 x1 x3 x4 x5) S
@[go_sem] theorem B0_eq : B0 b n0 x1 x3 x4 x5 S =
  execL (C b) 0 c168 (k170 b n0) (ee3 x1 x3 x4 x5) S := nr ((enterS (by kernel_rfl)).trans (enterS (by kernel_rfl)))
theorem L0_step {b n0 : Nat} {x1 x3 x4 x5 : PV} {S : Store} {z : PV × Store} (h : B0 b n0 x1 x3 x4 x5 S = some z) : L0 b n0 x1 x3 x4 x5 S = some z := loopL_step h
theorem L0_in (b : Nat) (x1 x3 x4 x5 : PV) (S : Store) : execL (C b) 0 c142 (k143 b) (ee3 x1 x3 x4 x5) S = L0 b (List.length S) x1 x3 x4 x5 S := by kernel_rfl
@[go_sem] theorem k141_n : k141 b .normal (ee3 x1 x3 x4 x5) S =
  L0 b (List.length S) x1 x3 x4 x5 S := nr (seqN ((blockE (by kernel_rfl)).trans (L0_in b x1 x3 x4 x5 S)))
@[go_sem] theorem g175 : execL (C b) 0 c139 K (ee2 x1 x3 x4) S =
  withV (some (.int .i64 0)) fun x5 =>
    K .normal (ee3 x1 x3 x4 x5) S := nr (by kernel_rfl)
@[go_sem] theorem k138_n : k138 b .normal (ee2 x1 x3 x4) S =
  execL (C b) 0 c139 (k141 b) (ee2 x1 x3 x4) S := nr (seqN ((enterS (by kernel_rfl)).trans (enterS (by kernel_rfl))))
def k176 (b : Nat) : KT := seqC (fun e S => execL (C b) 0 c4 (k0 b) e S) (k0 b)
@[go_sem] theorem g177 : execL (C b) 0 c5 K (ee1 x1 x3) S =
  withV (some x3) fun x15 =>
    withN (makeSliceO Try.prog 22 (List.length S) x15 x15) S fun x16 S =>
    withV (some x16) fun x4 =>
    K .normal (ee2 x1 x3 x4) S := nr (by kernel_rfl)
@[go_sem] theorem k176_n : k176 b .normal e S = execL (C b) 0 c5 (k138 b) e S := nr (seqN (enterS (by kernel_rfl)))
def k178 (b : Nat) : KT := seqC (fun e S => execL (C b) 0 c2 (k0 b) e S) (k0 b)
@[go_sem] theorem g179 : execL (C b) 0 c3 K (ee0 x1) S =
  withV (evFieldAddr (tyi Try.prog 26) 0 x1) fun x12 =>
    withV (evLoad (tyi Try.prog 22) S x12) fun x13 =>
    withV (lenO (tyi Try.prog 22) x13) fun x14 =>
    withV (some x14) fun x3 =>
    K .normal (ee1 x1 x3) S := nr (by kernel_rfl)
@[go_sem] theorem k178_n : k178 b .normal e S = execL (C b) 0 c3 (k176 b) e S := nr (seqN (enterS (by kernel_rfl)))
@[go_sem] theorem g180 : execL (C b) 0 c1 K [(0, x0)] S =
  withN (boxed S (List.length S) (TI.size (tyi Try.prog 26)) x0) S fun x1 S =>
    withV (some (.sl [] true)) fun x2 =>
    K .normal (ee0 x1) S := nr (by kernel_rfl)
def E (b : Nat) (x0 : PV) (S : Store) : RT := execL (C b) 0 code (k0 b) [(0, x0)] S
@[go_sem] theorem E_eq : E b x0 S =
  execL (C b) 0 c1 (k178 b) [(0, x0)] S := nr (enterS (by kernel_rfl))
@[go_sem] theorem k0_ret16 : k0 b .ret (ee16 x2) S = some (x2, S) := nr (by kernel_rfl)
theorem call {x0 : PV} {r : PV × Store} {v : PV} (h : E 0 x0 [] = some r) (hv : fzPV r.2 r.1 = some v) : callL Try.prog hints 58 [x0] = some v := callL_of (fn := Try.f58) (c := code) (by kernel_rfl) (by kernel_rfl) (by decide) (by kernel_rfl) (Nat.le_of_ble_eq_true (by kernel_rfl)) h hv
end
end F58
end
end Go.Vs
end

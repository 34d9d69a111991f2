/- Games as data; game.Check: what it returns. -/

import Derived.Test.YtnddhkcciphhkaaMX11
import Derived.Test.YtnddhkcciphhkaaMX13
import Derived.Test.YtnddhkcciphhkaaMX15
import Derived.Test.YtnddhkcciphhkaaMX16
section
set_option linter.unusedVariables false
set_option linter.unusedSimpArgs false
namespace Go.Vs
open Go Go.Proofs
structure Game where
  owner : List Int
  moves : List (List Int)
  goal : List Bool
def boolRows (l : List Bool) : List (List PV) := l.map fun b => [.bool b]
def Game.cells (g : Game) : List PV := [.sl (intRows g.owner) false, .sl (pathRows g.moves) false, .sl (boolRows g.goal) false]
structure Game.ok (g : Game) : Prop where
  owner : g.owner.length ≤ maxLen
  moves : g.moves.length ≤ maxLen
  goal : g.goal.length ≤ maxLen
  each : ∀ l ∈ g.moves, l.length ≤ maxLen
  ints : ∀ l ∈ g.moves, ∀ w ∈ l, -9223372036854775808 ≤ w ∧ w ≤ 9223372036854775807
theorem und23 : Try.prog.underlying 23 = some (.slice 22) := by kernel_rfl
theorem und24 : Try.prog.underlying 24 = some (.slice 4) := by kernel_rfl
theorem ft26 : fieldTypes Try.prog 26 = some [22, 23, 24] := by kernel_rfl
theorem Dt.ints {k : Nat} {pvs : List PV} (h : Dt Try.prog k 22 pvs) : ∃ l : List Int, l.length ≤ maxLen ∧ (∀ w ∈ l, -9223372036854775808 ≤ w ∧ w ≤ 9223372036854775807) ∧ pvs = [.sl (intRows l) false] := by
  obtain ⟨k', rfl, rows, rfl, h1, h2⟩ := h.slice und22
  obtain ⟨l, h3, rfl⟩ := rows_choose (Q := fun w => -9223372036854775808 ≤ w ∧ w ≤ 9223372036854775807) (f := fun w : Int => [.int .i64 w]) (fun r hr => by
    obtain ⟨n, h5, h6⟩ := Dt.int und3 hr
    exact ⟨n, wf_i64 h5, h6⟩) rows h2
  exact ⟨l, by simpa using h1, h3, rfl⟩
theorem Dt.game {k : Nat} {pvs : List PV} (h : Dt Try.prog k 26 pvs) : ∃ g : Game, g.ok ∧ pvs = g.cells := by
  obtain ⟨k1, rfl, pss, rfl, s0⟩ := h.struct ft26
  obtain ⟨p1, z1, rfl, h1, s1⟩ := s0.inv
  obtain ⟨p2, z2, rfl, h2, s2⟩ := s1.inv
  obtain ⟨p3, z3, rfl, h3, s3⟩ := s2.inv
  obtain rfl := s3.inv0
  obtain ⟨o, ho, _, rfl⟩ := h1.ints
  obtain ⟨k2, rfl, rows, rfl, hm, hm'⟩ := h2.slice und23
  obtain ⟨m, hm2, rfl⟩ := rows_choose (Q := fun l : List Int => l.length ≤ maxLen ∧ ∀ w ∈ l, -9223372036854775808 ≤ w ∧ w ≤ 9223372036854775807) (f := fun l : List Int => [.sl (intRows l) false]) (fun r hr => by
    obtain ⟨l, a1, a2, a3⟩ := Dt.ints hr
    exact ⟨l, ⟨a1, a2⟩, a3⟩) rows hm'
  obtain ⟨k3, hk3, rows, rfl, hg, hg'⟩ := h3.slice und24
  obtain ⟨b, _, rfl⟩ := rows_choose (Q := fun _ : Bool => True) (f := fun b : Bool => [.bool b]) (fun r hr => by
    obtain ⟨b, hb⟩ := Dt.bool und4 hr
    exact ⟨b, trivial, hb⟩) rows hg'
  exact ⟨⟨o, m, b⟩, ⟨ho, by simpa using hm, by simpa using hg, fun l hl => (hm2 l hl).1, fun l hl => (hm2 l hl).2⟩, by simp [Game.cells, pathRows, boolRows]⟩
theorem Arg.game {k : Nat} {pv : PV} (h : Arg Try.prog k 26 pv) : ∃ g : Game, g.ok ∧ pv = .agg g.cells := by
  have hf := ft26
  unfold fieldTypes at hf
  split at hf
  · rename_i fs hu
    simp only [Arg, hu] at h
    obtain ⟨cells, rfl, h⟩ := h
    obtain ⟨n, h1, h2⟩ := Dt.game h
    exact ⟨n, h1, by rw [h2]⟩
  · cases hf
/-! ### Operations on games -/
@[go_sem] theorem d26 : (tyi Try.prog 26).d = .struct [(0, 1, false), (1, 1, false), (2, 1, false)] := nr (by kernel_rfl)
@[go_sem] theorem d24 : (tyi Try.prog 24).d = .slice 4 := nr (by kernel_rfl)
@[go_sem] theorem size26 : (tyi Try.prog 26).size = 3 := nr (by kernel_rfl)
@[go_sem] theorem known26 : (tyi Try.prog 26).known = true := nr (by kernel_rfl)
@[go_sem] theorem known24 : (tyi Try.prog 24).known = true := nr (by kernel_rfl)
@[go_sem] theorem part24 (v : PV) (r : List PV) : part (tyi Try.prog 24) (v :: r) = some v := by simp [part, known24, TI.isAgg, d24]
@[go_sem] theorem Game.part26 (g : Game) : part (tyi Try.prog 26) g.cells = some (.agg g.cells) := by simp [part, known26, TI.isAgg, d26, size26, Game.cells]
@[go_sem] theorem Game.part22 (g : Game) : part (tyi Try.prog 22) g.cells = some (.sl (intRows g.owner) false) := by simp only [Game.cells, Vs.part22]
@[go_sem] theorem Game.drop1 (g : Game) : g.cells.drop 1 = [.sl (pathRows g.moves) false, .sl (boolRows g.goal) false] := nr rfl
@[go_sem] theorem Game.drop2 (g : Game) : g.cells.drop 2 = [.sl (boolRows g.goal) false] := nr rfl
@[go_sem] theorem Game.cells_length (g : Game) : g.cells.length = 3 := nr rfl
@[go_sem] theorem Game.cells_all (g : Game) : g.cells.all PV.cell = true := nr rfl
@[go_sem] theorem Game.refs (g : Game) : refsL g.cells = [] := nr rfl
theorem Game.plain (g : Game) : Plain (.agg g.cells) := ⟨rfl, fun _ => rfl⟩
@[go_sem] theorem fa26_0 (id i off : Nat) : evFieldAddr (tyi Try.prog 26) 0 (.mp id i off) = some (.mp id i off) := by simp [evFieldAddr, d26]
@[go_sem] theorem fa26_1 (id i off : Nat) : evFieldAddr (tyi Try.prog 26) 1 (.mp id i off) = some (.mp id i (off + 1)) := by simp [evFieldAddr, d26]
@[go_sem] theorem fa26_2 (id i off : Nat) : evFieldAddr (tyi Try.prog 26) 2 (.mp id i off) = some (.mp id i (off + 2)) := by simp [evFieldAddr, d26]
@[go_sem] theorem len24 (r : List (List PV)) (ex : Bool) : lenO (tyi Try.prog 24) (.sl r ex) = some (.int .i64 r.length) := lenO_sl _ d24 r ex
@[go_sem] theorem boolRows_length (l : List Bool) : (boolRows l).length = l.length := nr (by simp [boolRows])
@[go_sem] theorem idx24 (S : Store) (l : List Bool) (ex : Bool) (i : Int) : indexAddrO Try.prog 24 S (.sl (boolRows l) ex) (.int .i64 i) = if 0 ≤ i ∧ i < l.length then some (.cp [.bool (l.getD i.toNat false)]) else none := by
  have e1 : elemTy (tyi Try.prog 24) = 4 := by simp [elemTy, d24]
  have e2 : isSlice (tyi Try.prog 24) = true := by simp [isSlice, d24]
  simp only [indexAddrO, e1, e2, known4, size4, and_self, if_true, evIndexAddr, boolRows_length]
  split
  · rename_i h
    have hl : i.toNat < l.length := by omega
    have e3 : (boolRows l).getD i.toNat [] = [.bool (l.getD i.toNat false)] := by
      simp [boolRows, List.getD_eq_getElem?_getD, hl]
    rw [e3]
    rfl
  · rfl
theorem callG {f : FuncId} {g : Game} {v : PV} (S : Store) (h : callL Try.prog hints f [.agg g.cells] = some v) : callO (callL Try.prog hints) S f [.agg g.cells] = some { v } := callO_plain h (by simp [Game.plain])
/-! ### What Check asks -/
def sumLens : Int → List (List Int) → Int
  | a, [] => a
  | a, l :: r => sumLens (IntKind.i64.wrap (a + l.length)) r
/-- Is the move at k bad? -/
def moveBad (n : Int) (l : List Int) (k : Nat) : Bool := decide (l.getD k 0 < 0) || (decide (n ≤ l.getD k 0) || (decide (0 < k) && decide (l.getD k 0 ≤ l.getD (k - 1) 0)))
def movesFrom (n : Int) (l : List Int) : Nat → Nat → Bool
  | 0, _ => true
  | m + 1, k => !moveBad n l k && movesFrom n l m (k + 1)
def movesOK (n : Int) (l : List Int) : Bool := movesFrom n l l.length 0
def Game.posOK (g : Game) (i : Nat) : Bool := (decide (g.owner.getD i 0 = 0) || decide (g.owner.getD i 0 = 1)) && movesOK g.owner.length (g.moves.getD i [])
def Game.posFrom (g : Game) : Nat → Nat → Bool
  | 0, _ => true
  | m + 1, i => g.posOK i && g.posFrom m (i + 1)
def Game.check (g : Game) : Int :=
  if 400 < g.owner.length ∨ 400 < g.moves.length ∨ 400 < g.goal.length ∨ 4000 < sumLens 0 g.moves then 2
  else if g.moves.length ≠ g.owner.length ∨ g.goal.length ≠ g.owner.length then 3
  else if g.posFrom g.owner.length 0 = true then 0 else 3
theorem paths_drop {L : List (List Int)} {i : Nat} (h : i < L.length) : L.drop i = L.getD i [] :: L.drop (i + 1) := by
  rw [List.drop_eq_getElem_cons h]
  simp [List.getD_eq_getElem?_getD, h]
theorem paths_mem {L : List (List Int)} {i : Nat} (h : i < L.length) : L.getD i [] ∈ L := by
  simp [List.getD_eq_getElem?_getD, h]
theorem sum17 (g : Game) (hg : g.ok) {z : PV × Store} : ∀ (m i : Nat), i + m = g.moves.length → ∀ a : Int,
    F17.k128 0 .normal (F17.ee5 (.mp 0 0 0) (.int .i64 (sumLens a (g.moves.drop i))) .undef .undef .undef .undef) [.arr [g.cells] none false] = some z →
    F17.L0 0 1 (.mp 0 0 0) (.int .i64 a) (.sl (pathRows g.moves) false) (.int .i64 g.moves.length) (.int .i64 i) [.arr [g.cells] none false] = some z := by
  intro m
  induction m with
  | zero =>
    intro i hi a hz
    have h1 : ¬ (i : Int) < (g.moves.length : Int) := by omega
    rw [List.drop_of_length_le (by omega)] at hz
    apply F17.L0_step
    simp only [F17.B0_eq, F17.g158, evBin_lss, withV_dec, h1, if_false, F17.k155_n, condC_false, F17.k147_exit, F17.k138_x1, F17.k135_exit, ↓reduceIte, F17.gc_ee5]
    have e : gc 1 [(1, .mp 0 0 0), (3, .int .i64 a), (11, .undef), (12, .undef), (13, .undef), (14, .undef)] [.arr [g.cells] none false] = [.arr [g.cells] none false] := by simp only [go_sem, ↓reduceIte, Nat.reduceEqDiff, Nat.reduceBEq, Nat.reduceAdd, Nat.reduceMul, Nat.reduceSub, Nat.reduceLT, Nat.reduceLeDiff, reduceCtorEq, Int.reduceToNat, Int.reduceLE, Int.reduceLT, Int.reduceEq]
    rw [e]
    exact hz
  | succ m hm =>
    intro i hi a hz
    have h1 : (i : Int) < (g.moves.length : Int) := by omega
    have h2 := wrap_succ (i := i) (n := g.moves.length) (by omega) hg.moves
    have h4 : 0 ≤ (i : Int) ∧ (i : Int) < (g.moves.length : Int) := ⟨by omega, h1⟩
    rw [paths_drop (by omega), sumLens] at hz
    have h6 := hm (i + 1) (by omega) _ hz
    apply F17.L0_step
    simp only [go_sem, ↓reduceIte, Nat.reduceEqDiff, Nat.reduceBEq, Nat.reduceAdd, Nat.reduceMul, Nat.reduceSub, Nat.reduceLT, Nat.reduceLeDiff, reduceCtorEq, Int.reduceToNat, Int.reduceLE, Int.reduceLT, Int.reduceEq, h1, h2, h4, h6]
end Go.Vs
end
/- What game.ranks holds while it runs. -/
section
set_option linter.unusedVariables false
set_option linter.unusedSimpArgs false
namespace Go.Vs
open Go Go.Proofs
def Game.toG (g : Game) : Rk.G := ⟨g.owner.length, fun i => g.owner.getD i 0, fun i => g.moves.getD i [], fun i => g.goal.getD i false⟩
/-- What Check asks for. -/
structure Game.good (g : Game) : Prop where
  m : g.moves.length = g.owner.length
  l : g.goal.length = g.owner.length
  n : g.owner.length ≤ 400
  s : ∀ i, (g.moves.getD i []).length ≤ 4000
  ok : g.toG.ok
/-- The lists of predecessors, each in its own array. -/
def fromRows (F : List (List Int)) : List (List PV) := F.mapIdx fun i l => [.msl (6 + i) 0 l.length false]
theorem fromRows_length (F : List (List Int)) : (fromRows F).length = F.length := by simp [fromRows]
theorem fromRows_get (F : List (List Int)) (i : Nat) (h : i < F.length) : (fromRows F).getD i [] = [.msl (6 + i) 0 (F.getD i []).length false] := by
  simp [fromRows, List.getD_eq_getElem?_getD, h]
theorem fromRows_ok (F : List (List Int)) : rowsOK 1 (fromRows F) = true := by
  simp only [rowsOK, List.all_eq_true, beq_iff_eq, decide_eq_true_eq]
  intro r hr
  simp only [fromRows, List.mem_mapIdx] at hr
  obtain ⟨i, h, rfl⟩ := hr
  rfl
theorem fromRows_refs (F : List (List Int)) : ∀ r ∈ rowsRefs (fromRows F), 6 ≤ r ∧ r < 6 + F.length := by
  intro r hr
  simp only [rowsRefs, List.mem_flatMap] at hr
  obtain ⟨row, h1, h2⟩ := hr
  simp only [fromRows, List.mem_mapIdx] at h1
  obtain ⟨i, h, rfl⟩ := h1
  have : r = 6 + i := by simpa [refsL, PV.refs] using h2
  omega
/-- What is held. -/
structure RS (g : Game) (S : Store) (v : PV) (R O : List Int) (F : List (List Int)) (Q : List Int) : Prop where
  lR : R.length = g.owner.length
  lO : O.length = g.owner.length
  lF : F.length = g.owner.length
  len : 6 + g.owner.length ≤ S.length
  p0 : S[0]? = some (.arr [g.cells] none false)
  p1 : S[1]? = some (.arr (intRows R) (some (some 1)) false)
  p2 : S[2]? = some (.arr (intRows O) (some (some 1)) false)
  p3 : S[3]? = some (.arr [[.msl 1 0 R.length true]] none false)
  p4 : S[4]? = some (.arr (fromRows F) (some (some 1)) false)
  p5 : S[5]? = some (.arr [[v]] none false)
  p6 : ∀ i, i < g.owner.length → ∃ gr, (gr = none ∨ gr = some 1) ∧ S[6 + i]? = some (.arr (intRows (F.getD i [])) (some gr) false)
  q : IntO S v Q
  hv : ∀ r ∈ v.refs, 6 + g.owner.length ≤ r
theorem RS.gc {g : Game} {S : Store} {v : PV} {R O Q : List Int} {F : List (List Int)} (h : RS g S v R O F Q) {n : Nat} (e : Env) (h1 : 6 + g.owner.length ≤ n) (h2 : n ≤ S.length) : RS g (Vs.gc n e S) v R O F Q := by
  obtain ⟨g1, g2⟩ := gc_at (e := e) h2
  exact ⟨h.lR, h.lO, h.lF, by omega, by rw [g2 _ (by omega)]; exact h.p0, by rw [g2 _ (by omega)]; exact h.p1, by rw [g2 _ (by omega)]; exact h.p2, by rw [g2 _ (by omega)]; exact h.p3, by rw [g2 _ (by omega)]; exact h.p4, by rw [g2 _ (by omega)]; exact h.p5, fun i hi => by
    obtain ⟨gr, a, b⟩ := h.p6 i hi
    exact ⟨gr, a, by rw [g2 _ (by omega)]; exact b⟩, h.q.gcBox h.p5 (by omega), h.hv⟩
/-- What stays, where the arrays stay. -/
theorem RS.same {g : Game} {S S' : Store} {v : PV} {R O Q : List Int} {F : List (List Int)} (h : RS g S v R O F Q) (hl : 6 + g.owner.length ≤ S'.length) (hs : ∀ (j : Nat) (rows : List (List PV)) (gr : Option (Option Nat)), j < 6 + g.owner.length ∨ j ∈ v.refs → (∀ r ∈ rowsRefs rows, r < 6 + g.owner.length ∨ r ∈ v.refs) → S[j]? = some (.arr rows gr false) → S'[j]? = some (.arr rows gr false)) : RS g S' v R O F Q := by
  have i0 : ∀ L : List Int, ∀ r ∈ rowsRefs (intRows L), r < 6 + g.owner.length ∨ r ∈ v.refs := fun L r hr => by rw [intRows_refs] at hr; cases hr
  refine ⟨h.lR, h.lO, h.lF, hl, hs 0 _ _ (.inl (by omega)) ?_ h.p0, hs 1 _ _ (.inl (by omega)) (i0 R) h.p1, hs 2 _ _ (.inl (by omega)) (i0 O) h.p2, hs 3 _ _ (.inl (by omega)) ?_ h.p3, hs 4 _ _ (.inl (by omega)) ?_ h.p4, hs 5 _ _ (.inl (by omega)) ?_ h.p5, fun i hi => ?_, ?_, h.hv⟩
  · intro r hr
    simp only [rowsRefs_cons, rowsRefs_nil, Game.refs, List.append_nil] at hr
    cases hr
  · intro r hr
    have : r = 1 := by simpa [rowsRefs_cons, rowsRefs_nil, refsL, PV.refs] using hr
    left; omega
  · intro r hr
    have := fromRows_refs F r hr
    rw [h.lF] at this
    left; omega
  · intro r hr
    right
    simpa [rowsRefs_cons, rowsRefs_nil, refsL] using hr
  · obtain ⟨gr, a, b⟩ := h.p6 i hi
    exact ⟨gr, a, hs _ _ _ (.inl (by omega)) (i0 _) b⟩
  · have hq := h.q
    cases hq with
    | nil => exact .nil
    | arr id L gr hg hS => exact .arr id Q gr hg (hs _ _ _ (.inr (by simp [PV.refs])) (fun r hr => by rw [intRows_refs] at hr; cases hr) hS)
theorem RS.ext {g : Game} {S : Store} {v : PV} {R O Q : List Int} {F : List (List Int)} (h : RS g S v R O F Q) (U : Store) : RS g (S ++ U) v R O F Q :=
  h.same (by have := h.len; simp only [List.length_append]; omega) fun j rows gr _ _ hS => by rw [List.getElem?_append_left (List.getElem?_eq_some_iff.1 hS).1]; exact hS
/-- A list behind is appended to. -/
theorem RS.here {g : Game} {S : Store} {v : PV} {R O Q : List Int} {F : List (List Int)} (h : RS g S v R O F Q) {id : Nat} (h1 : 6 + g.owner.length ≤ id) (h2 : id ∉ v.refs) (o : Obj) : RS g ((S.map (killObj [id])).set id o) v R O F Q :=
  h.same (by have := h.len; simp only [List.length_set, List.length_map]; omega) fun j rows gr hj hr hS => by
    have no : ∀ r, r < 6 + g.owner.length ∨ r ∈ v.refs → r ≠ id := fun r hx e => by
      rcases hx with hx | hx
      · omega
      · exact h2 (by rw [← e]; exact hx)
    exact here_at hS (no j hj) fun r hrr => no r (hr r hrr)
/-- A rank is given. -/
theorem RS.setR {g : Game} {S : Store} {v : PV} {R O Q : List Int} {F : List (List Int)} (h : RS g S v R O F Q) (j : Nat) (k : Int) : RS g (S.set 1 (.arr (intRows (R.set j k)) (some (some 1)) false)) v (R.set j k) O F Q := by
  have hl := h.len
  refine ⟨by rw [List.length_set]; exact h.lR, h.lO, h.lF, by rw [List.length_set]; omega, by rw [List.getElem?_set_ne (by omega)]; exact h.p0, by rw [List.getElem?_set_self (by omega)], by rw [List.getElem?_set_ne (by omega)]; exact h.p2, by rw [List.getElem?_set_ne (by omega), List.length_set]; exact h.p3, by rw [List.getElem?_set_ne (by omega)]; exact h.p4, by rw [List.getElem?_set_ne (by omega)]; exact h.p5, fun i hi => ?_, h.q.same fun r hr => by rw [List.getElem?_set_ne (by have := h.hv r hr; omega)], h.hv⟩
  obtain ⟨gr, a, b⟩ := h.p6 i hi
  exact ⟨gr, a, by rw [List.getElem?_set_ne (by omega)]; exact b⟩
/-- A count changes. -/
theorem RS.setO {g : Game} {S : Store} {v : PV} {R O Q : List Int} {F : List (List Int)} (h : RS g S v R O F Q) (j : Nat) (k : Int) : RS g (S.set 2 (.arr (intRows (O.set j k)) (some (some 1)) false)) v R (O.set j k) F Q := by
  have hl := h.len
  refine ⟨h.lR, by rw [List.length_set]; exact h.lO, h.lF, by rw [List.length_set]; omega, by rw [List.getElem?_set_ne (by omega)]; exact h.p0, by rw [List.getElem?_set_ne (by omega)]; exact h.p1, by rw [List.getElem?_set_self (by omega)], by rw [List.getElem?_set_ne (by omega)]; exact h.p3, by rw [List.getElem?_set_ne (by omega)]; exact h.p4, by rw [List.getElem?_set_ne (by omega)]; exact h.p5, fun i hi => ?_, h.q.same fun r hr => by rw [List.getElem?_set_ne (by have := h.hv r hr; omega)], h.hv⟩
  obtain ⟨gr, a, b⟩ := h.p6 i hi
  exact ⟨gr, a, by rw [List.getElem?_set_ne (by omega)]; exact b⟩
/-- One more predecessor. -/
theorem RS.push {g : Game} {S : Store} {v : PV} {R O Q : List Int} {F : List (List Int)} (h : RS g S v R O F Q) {m : Nat} (hm : m < g.owner.length) (l : List Int) :
    ((S.map (killObj [6 + m])).set (6 + m) (.arr (intRows l) (some (some 1)) false))[4]? = some (.arr (killRows [6 + m] (fromRows F)) (some (some 1)) false) ∧
    RS g (((S.map (killObj [6 + m])).set (6 + m) (.arr (intRows l) (some (some 1)) false)).set 4 (.arr ((killRows [6 + m] (fromRows F)).set m [.msl (6 + m) 0 l.length false]) (some (some 1)) false)) v R O (F.set m l) Q := by
  have hl := h.len
  have hF := h.lF
  have i0 : ∀ (L : List Int), ∀ r ∈ rowsRefs (intRows L), r ≠ 6 + m := fun L r hr => by rw [intRows_refs] at hr; cases hr
  have rows : (killRows [6 + m] (fromRows F)).set m [.msl (6 + m) 0 l.length false] = fromRows (F.set m l) := by
    apply List.ext_getElem
    · simp only [List.length_set, fromRows_length, killRows]
      split <;> simp [fromRows_length]
    · intro j h1 h2
      rw [List.getElem_set]
      simp only [fromRows_length, List.length_set] at h2
      split
      · rename_i e; subst e
        simp [fromRows]
      · rename_i e
        have ee : ∀ (hj : j < (fromRows F).length), (fromRows F)[j] = [.msl (6 + j) 0 (F[j]).length false] := fun hj => by simp [fromRows]
        have e3 : (fromRows (F.set m l))[j]'(by simp [fromRows_length]; omega) = [.msl (6 + j) 0 (F[j]).length false] := by simp [fromRows, List.getElem_set, e]
        rw [e3]
        have kk : ([PV.msl (6 + j) 0 (F[j]).length false]).map (kill1 [6 + m]) = [.msl (6 + j) 0 (F[j]).length false] := by
          rw [List.map_cons, kill1_id (by intro r hr; simp only [PV.refs, List.mem_singleton] at hr ⊢; omega)]; rfl
        simp only [killRows]
        split
        · rw [List.getElem_map, ee]; exact kk
        · exact ee _
  refine ⟨?_, ?_⟩
  · rw [List.getElem?_set_ne (by omega), List.getElem?_map, h.p4]; rfl
  rw [rows]
  refine ⟨h.lR, h.lO, by rw [List.length_set]; exact h.lF, by simp; omega, ?_, ?_, ?_, ?_, ?_, ?_, fun i hi => ?_, ?_, h.hv⟩
  · rw [List.getElem?_set_ne (by omega)]
    exact here_at h.p0 (by omega) fun r hr => by
      simp only [rowsRefs_cons, rowsRefs_nil, Game.refs, List.append_nil] at hr
      cases hr
  · rw [List.getElem?_set_ne (by omega)]; exact here_at h.p1 (by omega) (i0 R)
  · rw [List.getElem?_set_ne (by omega)]; exact here_at h.p2 (by omega) (i0 O)
  · rw [List.getElem?_set_ne (by omega)]
    exact here_at h.p3 (by omega) fun r hr => by
      have : r = 1 := by simpa [rowsRefs_cons, rowsRefs_nil, refsL, PV.refs] using hr
      omega
  · rw [List.getElem?_set_self (by simp; omega)]
  · rw [List.getElem?_set_ne (by omega)]
    exact here_at h.p5 (by omega) fun r hr => by
      have := h.hv r (by simpa [rowsRefs_cons, rowsRefs_nil, refsL] using hr)
      omega
  · rw [List.getElem?_set_ne (by omega)]
    by_cases e : i = m
    · subst e
      exact ⟨some 1, .inr rfl, by rw [List.getElem?_set_self (by simp; omega)]; simp [List.getD_eq_getElem?_getD, hF, hm]⟩
    · obtain ⟨gr, a, b⟩ := h.p6 i hi
      refine ⟨gr, a, ?_⟩
      have : (F.set m l).getD i [] = F.getD i [] := by simp [List.getD_eq_getElem?_getD, List.getElem?_set_ne (Ne.symm e)]
      rw [this]
      exact here_at b (by omega) (i0 _)
  · have hq := h.q
    have hv := h.hv
    cases hq with
    | nil => exact .nil
    | arr id L gr hg hS =>
      have := hv id (by simp [PV.refs])
      exact .arr id Q gr hg (by rw [List.getElem?_set_ne (by omega)]; exact here_at hS (by omega) (i0 _))
end Go.Vs
end
/- game.valid and the reference's Fits: is a list a player's strategy? -/
section
set_option linter.unusedVariables false
set_option linter.unusedSimpArgs false
set_option maxRecDepth 100000
namespace Go.Vs
open Go Go.Proofs
/-- Is the number among those from k on? -/
def hasFrom (x : Int) (l : List Int) : Nat → Nat → Bool
  | 0, _ => false
  | m + 1, k => decide (l.getD k 0 = x) || hasFrom x l m (k + 1)
def Game.fitAt (g : Game) (p : Int) (s : List Int) (i : Nat) : Bool :=
  decide (s.getD i 0 = -1) || (decide (g.owner.getD i 0 = p) && hasFrom (s.getD i 0) (g.moves.getD i []) (g.moves.getD i []).length 0)
def Game.fitFrom (g : Game) (p : Int) (s : List Int) : Nat → Nat → Bool
  | 0, _ => true
  | m + 1, i => g.fitAt p s i && g.fitFrom p s m (i + 1)
def Game.fits (g : Game) (p : Int) (s : List Int) : Bool := decide (s.length = g.owner.length) && g.fitFrom p s s.length 0
attribute [local irreducible] Vs.callL Vs.callRL tyi callO callM callMV appendE storeE evLoad indexAddrO sliceO evFieldAddr evField buildO buildSliceO makeSliceO allocO boxed lenO copyE convertO indexO Vs.gc freezeAll
noncomputable def fx60 : FX := ⟨Try.f60, hints.of 60, []⟩
theorem ok60 : fx60.ok 60 := ⟨by kernel_rfl, of_decide_eq_true (by kernel_rfl), by kernel_rfl, by kernel_rfl, by kernel_rfl⟩
theorem sem60 (b0 : Nat) (m : Md) (fs : List Fr) (e : Env) (S : Store) : sem b0 fx60 m fs e S = run b0 fx60 1000 m fs e S := (sem_eq _ _ _ _ _ _).trans (run_sem b0 fx60 ok60.good 1000 m fs e S).symm
theorem loop60_2 (g : Game) (hg : g.ok) (p : Int) (s : List Int) (e1 : Bool) (i : Nat) (hi : i < g.moves.length) (x18 x19 : PV) (fs : List Fr) {z : PV × Store} : ∀ (m k : Nat), k + m = (g.moves.getD i []).length → ∀ f : Bool,
    exitTo 0 fx60 2 fs [(1, .int .i64 p), (3, .mp 0 0 0), (7, .int .i64 i), (8, .undef), (9, .bool (f || hasFrom (s.getD i 0) (g.moves.getD i []) m k)), (18, x18), (19, x19), (20, .int .i64 i), (31, .undef), (32, .undef), (33, .undef), (34, .undef)] [.arr [g.cells] none false] = some z →
    loopAt 0 fx60 2 239220 1 fs [(1, .int .i64 p), (3, .mp 0 0 0), (7, .int .i64 i), (8, .int .i64 (s.getD i 0)), (9, .bool f), (18, x18), (19, x19), (20, .int .i64 i), (31, .sl (intRows (g.moves.getD i [])) false), (32, .int .i64 (g.moves.getD i []).length), (33, .int .i64 k)] [.arr [g.cells] none false] = some z := by
  have hl := hg.each _ (paths_mem hi)
  intro m
  induction m with
  | zero =>
    intro k hk f hz
    have h1 : ¬ (k : Int) < ((g.moves.getD i []).length : Int) := by omega
    refine loopAt_step ok60.good 1000 ?_
    ((repeat ((conv => lhs; whnf); simp only [go_sem, ↓reduceIte, Nat.reduceEqDiff, Nat.reduceBEq, Nat.reduceAdd, Nat.reduceMul, Nat.reduceSub, Nat.reduceLT, Nat.reduceLeDiff, reduceCtorEq, Int.reduceToNat, Int.reduceLE, Int.reduceLT, Int.reduceEq, sem60, h1])); try (conv => lhs; whnf); try rfl)
    rw [hasFrom, Bool.or_false] at hz
    exact hz
  | succ m hm =>
    intro k hk f hz
    have h1 : (k : Int) < ((g.moves.getD i []).length : Int) := by omega
    have h2 := wrap_succ (i := k) (n := (g.moves.getD i []).length) (by omega) hl
    have h4 : 0 ≤ (k : Int) ∧ (k : Int) < ((g.moves.getD i []).length : Int) := ⟨by omega, h1⟩
    refine loopAt_step ok60.good 1000 ?_
    cases f with
    | true =>
      ((repeat ((conv => lhs; whnf); simp only [go_sem, ↓reduceIte, Nat.reduceEqDiff, Nat.reduceBEq, Nat.reduceAdd, Nat.reduceMul, Nat.reduceSub, Nat.reduceLT, Nat.reduceLeDiff, reduceCtorEq, Int.reduceToNat, Int.reduceLE, Int.reduceLT, Int.reduceEq, sem60, h1, h2, h4])); try (conv => lhs; whnf); try rfl)
      exact hm (k + 1) (by omega) true (by simpa only [Bool.true_or] using hz)
    | false =>
      ((repeat ((conv => lhs; whnf); simp only [go_sem, ↓reduceIte, Nat.reduceEqDiff, Nat.reduceBEq, Nat.reduceAdd, Nat.reduceMul, Nat.reduceSub, Nat.reduceLT, Nat.reduceLeDiff, reduceCtorEq, Int.reduceToNat, Int.reduceLE, Int.reduceLT, Int.reduceEq, sem60, h1, h2, h4])); try (conv => lhs; whnf); try rfl)
      exact hm (k + 1) (by omega) _ (by simpa only [hasFrom, Bool.false_or] using hz)
theorem loop60_0 (g : Game) (hg : g.ok) (hgd : g.good) (p : Int) (s : List Int) (e1 : Bool) (hs : s.length = g.owner.length) : ∀ (m i : Nat), i + m = s.length →
    loopAt 0 fx60 0 116 1 [.blk 0, .seq 0 15] [(1, .int .i64 p), (3, .mp 0 0 0), (18, .sl (intRows s) e1), (19, .int .i64 s.length), (20, .int .i64 i)] [.arr [g.cells] none false] = some (.bool (g.fitFrom p s m i), [.arr [g.cells] none false]) := by
  have hN := hgd.n
  have hM := hgd.m
  have hm4 : (4000 : Nat) ≤ maxLen := by decide
  intro m
  induction m with
  | zero =>
    intro i hi
    have h1 : ¬ (i : Int) < (s.length : Int) := by omega
    refine loopAt_step ok60.good 1000 ?_
    ((repeat ((conv => lhs; whnf); simp only [go_sem, ↓reduceIte, Nat.reduceEqDiff, Nat.reduceBEq, Nat.reduceAdd, Nat.reduceMul, Nat.reduceSub, Nat.reduceLT, Nat.reduceLeDiff, reduceCtorEq, Int.reduceToNat, Int.reduceLE, Int.reduceLT, Int.reduceEq, sem60, h1])); try (conv => lhs; whnf); try rfl)
    refine exit_run ok60.good 1000 ?_
    ((repeat ((conv => lhs; whnf); simp only [go_sem, ↓reduceIte, Nat.reduceEqDiff, Nat.reduceBEq, Nat.reduceAdd, Nat.reduceMul, Nat.reduceSub, Nat.reduceLT, Nat.reduceLeDiff, reduceCtorEq, Int.reduceToNat, Int.reduceLE, Int.reduceLT, Int.reduceEq, sem60])); try (conv => lhs; whnf); try rfl)
  | succ m hm =>
    intro i hi
    have h1 : (i : Int) < (s.length : Int) := by omega
    have h2 := wrap_succ (i := i) (n := s.length) (by omega) (by omega)
    have h4 : 0 ≤ (i : Int) ∧ (i : Int) < (s.length : Int) := ⟨by omega, h1⟩
    have h5 : 0 ≤ (i : Int) ∧ (i : Int) < (g.owner.length : Int) := ⟨by omega, by omega⟩
    have h6 : 0 ≤ (i : Int) ∧ (i : Int) < (g.moves.length : Int) := ⟨by omega, by omega⟩
    have ih := hm (i + 1) (by omega)
    refine loopAt_step ok60.good 1000 ?_
    rw [Game.fitFrom, Game.fitAt]
    by_cases c1 : s.getD i 0 = -1
    · ((repeat ((conv => lhs; whnf); simp only [go_sem, ↓reduceIte, Nat.reduceEqDiff, Nat.reduceBEq, Nat.reduceAdd, Nat.reduceMul, Nat.reduceSub, Nat.reduceLT, Nat.reduceLeDiff, reduceCtorEq, Int.reduceToNat, Int.reduceLE, Int.reduceLT, Int.reduceEq, sem60, h1, h2, h4, c1])); try (conv => lhs; whnf); try rfl)
      simpa only [c1, decide_true, Bool.true_or, Bool.true_and] using ih
    · ((repeat ((conv => lhs; whnf); simp only [go_sem, ↓reduceIte, Nat.reduceEqDiff, Nat.reduceBEq, Nat.reduceAdd, Nat.reduceMul, Nat.reduceSub, Nat.reduceLT, Nat.reduceLeDiff, reduceCtorEq, Int.reduceToNat, Int.reduceLE, Int.reduceLT, Int.reduceEq, sem60, h1, h4, h6, c1, Int.toNat_natCast])); try (conv => lhs; whnf); try rfl)
      refine loop60_2 g hg p s e1 i (by omega) _ _ _ (g.moves.getD i []).length 0 (by omega) false ?_
      refine exit_run ok60.good 1000 ?_
      rw [Bool.false_or]
      by_cases c2 : g.owner.getD i 0 = p
      · cases hh : hasFrom (s.getD i 0) (g.moves.getD i []) (g.moves.getD i []).length 0 with
        | true =>
          ((repeat ((conv => lhs; whnf); simp only [go_sem, ↓reduceIte, Nat.reduceEqDiff, Nat.reduceBEq, Nat.reduceAdd, Nat.reduceMul, Nat.reduceSub, Nat.reduceLT, Nat.reduceLeDiff, reduceCtorEq, Int.reduceToNat, Int.reduceLE, Int.reduceLT, Int.reduceEq, sem60, h5, c2, h2, Int.toNat_natCast, hh])); try (conv => lhs; whnf); try rfl)
          simpa only [c2, decide_true, Bool.and_self, Bool.or_true, Bool.true_and] using ih
        | false =>
          simp only [c1, c2, decide_true, decide_false, Bool.and_false, Bool.or_self, Bool.false_and]
          ((repeat ((conv => lhs; whnf); simp only [go_sem, ↓reduceIte, Nat.reduceEqDiff, Nat.reduceBEq, Nat.reduceAdd, Nat.reduceMul, Nat.reduceSub, Nat.reduceLT, Nat.reduceLeDiff, reduceCtorEq, Int.reduceToNat, Int.reduceLE, Int.reduceLT, Int.reduceEq, sem60, h5, c2, h2, Int.toNat_natCast, hh])); try (conv => lhs; whnf); try rfl)
      · simp only [c1, c2, decide_true, decide_false, Bool.false_and, Bool.or_self]
        ((repeat ((conv => lhs; whnf); simp only [go_sem, ↓reduceIte, Nat.reduceEqDiff, Nat.reduceBEq, Nat.reduceAdd, Nat.reduceMul, Nat.reduceSub, Nat.reduceLT, Nat.reduceLeDiff, reduceCtorEq, Int.reduceToNat, Int.reduceLE, Int.reduceLT, Int.reduceEq, sem60, h5, c2, h2, Int.toNat_natCast])); try (conv => lhs; whnf); try rfl)
theorem call60 (g : Game) (hg : g.ok) (hgd : g.good) (p : Int) (s : List Int) (e1 : Bool) : callL Try.prog hints 60 [.agg g.cells, .int .i64 p, .sl (intRows s) e1] = some (.bool (g.fits p s)) := by
  unfold Game.fits
  by_cases c : s.length = g.owner.length
  · refine FX.callL (r := (.bool (g.fits p s), [.arr [g.cells] none false])) ok60 1000 rfl rfl ?_ (by simp only [Game.fits, c]; rfl)
    have c' : (s.length : Int) = (g.owner.length : Int) := by omega
    have l0 := loop60_0 g hg hgd p s e1 c s.length 0 (by omega)
    ((repeat ((conv => lhs; whnf); simp only [go_sem, ↓reduceIte, Nat.reduceEqDiff, Nat.reduceBEq, Nat.reduceAdd, Nat.reduceMul, Nat.reduceSub, Nat.reduceLT, Nat.reduceLeDiff, reduceCtorEq, Int.reduceToNat, Int.reduceLE, Int.reduceLT, Int.reduceEq, sem60, c'])); try (conv => lhs; whnf); try rfl)
    simp only [Game.fits, c, c', decide_true, Bool.true_and] at l0 ⊢
    exact l0
  · refine FX.callL (r := (.bool false, [.arr [g.cells] none false])) ok60 1000 rfl rfl ?_ (by simp only [c]; rfl)
    have c' : ¬ (s.length : Int) = (g.owner.length : Int) := by omega
    ((repeat ((conv => lhs; whnf); simp only [go_sem, ↓reduceIte, Nat.reduceEqDiff, Nat.reduceBEq, Nat.reduceAdd, Nat.reduceMul, Nat.reduceSub, Nat.reduceLT, Nat.reduceLeDiff, reduceCtorEq, Int.reduceToNat, Int.reduceLE, Int.reduceLT, Int.reduceEq, sem60, c'])); try (conv => lhs; whnf); try rfl)

noncomputable def fx30 : FX := ⟨Try.f30, hints.of 30, []⟩
theorem ok30 : fx30.ok 30 := ⟨by kernel_rfl, of_decide_eq_true (by kernel_rfl), by kernel_rfl, by kernel_rfl, by kernel_rfl⟩
theorem sem30 (b0 : Nat) (m : Md) (fs : List Fr) (e : Env) (S : Store) : sem b0 fx30 m fs e S = run b0 fx30 1000 m fs e S := (sem_eq _ _ _ _ _ _).trans (run_sem b0 fx30 ok30.good 1000 m fs e S).symm
theorem loop30_2 (g : Game) (hg : g.ok) (p : Int) (s : List Int) (e1 : Bool) (i : Nat) (hi : i < g.moves.length) (his : i < s.length) (fs : List Fr) {z : PV × Store} : ∀ (m k : Nat), k + m = (g.moves.getD i []).length → ∀ f : Bool,
    exitTo 0 fx30 2 fs [(1, .int .i64 p), (2, .sl (intRows s) e1), (3, .mp 0 0 0), (7, .int .i64 i), (8, .bool (f || hasFrom (s.getD i 0) (g.moves.getD i []) m k)), (9, .undef), (34, .undef)] [.arr [g.cells] none false] = some z →
    loopAt 0 fx30 2 59700 1 fs [(1, .int .i64 p), (2, .sl (intRows s) e1), (3, .mp 0 0 0), (7, .int .i64 i), (8, .bool f), (9, .int .i64 k)] [.arr [g.cells] none false] = some z := by
  have hl := hg.each _ (paths_mem hi)
  have h6 : 0 ≤ (i : Int) ∧ (i : Int) < (g.moves.length : Int) := ⟨by omega, by omega⟩
  have h7 : 0 ≤ (i : Int) ∧ (i : Int) < (s.length : Int) := ⟨by omega, by omega⟩
  intro m
  induction m with
  | zero =>
    intro k hk f hz
    have h1 : ¬ (k : Int) < ((g.moves.getD i []).length : Int) := by omega
    refine loopAt_step ok30.good 1000 ?_
    ((repeat ((conv => lhs; whnf); simp only [go_sem, ↓reduceIte, Nat.reduceEqDiff, Nat.reduceBEq, Nat.reduceAdd, Nat.reduceMul, Nat.reduceSub, Nat.reduceLT, Nat.reduceLeDiff, reduceCtorEq, Int.reduceToNat, Int.reduceLE, Int.reduceLT, Int.reduceEq, sem30, h1, h6, Int.toNat_natCast])); try (conv => lhs; whnf); try rfl)
    rw [hasFrom, Bool.or_false] at hz
    exact hz
  | succ m hm =>
    intro k hk f hz
    have h1 : (k : Int) < ((g.moves.getD i []).length : Int) := by omega
    have h2 := wrap_succ (i := k) (n := (g.moves.getD i []).length) (by omega) hl
    have h4 : 0 ≤ (k : Int) ∧ (k : Int) < ((g.moves.getD i []).length : Int) := ⟨by omega, h1⟩
    refine loopAt_step ok30.good 1000 ?_
    cases f with
    | true =>
      ((repeat ((conv => lhs; whnf); simp only [go_sem, ↓reduceIte, Nat.reduceEqDiff, Nat.reduceBEq, Nat.reduceAdd, Nat.reduceMul, Nat.reduceSub, Nat.reduceLT, Nat.reduceLeDiff, reduceCtorEq, Int.reduceToNat, Int.reduceLE, Int.reduceLT, Int.reduceEq, sem30, h1, h2, h4, h6, h7, Int.toNat_natCast])); try (conv => lhs; whnf); try rfl)
      exact hm (k + 1) (by omega) true (by simpa only [Bool.true_or] using hz)
    | false =>
      ((repeat ((conv => lhs; whnf); simp only [go_sem, ↓reduceIte, Nat.reduceEqDiff, Nat.reduceBEq, Nat.reduceAdd, Nat.reduceMul, Nat.reduceSub, Nat.reduceLT, Nat.reduceLeDiff, reduceCtorEq, Int.reduceToNat, Int.reduceLE, Int.reduceLT, Int.reduceEq, sem30, h1, h2, h4, h6, h7, Int.toNat_natCast])); try (conv => lhs; whnf); try rfl)
      exact hm (k + 1) (by omega) _ (by simpa only [hasFrom, Bool.false_or] using hz)
theorem loop30_0 (g : Game) (hg : g.ok) (hgd : g.good) (p : Int) (s : List Int) (e1 : Bool) (hs : s.length = g.owner.length) : ∀ (m i : Nat), i + m = s.length →
    loopAt 0 fx30 0 116 1 [.blk 0, .seq 0 15] [(1, .int .i64 p), (2, .sl (intRows s) e1), (3, .mp 0 0 0), (7, .int .i64 i)] [.arr [g.cells] none false] = some (.bool (g.fitFrom p s m i), [.arr [g.cells] none false]) := by
  have hN := hgd.n
  have hM := hgd.m
  have hm4 : (4000 : Nat) ≤ maxLen := by decide
  intro m
  induction m with
  | zero =>
    intro i hi
    have h1 : ¬ (i : Int) < (s.length : Int) := by omega
    refine loopAt_step ok30.good 1000 ?_
    ((repeat ((conv => lhs; whnf); simp only [go_sem, ↓reduceIte, Nat.reduceEqDiff, Nat.reduceBEq, Nat.reduceAdd, Nat.reduceMul, Nat.reduceSub, Nat.reduceLT, Nat.reduceLeDiff, reduceCtorEq, Int.reduceToNat, Int.reduceLE, Int.reduceLT, Int.reduceEq, sem30, h1])); try (conv => lhs; whnf); try rfl)
    refine exit_run ok30.good 1000 ?_
    ((repeat ((conv => lhs; whnf); simp only [go_sem, ↓reduceIte, Nat.reduceEqDiff, Nat.reduceBEq, Nat.reduceAdd, Nat.reduceMul, Nat.reduceSub, Nat.reduceLT, Nat.reduceLeDiff, reduceCtorEq, Int.reduceToNat, Int.reduceLE, Int.reduceLT, Int.reduceEq, sem30])); try (conv => lhs; whnf); try rfl)
  | succ m hm =>
    intro i hi
    have h1 : (i : Int) < (s.length : Int) := by omega
    have h2 := wrap_succ (i := i) (n := s.length) (by omega) (by omega)
    have h4 : 0 ≤ (i : Int) ∧ (i : Int) < (s.length : Int) := ⟨by omega, h1⟩
    have h5 : 0 ≤ (i : Int) ∧ (i : Int) < (g.owner.length : Int) := ⟨by omega, by omega⟩
    have h6 : 0 ≤ (i : Int) ∧ (i : Int) < (g.moves.length : Int) := ⟨by omega, by omega⟩
    have ih := hm (i + 1) (by omega)
    refine loopAt_step ok30.good 1000 ?_
    rw [Game.fitFrom, Game.fitAt]
    by_cases c1 : s.getD i 0 = -1
    · ((repeat ((conv => lhs; whnf); simp only [go_sem, ↓reduceIte, Nat.reduceEqDiff, Nat.reduceBEq, Nat.reduceAdd, Nat.reduceMul, Nat.reduceSub, Nat.reduceLT, Nat.reduceLeDiff, reduceCtorEq, Int.reduceToNat, Int.reduceLE, Int.reduceLT, Int.reduceEq, sem30, h1, h2, h4, c1, Int.toNat_natCast])); try (conv => lhs; whnf); try rfl)
      simpa only [c1, decide_true, Bool.true_or, Bool.true_and] using ih
    · ((repeat ((conv => lhs; whnf); simp only [go_sem, ↓reduceIte, Nat.reduceEqDiff, Nat.reduceBEq, Nat.reduceAdd, Nat.reduceMul, Nat.reduceSub, Nat.reduceLT, Nat.reduceLeDiff, reduceCtorEq, Int.reduceToNat, Int.reduceLE, Int.reduceLT, Int.reduceEq, sem30, h1, h4, h6, c1, Int.toNat_natCast])); try (conv => lhs; whnf); try rfl)
      refine loop30_2 g hg p s e1 i (by omega) (by omega) _ (g.moves.getD i []).length 0 (by omega) false ?_
      refine exit_run ok30.good 1000 ?_
      rw [Bool.false_or]
      by_cases c2 : g.owner.getD i 0 = p
      · cases hh : hasFrom (s.getD i 0) (g.moves.getD i []) (g.moves.getD i []).length 0 with
        | true =>
          ((repeat ((conv => lhs; whnf); simp only [go_sem, ↓reduceIte, Nat.reduceEqDiff, Nat.reduceBEq, Nat.reduceAdd, Nat.reduceMul, Nat.reduceSub, Nat.reduceLT, Nat.reduceLeDiff, reduceCtorEq, Int.reduceToNat, Int.reduceLE, Int.reduceLT, Int.reduceEq, sem30, h5, c2, h2, Int.toNat_natCast, hh])); try (conv => lhs; whnf); try rfl)
          simpa only [c2, decide_true, Bool.and_self, Bool.or_true, Bool.true_and] using ih
        | false =>
          simp only [c1, c2, decide_true, decide_false, Bool.and_false, Bool.or_self, Bool.false_and]
          ((repeat ((conv => lhs; whnf); simp only [go_sem, ↓reduceIte, Nat.reduceEqDiff, Nat.reduceBEq, Nat.reduceAdd, Nat.reduceMul, Nat.reduceSub, Nat.reduceLT, Nat.reduceLeDiff, reduceCtorEq, Int.reduceToNat, Int.reduceLE, Int.reduceLT, Int.reduceEq, sem30, h5, c2, h2, Int.toNat_natCast, hh])); try (conv => lhs; whnf); try rfl)
      · simp only [c1, c2, decide_true, decide_false, Bool.false_and, Bool.or_self]
        ((repeat ((conv => lhs; whnf); simp only [go_sem, ↓reduceIte, Nat.reduceEqDiff, Nat.reduceBEq, Nat.reduceAdd, Nat.reduceMul, Nat.reduceSub, Nat.reduceLT, Nat.reduceLeDiff, reduceCtorEq, Int.reduceToNat, Int.reduceLE, Int.reduceLT, Int.reduceEq, sem30, h5, c2, h2, Int.toNat_natCast])); try (conv => lhs; whnf); try rfl)
theorem call30 (g : Game) (hg : g.ok) (hgd : g.good) (p : Int) (s : List Int) (e1 : Bool) : callL Try.prog hints 30 [.agg g.cells, .int .i64 p, .sl (intRows s) e1] = some (.bool (g.fits p s)) := by
  unfold Game.fits
  by_cases c : s.length = g.owner.length
  · refine FX.callL (r := (.bool (g.fits p s), [.arr [g.cells] none false])) ok30 1000 rfl rfl ?_ (by simp only [Game.fits, c]; rfl)
    have c' : (s.length : Int) = (g.owner.length : Int) := by omega
    have l0 := loop30_0 g hg hgd p s e1 c s.length 0 (by omega)
    ((repeat ((conv => lhs; whnf); simp only [go_sem, ↓reduceIte, Nat.reduceEqDiff, Nat.reduceBEq, Nat.reduceAdd, Nat.reduceMul, Nat.reduceSub, Nat.reduceLT, Nat.reduceLeDiff, reduceCtorEq, Int.reduceToNat, Int.reduceLE, Int.reduceLT, Int.reduceEq, sem30, c'])); try (conv => lhs; whnf); try rfl)
    simp only [Game.fits, c, decide_true, Bool.true_and] at l0 ⊢
    exact l0
  · refine FX.callL (r := (.bool false, [.arr [g.cells] none false])) ok30 1000 rfl rfl ?_ (by simp only [c]; rfl)
    have c' : ¬ (s.length : Int) = (g.owner.length : Int) := by omega
    ((repeat ((conv => lhs; whnf); simp only [go_sem, ↓reduceIte, Nat.reduceEqDiff, Nat.reduceBEq, Nat.reduceAdd, Nat.reduceMul, Nat.reduceSub, Nat.reduceLT, Nat.reduceLeDiff, reduceCtorEq, Int.reduceToNat, Int.reduceLE, Int.reduceLT, Int.reduceEq, sem30, c'])); try (conv => lhs; whnf); try rfl)
end Go.Vs
end
/- game.ranks: the loops that fill the counts and the lists of predecessors. -/
section
set_option linter.unusedVariables false
set_option linter.unusedSimpArgs false
namespace Go.Vs
open Go Go.Proofs
theorem idx23m {S : Store} {id n : Nat} {ex : Bool} {rows : List (List PV)} (i : Nat) (hS : rowsAt S id = some rows) (hl : rows.length = n) (h2 : rowsOK 1 rows = true) (hi : i < n) : indexAddrO Try.prog 23 S (.msl id 0 n ex) (.int .i64 i) = some (.mp id i 0) := by
  have e1 : elemTy (tyi Try.prog 23) = 22 := by simp [elemTy, d23]
  have e2 : isSlice (tyi Try.prog 23) = true := by simp [isSlice, d23]
  simp only [indexAddrO, e1, e2, known22, size22, and_self, if_true, evIndexAddr, hS, Option.bind_some]
  rw [if_pos ⟨by omega, by omega⟩, if_pos ⟨h2, by omega⟩, Nat.zero_add, Int.toNat_natCast]
theorem storeRow {ti : TI} {S : Store} {id j : Nat} {rows : List (List PV)} {g : Option (Option Nat)} {v : PV} (hk : ti.known = true) (hs : ti.size = 1) (h : S[id]? = some (.arr rows g false)) (hj : j < rows.length) (hr : (rows.getD j []).length = 1) (hv : v.cells = [v]) (hc : v.cell = true) : storeE ti S (.mp id j 0) v = some { v := .skip, S := S.set id (.arr (rows.set j [v]) g false) } := by
  simp only [storeE_eq, hk, if_true, hs, evStore, h, hv]
  rw [if_pos ⟨hj, by omega, rfl, by simp [hc]⟩]
  simp only [Option.map_some, splice_if, List.length_cons, List.length_nil, hr, and_self, if_true]
theorem kill_length (ids : List Nat) (rows : List (List PV)) : (killRows ids rows).length = rows.length := by
  simp only [killRows]
  split <;> simp
theorem kill_get (ids : List Nat) (rows : List (List PV)) (j : Nat) : ((killRows ids rows).getD j []).length = (rows.getD j []).length := by
  simp only [killRows]
  split
  · simp only [List.getD_eq_getElem?_getD, List.getElem?_map]
    cases rows[j]? <;> simp
  · rfl
theorem kill_ok {ids : List Nat} {rows : List (List PV)} (h : rowsOK 1 rows = true) : rowsOK 1 (killRows ids rows) = true := by
  simp only [killRows]
  split
  · simp only [rowsOK, List.all_eq_true, beq_iff_eq, decide_eq_true_eq, List.mem_map] at h ⊢
    rintro r ⟨r', hr, rfl⟩
    simpa using h r' hr
  · exact h
/-- The moves of position i give it as a predecessor. -/
def pushes (i : Nat) (l : List Int) (F : List (List Int)) : List (List Int) := l.foldl (fun F m => F.set m.toNat (F.getD m.toNat [] ++ [(i : Int)])) F
theorem pushes_length (i : Nat) : ∀ (l : List Int) (F : List (List Int)), (pushes i l F).length = F.length
  | [], F => rfl
  | m :: l, F => by rw [pushes, List.foldl_cons, ← pushes, pushes_length i l]; simp
/-- The lists stay short. -/
def Short (c : Nat) (F : List (List Int)) : Prop := ∀ q, (F.getD q []).length ≤ c
theorem Short.set {c : Nat} {F : List (List Int)} (h : Short c F) (m : Nat) (x : Int) : Short (c + 1) (F.set m (F.getD m [] ++ [x])) := fun q => by
  simp only [List.getD_eq_getElem?_getD, List.getElem?_set]
  have h1 := h m
  have h2 := h q
  simp only [List.getD_eq_getElem?_getD] at h1 h2
  split
  · split
    · simp only [Option.getD_some, List.length_append, List.length_cons, List.length_nil]; omega
    · simp
  · omega
theorem pushes_short {c : Nat} (i : Nat) : ∀ (l : List Int) {F : List (List Int)}, Short c F → Short (c + l.length) (pushes i l F)
  | [], F, h => h
  | m :: l, F, h => by
    rw [pushes, List.foldl_cons, ← pushes]
    have : ∀ c', Short c' (F.set m.toNat (F.getD m.toNat [] ++ [(i : Int)])) → Short (c' + l.length) (pushes i l (F.set m.toNat (F.getD m.toNat [] ++ [(i : Int)]))) := fun c' h' => pushes_short (c := c') i l h'
    have h2 := this (c + 1) (h.set m.toNat i)
    rwa [show c + 1 + l.length = c + (m :: l).length by simp only [List.length_cons]; omega] at h2
theorem loop57_2 (g : Game) (hg : g.good) (i : Nat) (hi : i < g.owner.length) (n2 : Nat) (R O : List Int) : ∀ (m k : Nat), k + m = (g.moves.getD i []).length → ∀ (S : Store) (F : List (List Int)) (c : Nat), RS g S (.sl [] true) R O F [] → 6 + g.owner.length ≤ n2 → n2 ≤ S.length → Short c F → c + m ≤ 2000000 →
    ∃ S', RS g S' (.sl [] true) R O (pushes i ((g.moves.getD i []).drop k) F) [] ∧ 6 + g.owner.length ≤ S'.length ∧ ∀ z, F57.L0 0 (6 + g.owner.length) (.mp 0 0 0) (.int .i64 g.owner.length) (.mp 3 0 0) (.msl 2 0 g.owner.length true) (.msl 4 0 g.owner.length true) (.mp 5 0 0) (.int .i64 g.owner.length) (.int .i64 (i + 1 : Nat)) S' = some z →
      F57.L2 0 (6 + g.owner.length) n2 (.mp 0 0 0) (.int .i64 g.owner.length) (.mp 3 0 0) (.msl 2 0 g.owner.length true) (.msl 4 0 g.owner.length true) (.mp 5 0 0) (.int .i64 i) (.int .i64 g.owner.length) (.int .i64 i) (.sl (intRows (g.moves.getD i [])) false) (.int .i64 (g.moves.getD i []).length) (.int .i64 k) S = some z := by
  have hN := hg.n
  have hL := hg.s i
  have hm4 : (4000 : Nat) ≤ maxLen := by decide
  have hm5 : (400 : Nat) ≤ maxLen := by decide
  generalize eN : g.owner.length = N at *
  generalize el : g.moves.getD i [] = l at *
  intro m
  induction m with
  | zero =>
    intro k hk S F c h h1 h2 hF hc
    have c1 : ¬ (k : Int) < (l.length : Int) := by omega
    have w1 := wrap_succ (i := i) (n := N) hi (by omega)
    rw [List.drop_of_length_le (by omega)]
    let eA : Env := F57.ee8 (.mp 0 0 0) (.int .i64 N) (.mp 3 0 0) (.msl 2 0 N true) (.msl 4 0 N true) (.mp 5 0 0) .undef (.int .i64 N) (.int .i64 i) .undef .undef .undef .undef
    have hA := h.gc (n := n2) eA (by omega) h2
    let eB : Env := F57.ee11 (.mp 0 0 0) (.int .i64 N) (.mp 3 0 0) (.msl 2 0 N true) (.msl 4 0 N true) (.mp 5 0 0) (.int .i64 N) (.int .i64 (i + 1 : Nat))
    have hB := hA.gc (n := 6 + N) eB (by omega) (by have := hA.len; omega)
    refine ⟨_, hB, by have := hB.len; omega, fun z hz => F57.L2_step ?_⟩
    have s1 : ∀ K : KT, execL (F57.C 0) 2 F57.c237 K (F57.ee7 (.mp 0 0 0) (.int .i64 N) (.mp 3 0 0) (.msl 2 0 N true) (.msl 4 0 N true) (.mp 5 0 0) (.int .i64 i) (.int .i64 N) (.int .i64 i) (.sl (intRows l) false) (.int .i64 l.length) (.int .i64 k)) S = K .normal (F57.ee8 (.mp 0 0 0) (.int .i64 N) (.mp 3 0 0) (.msl 2 0 N true) (.msl 4 0 N true) (.mp 5 0 0) (.int .i64 i) (.int .i64 N) (.int .i64 i) (.sl (intRows l) false) (.int .i64 l.length) (.int .i64 k) (.bool false)) S := fun K => by
      simp only [go_sem, ↓reduceIte, Nat.reduceEqDiff, Nat.reduceBEq, Nat.reduceAdd, Nat.reduceMul, Nat.reduceSub, Nat.reduceLT, Nat.reduceLeDiff, reduceCtorEq, Int.reduceToNat, Int.reduceLE, Int.reduceLT, Int.reduceEq, c1]
    have s2 : ∀ (K : KT) (S : Store), execL (F57.C 0) 0 F57.c217 K eA S = K .normal (F57.ee11 (.mp 0 0 0) (.int .i64 N) (.mp 3 0 0) (.msl 2 0 N true) (.msl 4 0 N true) (.mp 5 0 0) (.int .i64 N) (.int .i64 (i + 1 : Nat))) S := fun K S => by
      simp only [go_sem, ↓reduceIte, Nat.reduceEqDiff, Nat.reduceBEq, Nat.reduceAdd, Nat.reduceMul, Nat.reduceSub, Nat.reduceLT, Nat.reduceLeDiff, reduceCtorEq, Int.reduceToNat, Int.reduceLE, Int.reduceLT, Int.reduceEq, withV_any, w1, eA]
    simp only [F57.B2_eq, s1, F57.k253_n, condC_false, F57.k245_exit, F57.k236_x1, F57.k233_exit, if_true, F57.k222_n, F57.k218_n]
    rw [s2, F57.k211_n]
    exact hz
  | succ m hm =>
    intro k hk S F c h h1 h2 hF hc
    have c1 : (k : Int) < (l.length : Int) := by omega
    have hkl : k < l.length := by omega
    have w1 := wrap_succ (i := k) (n := l.length) hkl (by omega)
    obtain ⟨q1, q2⟩ := hg.ok.mv i (by simp only [Game.toG]; omega) (l.getD k 0) (by simp only [Game.toG, el]; simp [List.getD_eq_getElem?_getD, hkl])
    obtain ⟨j, ej⟩ : ∃ j : Nat, l.getD k 0 = j := ⟨(l.getD k 0).toNat, by omega⟩
    have hj : j < N := by simp only [Game.toG, eN] at q2; omega
    have ed : l.drop k = (j : Int) :: l.drop (k + 1) := by
      rw [List.drop_eq_getElem_cons hkl]
      simp only [List.getD_eq_getElem?_getD, List.getElem?_eq_getElem hkl, Option.getD_some] at ej
      rw [ej]
    have hlF := h.lF
    rw [eN] at hlF
    have r4 := rowsAt_of h.p4
    have x4 := idx23m (ex := true) j r4 (by rw [fromRows_length]; exact hlF) (fromRows_ok F) hj
    have hE := h.ext [.arr [[.int .i64 i]] (some (some 1)) false]
    obtain ⟨gr, p6a, p6b⟩ := hE.p6 j (by omega)
    have hsl := hF j
    have ap := appendHere p6b p6a (y := .msl S.length 0 1 true) (l := [(i : Int)]) (.msl S.length [(i : Int)] true (some (some 1)) false (by simp [intRows])) (by simp only [List.length_cons, List.length_nil]; omega)
    obtain ⟨u1, u2⟩ := hE.push (by omega : j < g.owner.length) (F.getD j [] ++ [(i : Int)])
    generalize eS2 : ((S ++ [Obj.arr [[.int .i64 i]] (some (some 1)) false]).map (killObj [6 + j])).set (6 + j) (.arr (intRows (F.getD j [] ++ [(i : Int)])) (some (some 1)) false) = S2 at *
    have st := storeRow (v := .msl (6 + j) 0 (F.getD j [] ++ [(i : Int)]).length false) known22 size22 u1 (j := j) (by rw [kill_length, fromRows_length]; omega) (by rw [kill_get, fromRows_get F j (by omega)]; rfl) rfl rfl
    generalize eS3 : S2.set 4 (.arr ((killRows [6 + j] (fromRows F)).set j [.msl (6 + j) 0 (F.getD j [] ++ [(i : Int)]).length false]) (some (some 1)) false) = S3 at *
    have r4' := rowsAt_of u1
    have x4' := idx23m (ex := true) j r4' (by rw [kill_length, fromRows_length]; exact hlF) (kill_ok (fromRows_ok F)) hj
    have s1 : ∀ K : KT, execL (F57.C 0) 2 F57.c237 K (F57.ee7 (.mp 0 0 0) (.int .i64 N) (.mp 3 0 0) (.msl 2 0 N true) (.msl 4 0 N true) (.mp 5 0 0) (.int .i64 i) (.int .i64 N) (.int .i64 i) (.sl (intRows l) false) (.int .i64 l.length) (.int .i64 k)) S = K .normal (F57.ee8 (.mp 0 0 0) (.int .i64 N) (.mp 3 0 0) (.msl 2 0 N true) (.msl 4 0 N true) (.mp 5 0 0) (.int .i64 i) (.int .i64 N) (.int .i64 i) (.sl (intRows l) false) (.int .i64 l.length) (.int .i64 k) (.bool true)) S := fun K => by
      simp only [go_sem, ↓reduceIte, Nat.reduceEqDiff, Nat.reduceBEq, Nat.reduceAdd, Nat.reduceMul, Nat.reduceSub, Nat.reduceLT, Nat.reduceLeDiff, reduceCtorEq, Int.reduceToNat, Int.reduceLE, Int.reduceLT, Int.reduceEq, c1]
    have h4 : 0 ≤ (k : Int) ∧ (k : Int) < (l.length : Int) := ⟨by omega, c1⟩
    have s2 : ∀ K : KT, execL (F57.C 0) 3 F57.c248 K (F57.ee8 (.mp 0 0 0) (.int .i64 N) (.mp 3 0 0) (.msl 2 0 N true) (.msl 4 0 N true) (.mp 5 0 0) (.int .i64 i) (.int .i64 N) (.int .i64 i) (.sl (intRows l) false) (.int .i64 l.length) (.int .i64 k) (.bool true)) S = K .normal (F57.ee5 (.mp 0 0 0) (.int .i64 N) (.mp 3 0 0) (.msl 2 0 N true) (.msl 4 0 N true) (.mp 5 0 0) (.int .i64 i) (.int .i64 j) (.int .i64 N) (.int .i64 i) (.sl (intRows l) false) (.int .i64 l.length) (.int .i64 k)) S := fun K => by
      simp only [go_sem, ↓reduceIte, Nat.reduceEqDiff, Nat.reduceBEq, Nat.reduceAdd, Nat.reduceMul, Nat.reduceSub, Nat.reduceLT, Nat.reduceLeDiff, reduceCtorEq, Int.reduceToNat, Int.reduceLE, Int.reduceLT, Int.reduceEq, h4, ej]
    have kb : ∀ a : Nat, a < 6 → (a == 6 + j) = false := fun a ha => by simp only [beq_eq_false_iff_ne]; omega
    have s3 : ∀ K : KT, execL (F57.C 0) 3 F57.c249 K (F57.ee5 (.mp 0 0 0) (.int .i64 N) (.mp 3 0 0) (.msl 2 0 N true) (.msl 4 0 N true) (.mp 5 0 0) (.int .i64 i) (.int .i64 j) (.int .i64 N) (.int .i64 i) (.sl (intRows l) false) (.int .i64 l.length) (.int .i64 k)) S = K .normal (F57.ee7 (.mp 0 0 0) (.int .i64 N) (.mp 3 0 0) (.msl 2 0 N true) (.msl 4 0 N true) (.mp 5 0 0) (.int .i64 i) (.int .i64 N) (.int .i64 i) (.sl (intRows l) false) (.int .i64 l.length) (.int .i64 k)) S3 := fun K => by
      simp only [storeE_eq, known22', if_true, size22, List.length_append, List.length_cons, List.length_nil, Nat.zero_add] at st
      simp only [F57.g251, withV_any, x4]
      simp only [go_sem, ↓reduceIte, Nat.reduceEqDiff, Nat.reduceBEq, Nat.reduceAdd, Nat.reduceMul, Nat.reduceSub, Nat.reduceLT, Nat.reduceLeDiff, reduceCtorEq, Int.reduceToNat, Int.reduceLE, Int.reduceLT, Int.reduceEq, withV_any, r4, fromRows_length, fromRows_get F j (by omega : j < F.length), hlF, hj, ap, get_put, get_killE, kb 0 (by omega), kb 2 (by omega), kb 3 (by omega), kb 4 (by omega), kb 5 (by omega), x4', st]
    have s4 : ∀ (K : KT) (S : Store), execL (F57.C 0) 2 F57.c242 K (F57.ee7 (.mp 0 0 0) (.int .i64 N) (.mp 3 0 0) (.msl 2 0 N true) (.msl 4 0 N true) (.mp 5 0 0) (.int .i64 i) (.int .i64 N) (.int .i64 i) (.sl (intRows l) false) (.int .i64 l.length) (.int .i64 k)) S = K .normal (F57.ee7 (.mp 0 0 0) (.int .i64 N) (.mp 3 0 0) (.msl 2 0 N true) (.msl 4 0 N true) (.mp 5 0 0) (.int .i64 i) (.int .i64 N) (.int .i64 i) (.sl (intRows l) false) (.int .i64 l.length) (.int .i64 (k + 1 : Nat))) S := fun K S => by
      simp only [go_sem, ↓reduceIte, Nat.reduceEqDiff, Nat.reduceBEq, Nat.reduceAdd, Nat.reduceMul, Nat.reduceSub, Nat.reduceLT, Nat.reduceLeDiff, reduceCtorEq, Int.reduceToNat, Int.reduceLE, Int.reduceLT, Int.reduceEq, withV_any, w1]
    have l3 : n2 ≤ S3.length := by rw [← eS3, ← eS2]; simp; omega
    obtain ⟨g1, g2⟩ := gc_at (n := n2) (e := F57.ee7 (.mp 0 0 0) (.int .i64 N) (.mp 3 0 0) (.msl 2 0 N true) (.msl 4 0 N true) (.mp 5 0 0) (.int .i64 i) (.int .i64 N) (.int .i64 i) (.sl (intRows l) false) (.int .i64 l.length) (.int .i64 (k + 1 : Nat))) l3
    obtain ⟨S', a1, a2, a3⟩ := hm (k + 1) (by omega) _ _ (c + 1) (u2.gc (n := n2) (F57.ee7 (.mp 0 0 0) (.int .i64 N) (.mp 3 0 0) (.msl 2 0 N true) (.msl 4 0 N true) (.mp 5 0 0) (.int .i64 i) (.int .i64 N) (.int .i64 i) (.sl (intRows l) false) (.int .i64 l.length) (.int .i64 (k + 1 : Nat))) (by omega) l3) h1 g1 (hF.set j i) (by omega)
    refine ⟨S', by rw [ed, pushes, List.foldl_cons, ← pushes]; exact a1, a2, fun z hz => F57.L2_step ?_⟩
    simp only [F57.B2_eq, s1, F57.k253_n, condC_true, F57.k245_n, s2, F57.k250_n, s3, F57.k247_n, F57.k243_n, s4, F57.k236_n]
    exact a3 z hz
end Go.Vs
end

/- Printed by a program of mine (stage1.py): the functions 76, 49, 51, 33, 59, 10, piece by piece. -/

import Derived.Test.YtnddhkcciphhkaaMX10
import Derived.Test.YtnddhkcciphhkaaMX13
import Derived.Test.YtnddhkcciphhkaaMX17
import Derived.Test.YtnddhkcciphhkaaMX21
section
set_option linter.unusedVariables false
set_option linter.unusedSimpArgs false
namespace Go.Vs
open Go Go.Proofs
noncomputable section

/-! ### isochroneref08.walk -/
namespace F76
section
variable (b i n n0 : Nat) (K : KT) (x0 x1 x2 x3 x4 x6 x9 x10 x11 x12 x13 x20 x35 : PV) (e : Env) (S : Store)
end
end F76
/-! ### isochroneref08.Paths -/
namespace F49
section
variable (b : Nat) (K : KT) (x0 x1 x2 x3 x4 x8 : PV) (e : Env) (S : Store)
end
end F49
/-! ### isochroneref08.Find -/
namespace F51
section
variable (b : Nat) (K : KT) (x0 x1 x2 x3 x4 x5 x6 x10 : PV) (e : Env) (S : Store)
end
end F51
/-! ### isochroneref08.SamePaths -/
namespace F33
section
variable (b i n n0 : Nat) (K : KT) (x0 x1 x4 x5 x10 x14 x26 : PV) (e : Env) (S : Store)
end
end F33
/-! ### isochroneref08.SamePath -/
namespace F59
section
variable (b i n n0 : Nat) (K : KT) (x0 x1 x4 x5 x10 x14 x25 : PV) (e : Env) (S : Store)
end
end F59
/-! ### isochronelaw08.TreePaths -/
namespace F10
section
variable (b : Nat) (K : KT) (x0 x1 x2 x3 x4 x5 x6 x7 x8 x9 x10 x11 x12 x14 x22 : PV) (e : Env) (S : Store)
end
end F10
end
end Go.Vs
end
/- The reference's walk: what it returns, and what it leaves. -/
section
set_option linter.unusedVariables false
set_option linter.unusedSimpArgs false
namespace Go.Vs
open Go Go.Proofs
/- The paths of the nodes for which c holds, in preorder. -/
/-- Is a node's path asked for? -/
def wanted (sm : Bool) (part : Node) (x : Node) : Bool := !sm || decide (x.cmp part = 0)
/-- The part asked for, as it lies in memory. -/
structure PartOK (sm : Bool) (pt : Node) (pc : List PV) : Prop where
  len : pc.length = 6
  all : pc.all PV.cell = true
  refs : refsL pc = []
  part : Vs.part (tyi Try.prog 54) pc = some (.agg pc)
  eq : sm = true → pc = pt.cells
theorem PartOK.node (sm : Bool) (n : Node) : PartOK sm n n.cells := ⟨n.cells_length, n.cells_cell, n.refs, n.part54, fun _ => rfl⟩
theorem PartOK.none (n : Node) : PartOK false n zeroNode := ⟨rfl, rfl, rfl, zeroNode_part54, fun h => by cases h⟩
end Go.Vs
end
/- The reference's walk, Paths, Find: what they return. -/
section
set_option linter.unusedVariables false
set_option linter.unusedSimpArgs false
namespace Go.Vs
open Go Go.Proofs
/-! ### Lists of paths, frozen -/
theorem PathRows.fz {S : Store} {id : Nat} {rows : List (List PV)} {L : List (List Int)} (h : PathRows S id rows L) (d : Nat) : mapO (mapO (fzCell S (d + 2))) rows = some (pathRows L) := by
  induction h with
  | nil => rfl
  | cons h1 _ _ ih =>
    simp only [mapO, h1.fz, Option.bind_some, ih, Option.map_some]
    rfl
theorem OutV.fz {S : Store} {v : PV} {L : List (List Int)} (h : OutV S v L) : ∃ ex, fzPV1 S v = some (.sl (pathRows L) ex) ∧ (ex = true → L = []) := by
  cases h with
  | nil => exact ⟨true, rfl, fun _ => rfl⟩
  | arr id rows L h hr =>
    refine ⟨false, ?_, fun h => by cases h⟩
    have e1 : rowsIn S (.msl id 0 L.length false) = some rows := by
      rw [rowsIn_msl, rowsAt_of h]
      simp only [Option.bind_some, Nat.zero_add, List.drop_zero, ← hr.length, Nat.le_refl, if_true, List.take_length]
    show ((rowsIn S (.msl id 0 L.length false)).bind fun rows => (mapO (mapO (fzCell S 7)) rows).map fun rows => PV.sl rows false) = _
    rw [e1]
    simp only [Option.bind_some, hr.fz 5, Option.map_some]
end Go.Vs
end
/- The reference's held: the game in which a player has but a strategy's moves. -/
section
set_option linter.unusedVariables false
set_option linter.unusedSimpArgs false
set_option maxRecDepth 100000
namespace Go.Vs
open Go Go.Proofs
theorem PathRows.gc {S : Store} {id n : Nat} {e : Env} {rows : List (List PV)} {L : List (List Int)} {g : Option (Option Nat)} {f : Bool} (h : PathRows S id rows L) (hS : S[id]? = some (.arr rows g f)) (hid : id < n) : PathRows (Vs.gc n e S) id rows L := by
  unfold Vs.gc
  split
  case isFalse => exact h
  rename_i hc
  obtain ⟨h1, h2⟩ := hc
  rw [List.all_eq_true] at h2
  have hrows := h2 (.arr rows g f) (by
    have e : (S.take n)[id]? = some (.arr rows g f) := by rw [List.getElem?_take_of_lt hid]; exact hS
    exact List.mem_of_getElem? e)
  simp only [List.all_eq_true, decide_eq_true_eq] at hrows
  exact h.move fun r hrr => ⟨by rw [List.getElem?_take_of_lt (hrows r hrr)], fun e => h.out (e ▸ hrr)⟩
theorem PathRows.put {S : Store} {id : Nat} {rows : List (List PV)} {L : List (List Int)} (h : PathRows S id rows L) {p : PV} {l : List Int} (hp : Ints S p l) (hi : id ∉ p.refs) : ∀ i, PathRows S id (rows.set i [p]) (L.set i l) := by
  induction h with
  | nil => intro i; exact .nil
  | cons h1 h2 t ih =>
    intro i
    cases i with
    | zero => exact .cons hp hi t
    | succ i => exact .cons h1 h2 (ih i)
/-- What is held, of a game and the lists of moves made so far. -/
structure HS (g : Game) (L : List (List Int)) (S : Store) : Prop where
  p0 : S[0]? = some (.arr [g.cells] none false)
  p1 : S[1]? = some (.arr [[.sl [] true, .sl [] true, .sl [] true]] none false)
  p2 : ∃ rows, S[2]? = some (.arr rows (some (some 1)) false) ∧ PathRows S 2 rows L
  len : L.length = g.owner.length
theorem HS.lt {g : Game} {L : List (List Int)} {S : Store} (h : HS g L S) : 3 ≤ S.length := by
  obtain ⟨rows, h2, _⟩ := h.p2
  exact (List.getElem?_eq_some_iff.1 h2).1
theorem HS.gc {g : Game} {L : List (List Int)} {S : Store} (h : HS g L S) (e : Env) : HS g L (Vs.gc 3 e S) := by
  obtain ⟨rows, h2, hr⟩ := h.p2
  obtain ⟨_, g2⟩ := gc_at (e := e) h.lt
  exact ⟨by rw [g2 0 (by omega)]; exact h.p0, by rw [g2 1 (by omega)]; exact h.p1, ⟨rows, by rw [g2 2 (by omega)]; exact h2, hr.gc h2 (by omega)⟩, h.len⟩
theorem HS.ext {g : Game} {L : List (List Int)} {S : Store} (h : HS g L S) (U : Store) : HS g L (S ++ U) := by
  obtain ⟨rows, h2, hr⟩ := h.p2
  have hl := h.lt
  exact ⟨by rw [List.getElem?_append_left (by omega)]; exact h.p0, by rw [List.getElem?_append_left (by omega)]; exact h.p1, ⟨rows, by rw [List.getElem?_append_left (by omega)]; exact h2, hr.move fun r hrr => ⟨by rw [List.getElem?_append_left (hr.lt r hrr)], fun e => hr.out (e ▸ hrr)⟩⟩, h.len⟩
/-- A list of moves is stored. -/
theorem HS.put {g : Game} {L : List (List Int)} {S : Store} (h : HS g L S) {p : PV} {l : List Int} (hp : Ints S p l) (hi : 2 ∉ p.refs) {i : Nat} (hi2 : i < g.owner.length) :
    indexAddrO Try.prog 23 S (.msl 2 0 g.owner.length true) (.int .i64 i) = some (.mp 2 i 0) ∧ ∃ S', storeE (tyi Try.prog 22) S (.mp 2 i 0) p = some { v := .skip, S := S' } ∧ HS g (L.set i l) S' := by
  obtain ⟨rows, h2, hr⟩ := h.p2
  have hl := h.lt
  have hrl := hr.length
  have hL := h.len
  have hc : p.cell = true := hp.cell
  have e1 : (rows.getD i []).length = 1 := by
    have := hr.ok
    simp only [rowsOK, List.all_eq_true, beq_iff_eq] at this
    exact this _ (by
      have : i < rows.length := by omega
      simp [List.getD_eq_getElem?_getD, this])
  refine ⟨idx23m i (rowsAt_of h2) (by omega) hr.ok (by omega), S.set 2 (.arr (rows.set i [p]) (some (some 1)) false), ?_, ?_⟩
  · simp only [storeE_eq, known22, if_true, size22, evStore, h2, hp.cells]
    rw [if_pos ⟨by omega, by omega, rfl, by simp [hc]⟩]
    have e2 : splice (rows.getD i []) 0 [p] = [p] := by
      unfold splice
      rw [if_pos ⟨rfl, by rw [e1]; rfl⟩]
    rw [e2]
    rfl
  · have hm : ∀ r, r ≠ 2 → (S.set 2 (.arr (rows.set i [p]) (some (some 1)) false))[r]? = S[r]? := fun r hr => List.getElem?_set_ne (fun e => hr e.symm)
    refine ⟨by rw [hm 0 (by decide)]; exact h.p0, by rw [hm 1 (by decide)]; exact h.p1, ⟨rows.set i [p], by rw [List.getElem?_set_self (by omega)], ?_⟩, by rw [List.length_set]; exact hL⟩
    have hq := hr.put hp hi i
    exact hq.move fun r hrr => ⟨hm r fun e => hq.out (e ▸ hrr), fun e => hq.out (e ▸ hrr)⟩
def Game.heldAt (g : Game) (p : Int) (s : List Int) (i : Nat) : List Int := if g.owner.getD i 0 = p then (if 0 ≤ s.getD i 0 then [s.getD i 0] else []) else g.moves.getD i []
section
attribute [local irreducible] Vs.callL Vs.callRL tyi callO callM callMV appendE storeE evLoad indexAddrO sliceO evFieldAddr evField buildO buildSliceO makeSliceO allocO boxed lenO copyE convertO indexO Vs.gc freezeAll
noncomputable def fx61 : FX := ⟨Try.f61, hints.of 61, []⟩
theorem ok61 : fx61.ok 61 := ⟨by kernel_rfl, of_decide_eq_true (by kernel_rfl), by kernel_rfl, by kernel_rfl, by kernel_rfl⟩
theorem sem61 (b0 : Nat) (m : Md) (fs : List Fr) (e : Env) (S : Store) : sem b0 fx61 m fs e S = run b0 fx61 1000 m fs e S := (sem_eq _ _ _ _ _ _).trans (run_sem b0 fx61 ok61.good 1000 m fs e S).symm
end
def Game.heldMoves (g : Game) (p : Int) (s : List Int) : List (List Int) := (List.range g.owner.length).map (g.heldAt p s)
/-- The game in which a player has but a strategy's moves. -/
def Game.held (g : Game) (p : Int) (s : List Int) : Game := ⟨g.owner, g.heldMoves p s, g.goal⟩
theorem zero26 : (tyi Try.prog 26).zero = some [.sl [] true, .sl [] true, .sl [] true] := by kernel_rfl
@[go_sem] theorem alloc26 (id : Nat) : allocO (tyi Try.prog 26) id = some { v := .mp id 0 0, new := some ([[.sl [] true, .sl [] true, .sl [] true]], none) } := by
  simp [allocO, zero26, PV.cell]
@[go_sem] theorem part26 (a b c : PV) (r : List PV) : part (tyi Try.prog 26) (a :: b :: c :: r) = some (.agg [a, b, c]) := by simp [part, known26, TI.isAgg, d26, size26]
theorem PathRows.ints_at {S : Store} {id : Nat} {rows : List (List PV)} {L : List (List Int)} (h : PathRows S id rows L) : ∀ r ∈ rowsRefs rows, ∃ l g f, S[r]? = some (.arr (intRows l) g f) := by
  induction h with
  | nil => intro r hr; cases hr
  | cons h1 _ _ ih =>
    intro r hr
    simp only [rowsRefs_cons, refsL, List.append_nil, List.mem_append] at hr
    rcases hr with hr | hr
    · cases h1 with
      | sl l ex => cases hr
      | msl id l ex g f h =>
        simp only [PV.refs, List.mem_singleton] at hr
        exact ⟨_, g, f, by rw [hr]; exact h⟩
    · exact ih r hr
theorem rows_fz {S : Store} {id n : Nat} {ex : Bool} {rows : List (List PV)} {L : List (List Int)} {g : Option (Option Nat)} {f : Bool} (h : S[id]? = some (.arr rows g f)) (hr : PathRows S id rows L) (hn : L.length = n) : fzCell S 8 (.msl id 0 n ex) = some (.sl (pathRows L) false) := by
  have e1 : rowsIn S (.msl id 0 n false) = some rows := by
    rw [rowsIn_msl, rowsAt_of h]
    simp only [Option.bind_some, Nat.zero_add, List.drop_zero, ← hn, ← hr.length, Nat.le_refl, if_true, List.take_length]
  show ((rowsIn S (.msl id 0 n false)).bind fun rows => (mapO (mapO (fzCell S 7)) rows).map fun rows => PV.sl rows false) = _
  rw [e1]
  simp only [Option.bind_some, hr.fz 5, Option.map_some]
attribute [local irreducible] Vs.callL Vs.callRL tyi callO callM callMV appendE storeE evLoad indexAddrO sliceO evFieldAddr evField buildO buildSliceO makeSliceO allocO boxed lenO copyE convertO indexO Vs.gc freezeAll
end Go.Vs
end
/- The reference's Beats: what it returns. -/
section
set_option linter.unusedVariables false
set_option linter.unusedSimpArgs false
set_option maxRecDepth 100000
namespace Go.Vs
open Go Go.Proofs
theorem hasFrom_mem (x : Int) (l : List Int) : ∀ (m k : Nat), k + m = l.length → hasFrom x l m k = true → x ∈ l
  | 0, k, hk, h => by cases h
  | m + 1, k, hk, h => by
    simp only [hasFrom, Bool.or_eq_true, decide_eq_true_eq] at h
    rcases h with h | h
    · rw [← h, List.getD_eq_getElem?_getD, List.getElem?_eq_getElem (by omega), Option.getD_some]
      exact List.getElem_mem _
    · exact hasFrom_mem x l m (k + 1) (by omega) h
theorem fitFrom_at (g : Game) (p : Int) (s : List Int) : ∀ (m i : Nat), g.fitFrom p s m i = true → ∀ j, i ≤ j → j < i + m → g.fitAt p s j = true
  | 0, i, h, j, h1, h2 => by omega
  | m + 1, i, h, j, h1, h2 => by
    simp only [Game.fitFrom, Bool.and_eq_true] at h
    by_cases e : i = j
    · subst e; exact h.1
    · exact fitFrom_at g p s m (i + 1) h.2 j (by omega) (by omega)
theorem fits_len {g : Game} {p : Int} {s : List Int} (h : g.fits p s = true) : s.length = g.owner.length := by
  simp only [Game.fits, Bool.and_eq_true, decide_eq_true_eq] at h
  exact h.1
/-- What a strategy says. -/
theorem fits_at {g : Game} {p : Int} {s : List Int} (h : g.fits p s = true) {i : Nat} (hi : i < g.owner.length) : s.getD i 0 = -1 ∨ (g.owner.getD i 0 = p ∧ s.getD i 0 ∈ g.moves.getD i []) := by
  have hl := fits_len h
  simp only [Game.fits, Bool.and_eq_true, decide_eq_true_eq] at h
  have := fitFrom_at g p s _ _ h.2 i (by omega) (by omega)
  simp only [Game.fitAt, Bool.or_eq_true, decide_eq_true_eq, Bool.and_eq_true] at this
  rcases this with h1 | ⟨h1, h2⟩
  · exact .inl h1
  · exact .inr ⟨h1, hasFrom_mem _ _ _ _ (by omega) h2⟩
theorem heldMoves_get (g : Game) (p : Int) (s : List Int) {i : Nat} (hi : i < g.owner.length) : (g.heldMoves p s).getD i [] = g.heldAt p s i := by
  simp [Game.heldMoves, List.getD_eq_getElem?_getD, hi]
theorem heldMoves_len (g : Game) (p : Int) (s : List Int) : (g.heldMoves p s).length = g.owner.length := by simp [Game.heldMoves]
theorem heldAt_sub {g : Game} {p : Int} {s : List Int} (h : g.fits p s = true) {i : Nat} (hi : i < g.owner.length) : ∀ m ∈ g.heldAt p s i, m ∈ g.moves.getD i [] := by
  intro m hm
  unfold Game.heldAt at hm
  split at hm
  · split at hm
    · rename_i h2
      rw [List.mem_singleton] at hm
      subst hm
      rcases fits_at h hi with h3 | h3
      · omega
      · exact h3.2
    · cases hm
  · exact hm
theorem held_good {g : Game} (hg : g.good) {p : Int} {s : List Int} (h : g.fits p s = true) : (g.held p s).good := by
  have hN := hg.n
  refine ⟨heldMoves_len g p s, hg.l, hg.n, fun i => ?_, ⟨hg.ok.own, fun i hi m hm => ?_, fun i hi => ?_⟩⟩
  · by_cases hi : i < g.owner.length
    · show ((g.heldMoves p s).getD i []).length ≤ 4000
      rw [heldMoves_get g p s hi]
      unfold Game.heldAt
      split
      · split <;> simp
      · exact hg.s i
    · show ((g.heldMoves p s).getD i []).length ≤ 4000
      rw [List.getD_eq_getElem?_getD, List.getElem?_eq_none (by rw [heldMoves_len]; omega)]
      simp
  · have hm' : m ∈ (g.heldMoves p s).getD i [] := hm
    rw [heldMoves_get g p s hi] at hm'
    exact hg.ok.mv i hi m (heldAt_sub h hi m hm')
  · show ((g.heldMoves p s).getD i []).Pairwise (· < ·)
    rw [heldMoves_get g p s hi]
    unfold Game.heldAt
    split
    · split <;> simp
    · exact hg.ok.inc i hi
/-- What Beats returns. -/
def Game.beats (g : Game) (p : Int) (s : List Int) (fr : Int) : Bool := winB p ((g.held p s).ranks.getD fr.toNat 0)
def Game.beatsRes (g : Game) (p : Int) (s : List Int) (fr : Int) : Bool × Int :=
  if g.check ≠ 0 then (false, g.check)
  else if ¬ (p = 0 ∨ p = 1) ∨ fr < 0 ∨ g.owner.length ≤ fr then (false, 1)
  else if g.fits p s = false then (false, 3)
  else (g.beats p s fr, 0)
theorem callO3 {f : FuncId} {g : Game} {p : Int} {l : List Int} {v : PV} (S : Store) (h : callL Try.prog hints f [.agg g.cells, .int .i64 p, .sl (intRows l) false] = some v) : callO (callL Try.prog hints) S f [.agg g.cells, .int .i64 p, .sl (intRows l) false] = some { v } := callO_plain h (by
  intro a ha
  simp only [List.mem_cons, List.not_mem_nil, or_false] at ha
  rcases ha with rfl | rfl | rfl
  · exact g.plain
  · exact .int _ _
  · exact .sl _)
attribute [local irreducible] Vs.callL Vs.callRL tyi callO callM callMV appendE storeE evLoad indexAddrO sliceO evFieldAddr evField buildO buildSliceO makeSliceO allocO boxed lenO copyE convertO indexO Vs.gc freezeAll
noncomputable def fx27 : FX := ⟨Try.f27, hints.of 27, []⟩
theorem ok27 : fx27.ok 27 := ⟨by kernel_rfl, of_decide_eq_true (by kernel_rfl), by kernel_rfl, by kernel_rfl, by kernel_rfl⟩
theorem sem27 (b0 : Nat) (m : Md) (fs : List Fr) (e : Env) (S : Store) : sem b0 fx27 m fs e S = run b0 fx27 1000 m fs e S := (sem_eq _ _ _ _ _ _).trans (run_sem b0 fx27 ok27.good 1000 m fs e S).symm
end Go.Vs
end
/- game.Beats: what it returns. -/
section
set_option linter.unusedVariables false
set_option linter.unusedSimpArgs false
set_option maxRecDepth 100000
namespace Go.Vs
open Go Go.Proofs
theorem appendNil22 (b : Nat) (S : Store) (l : List Int) (ex : Bool) (hl : l.length ≤ 2000000) : appendE Try.prog b 22 22 S (.sl [] true) (.sl (intRows l) ex) = some { v := .msl S.length 0 l.length false, S := S ++ [.arr (intRows l) (some (some 1)) false] } := by
  have e1 : zeroOK (tyi Try.prog 3) = true := by kernel_rfl
  have e2 : (tyi Try.prog 3).bytes = 8 := by kernel_rfl
  have e5 : evAppendNew 8 1 S S.length (.sl [] true) (.sl (intRows l) ex) = some { v := .msl S.length 0 l.length false, new := some (intRows l, some (some 1)) } := by
    have e6 : Vs.rowsIn S (.sl [] true) = some [] := rfl
    have e7 : exact (.sl [] true) = true := rfl
    have e8 : Vs.rowsIn S (.sl (intRows l) ex) = some (intRows l) := rfl
    simp only [evAppendNew, e7, if_true, e6, e8, Option.bind_some, intRows_length]
    rw [if_pos ⟨rfl, intRows_ok l, by simp; omega, by simp; omega⟩]
    by_cases h0 : l.length = 0
    · have : l = [] := List.eq_nil_of_length_eq_zero h0
      subst this
      rfl
    · rw [if_neg h0]
      simp
  simp only [appendE, exact, if_true, appendN, d22, e1, e2, size3, e5, Option.map_some, place]
theorem appendNil24 (b : Nat) (S : Store) (l : List Bool) (ex : Bool) (hl : l.length ≤ 2000000) : appendE Try.prog b 24 24 S (.sl [] true) (.sl (boolRows l) ex) = some { v := .msl S.length 0 l.length false, S := S ++ [.arr (boolRows l) (some (some 1)) false] } := by
  have e5 : evAppendNew 1 1 S S.length (.sl [] true) (.sl (boolRows l) ex) = some { v := .msl S.length 0 l.length false, new := some (boolRows l, some (some 1)) } := by
    have e6 : Vs.rowsIn S (.sl [] true) = some [] := rfl
    have e7 : exact (.sl [] true) = true := rfl
    have e8 : Vs.rowsIn S (.sl (boolRows l) ex) = some (boolRows l) := rfl
    simp only [evAppendNew, e7, if_true, e6, e8, Option.bind_some, boolRows_length]
    rw [if_pos ⟨rfl, boolRows_ok l, by simp; omega, by simp; omega⟩]
    by_cases h0 : l.length = 0
    · have : l = [] := List.eq_nil_of_length_eq_zero h0
      subst this
      rfl
    · rw [if_neg h0]
      simp
  simp only [appendE, exact, if_true, appendN, d24, zeroOK4, bytes4, size4, e5, Option.map_some, place]
/-- What game.Beats holds while it makes the other game. -/
structure BS (g : Game) (L : List (List Int)) (S : Store) : Prop where
  p0 : S[0]? = some (.arr [g.cells] none false)
  p1 : S[1]? = some (.arr (intRows g.owner) (some (some 1)) false)
  p2 : S[2]? = some (.arr (boolRows g.goal) (some (some 1)) false)
  p3 : S[3]? = some (.arr [[.msl 1 0 g.owner.length false, .msl 4 0 L.length false, .msl 2 0 g.goal.length false]] none false)
  p4 : ∃ rows gr, S[4]? = some (.arr rows (some gr) false) ∧ (gr = none ∨ gr = some 1) ∧ PathRows S 4 rows L
theorem BS.lt {g : Game} {L : List (List Int)} {S : Store} (h : BS g L S) : 5 ≤ S.length := by
  obtain ⟨rows, gr, h4, _⟩ := h.p4
  exact (List.getElem?_eq_some_iff.1 h4).1
theorem BS.gc {g : Game} {L : List (List Int)} {S : Store} (h : BS g L S) (e : Env) : BS g L (Vs.gc 5 e S) := by
  obtain ⟨_, g2⟩ := gc_at (e := e) h.lt
  obtain ⟨rows, gr, h4, hg, hr⟩ := h.p4
  exact ⟨by rw [g2 0 (by omega)]; exact h.p0, by rw [g2 1 (by omega)]; exact h.p1, by rw [g2 2 (by omega)]; exact h.p2, by rw [g2 3 (by omega)]; exact h.p3, ⟨rows, gr, by rw [g2 4 (by omega)]; exact h4, hg, hr.gc h4 (by omega)⟩⟩
theorem BS.ext {g : Game} {L : List (List Int)} {S : Store} (h : BS g L S) (U : Store) : BS g L (S ++ U) := by
  have hl := h.lt
  obtain ⟨rows, gr, h4, hg, hr⟩ := h.p4
  exact ⟨by rw [List.getElem?_append_left (by omega)]; exact h.p0, by rw [List.getElem?_append_left (by omega)]; exact h.p1, by rw [List.getElem?_append_left (by omega)]; exact h.p2, by rw [List.getElem?_append_left (by omega)]; exact h.p3, ⟨rows, gr, by rw [List.getElem?_append_left (by omega)]; exact h4, hg, hr.move fun r hrr => ⟨by rw [List.getElem?_append_left (hr.lt r hrr)], fun e => hr.out (e ▸ hrr)⟩⟩⟩
/-- A list of moves more. -/
theorem BS.push {g : Game} {L : List (List Int)} {S : Store} (h : BS g L S) {p : PV} {l : List Int} (hp : Ints S p l) (hd : ∀ r ∈ p.refs, 5 ≤ r) (hn : L.length ≤ 2000000) :
    ∃ S2 S3, appendE Try.prog 0 23 23 (S ++ [.arr [[p]] (some (some 1)) false]) (.msl 4 0 L.length false) (.msl S.length 0 1 true) = some { v := .msl 4 0 (L ++ [l]).length false, S := S2, kill := [4] } ∧ storeE (tyi Try.prog 23) S2 (.mp 3 0 1) (.msl 4 0 (L ++ [l]).length false) = some { v := .skip, S := S3 } ∧ BS g (L ++ [l]) S3 := by
  have hl := h.lt
  obtain ⟨rows, gr, h4, hg, hr⟩ := (h.ext [.arr [[p]] (some (some 1)) false]).p4
  have hp' : Ints (S ++ [.arr [[p]] (some (some 1)) false]) p l := hp.same fun r hr => by rw [List.getElem?_append_left (hp.refs_lt r hr)]
  have hrb : rowsIn (S ++ [.arr [[p]] (some (some 1)) false]) (.msl S.length 0 1 true) = some [[p]] := by
    have e : rowsAt (S ++ [.arr [[p]] (some (some 1)) false]) S.length = some [[p]] := rowsAt_of (g := some (some 1)) (f := false) (by rw [List.getElem?_append_right (by simp)]; simp)
    rw [rowsIn_msl, e]; rfl
  have hlen := hr.length
  have h4p : 4 ∉ p.refs := fun hx => by have := hd 4 hx; omega
  have hk := append_known (b := 0) (bytes := 24) (esz := 1) (ex := false) h4 hrb (Nat.zero_le _) hlen.symm hg hr.ok rfl (by simp only [List.length_cons, List.length_nil]; omega) (by simp only [List.length_cons, List.length_nil]; omega) (by
    have h1 := hr.out
    simp [rowsRefs_cons, rowsRefs_nil, refsL, h1, h4p])
  have hl1 : rows.length + [[p]].length = (L ++ [l]).length := by simp [hlen]
  rw [hl1] at hk
  have e1 : appendE Try.prog 0 23 23 (S ++ [.arr [[p]] (some (some 1)) false]) (.msl 4 0 L.length false) (.msl S.length 0 1 true) = evAppend 0 24 1 (S ++ [.arr [[p]] (some (some 1)) false]) (.msl 4 0 L.length false) (.msl S.length 0 1 true) := by
    simp only [appendE, exact, Bool.false_eq_true, if_false, d23, zeroOK22, if_true, bytes22, size22]
  generalize hS1 : S ++ [Obj.arr [[p]] (some (some 1)) false] = S1 at *
  have hB1 : BS g L S1 := by rw [← hS1]; exact h.ext _
  have hl1' := hB1.lt
  have hm : ∀ {j : Nat} {rows' : List (List PV)} {gg : Option (Option Nat)} {f : Bool}, j ≠ 4 → S1[j]? = some (.arr rows' gg f) → (∀ r ∈ rowsRefs rows', r ≠ 4) → ((S1.map (killObj [4])).set 4 (.arr (rows ++ [[p]]) (some (some 1)) false))[j]? = some (.arr rows' gg f) := fun hj ha hrr => here_at ha hj hrr
  have h3k : ((S1.map (killObj [4])).set 4 (.arr (rows ++ [[p]]) (some (some 1)) false))[3]? = some (.arr [[.msl 1 0 g.owner.length false, .undef, .msl 2 0 g.goal.length false]] none false) := by
    rw [List.getElem?_set_ne (by decide), List.getElem?_map, hB1.p3]
    rfl
  generalize hS2 : (S1.map (killObj [4])).set 4 (.arr (rows ++ [[p]]) (some (some 1)) false) = S2 at *
  have h4k : S2[4]? = some (.arr (rows ++ [[p]]) (some (some 1)) false) := by rw [← hS2, List.getElem?_set_self (by simp; omega)]
  have hl2 : 5 ≤ S2.length := (List.getElem?_eq_some_iff.1 h4k).1
  refine ⟨S2, S2.set 3 (.arr [[.msl 1 0 g.owner.length false, .msl 4 0 (L ++ [l]).length false, .msl 2 0 g.goal.length false]] none false), by rw [e1, hk], ?_, ?_⟩
  · simp only [storeE_eq, known23, if_true, size23, evStore, h3k, PV.cells]
    rw [if_pos ⟨by simp, by simp, rfl, rfl⟩]
    rfl
  · have hm3 : ∀ r, r ≠ 3 → (S2.set 3 (.arr [[.msl 1 0 g.owner.length false, .msl 4 0 (L ++ [l]).length false, .msl 2 0 g.goal.length false]] none false))[r]? = S2[r]? := fun r hr => List.getElem?_set_ne (fun e => hr e.symm)
    refine ⟨?_, ?_, ?_, by rw [List.getElem?_set_self (by omega)], ⟨rows ++ [[p]], some 1, by rw [hm3 4 (by decide)]; exact h4k, .inr rfl, ?_⟩⟩
    · rw [hm3 0 (by decide)]
      exact hm (by decide) hB1.p0 (fun r hr => by
        simp only [rowsRefs_cons, rowsRefs_nil, Game.refs, List.append_nil] at hr
        cases hr)
    · rw [hm3 1 (by decide)]
      exact hm (by decide) hB1.p1 (fun r hr => by rw [intRows_refs] at hr; cases hr)
    · rw [hm3 2 (by decide)]
      exact hm (by decide) hB1.p2 (fun r hr => by rw [boolRows_refs] at hr; cases hr)
    · have hall := hr.snoc hp' h4p
      have hout := hall.out
      refine hall.move fun r hrr => ⟨?_, fun e => hout (e ▸ hrr)⟩
      obtain ⟨l', gg, f, hh⟩ := hall.ints_at r hrr
      have hr3 : r ≠ 3 := fun e => by
        rw [e, hB1.p3] at hh
        cases l' with
        | nil => simp [intRows] at hh
        | cons a l' => simp [intRows] at hh
      rw [hm3 r hr3, hh]
      exact hm (fun e => hout (e ▸ hrr)) hh (fun r hr => by rw [intRows_refs] at hr; cases hr)
section
attribute [local irreducible] Vs.callL Vs.callRL tyi callO callM callMV appendE storeE evLoad indexAddrO sliceO evFieldAddr evField buildO buildSliceO makeSliceO allocO boxed lenO copyE convertO indexO Vs.gc freezeAll
noncomputable def fx26 : FX := ⟨Try.f26, hints.of 26, []⟩
theorem ok26 : fx26.ok 26 := ⟨by kernel_rfl, of_decide_eq_true (by kernel_rfl), by kernel_rfl, by kernel_rfl, by kernel_rfl⟩
theorem sem26 (b0 : Nat) (m : Md) (fs : List Fr) (e : Env) (S : Store) : sem b0 fx26 m fs e S = run b0 fx26 1000 m fs e S := (sem_eq _ _ _ _ _ _).trans (run_sem b0 fx26 ok26.good 1000 m fs e S).symm
theorem loop26_0 (g : Game) (hgd : g.good) (p : Int) (s : List Int) (fr : Int) (hs : s.length = g.owner.length) (fs : List Fr) : ∀ (m i : Nat), i + m = g.owner.length → ∀ (L : List (List Int)) (S : Store), BS g L S → L.length = i →
    ∃ S', BS g (L ++ (List.range' i m).map (g.heldAt p s)) S' ∧ ∀ z, exitTo 0 fx26 0 fs [(1, .int .i64 p), (2, .undef), (3, .int .i64 fr), (4, .undef), (11, .mp 3 0 0), (50, .undef), (51, .undef), (52, .undef)] S' = some z →
    loopAt 0 fx26 0 1012 5 fs [(1, .int .i64 p), (2, .sl (intRows s) false), (3, .int .i64 fr), (4, .mp 0 0 0), (11, .mp 3 0 0), (50, .int .i64 g.owner.length), (51, .int .i64 i)] S = some z := by
  have hN := hgd.n
  have hM := hgd.m
  have hm4 : (4000 : Nat) ≤ maxLen := by decide
  intro m
  induction m with
  | zero =>
    intro i hi L S h hL
    have h1 : ¬ (i : Int) < (g.owner.length : Int) := by omega
    refine ⟨_, by rw [List.range'_zero, List.map_nil, List.append_nil]; exact h.gc [(1, .int .i64 p), (2, .undef), (3, .int .i64 fr), (4, .undef), (11, .mp 3 0 0), (50, .undef), (51, .undef), (52, .undef)], fun z hz => loopAt_step ok26.good 1000 ?_⟩
    ((repeat ((conv => lhs; whnf); simp only [go_sem, ↓reduceIte, Nat.reduceEqDiff, Nat.reduceBEq, Nat.reduceAdd, Nat.reduceMul, Nat.reduceSub, Nat.reduceLT, Nat.reduceLeDiff, reduceCtorEq, Int.reduceToNat, Int.reduceLE, Int.reduceLT, Int.reduceEq, sem26, h1])); try (conv => lhs; whnf); try rfl)
    exact hz
  | succ m hm =>
    intro i hi L S h hL
    have h1 : (i : Int) < (g.owner.length : Int) := by omega
    have h2 := wrap_succ (i := i) (n := g.owner.length) (by omega) (by omega)
    have h4 : 0 ≤ (i : Int) ∧ (i : Int) < (s.length : Int) := ⟨by omega, by omega⟩
    have h5 : 0 ≤ (i : Int) ∧ (i : Int) < (g.owner.length : Int) := ⟨by omega, by omega⟩
    have h6 : 0 ≤ (i : Int) ∧ (i : Int) < (g.moves.length : Int) := ⟨by omega, by omega⟩
    have r0 := rowsAt_of h.p0
    have r3 := rowsAt_of h.p3
    have hlt := h.lt
    have k4 : ∀ n, 5 ≤ n → memN [4] n = false := fun n hn => by
      rw [memN_eq]; simp; omega
    have k1 := k4 S.length hlt
    rw [List.range'_succ, List.map_cons, Game.heldAt]
    by_cases c1 : g.owner.getD i 0 = p
    · rw [if_pos c1]
      by_cases c2 : 0 ≤ s.getD i 0
      · rw [if_pos c2]
        have hB := h.ext [.arr [[.int .i64 (s.getD i 0)]] (some (some 1)) false]
        have r3' := rowsAt_of hB.p3
        have k2 := k4 (S ++ [Obj.arr [[.int .i64 (s.getD i 0)]] (some (some 1)) false]).length hB.lt
        obtain ⟨S2, S3, a1, a2, a3⟩ := hB.push (p := .msl S.length 0 1 true) (l := [s.getD i 0]) (.msl S.length [s.getD i 0] true (some (some 1)) false (by simp [intRows])) (by intro r hr; simp only [PV.refs, List.mem_singleton] at hr; omega) (by omega)
        simp only [storeE_eq, known23, if_true, size23, List.length_append, List.length_cons, List.length_nil, Nat.zero_add] at a2
        simp only [List.append_assoc, List.cons_append, List.nil_append, List.length_append, List.length_cons, List.length_nil, Nat.zero_add] at a1 k2
        obtain ⟨S', b1, b2⟩ := hm (i + 1) (by omega) _ _ (a3.gc [(1, .int .i64 p), (2, .sl (intRows s) false), (3, .int .i64 fr), (4, .mp 0 0 0), (11, .mp 3 0 0), (50, .int .i64 g.owner.length), (51, .int .i64 (i + 1 : Nat))]) (by simp [hL])
        refine ⟨S', by simpa using b1, fun z hz => loopAt_step ok26.good 1000 ?_⟩
        have key := b2 z hz
        ((repeat ((conv => lhs; whnf); simp only [go_sem, ↓reduceIte, Nat.reduceEqDiff, Nat.reduceBEq, Nat.reduceAdd, Nat.reduceMul, Nat.reduceSub, Nat.reduceLT, Nat.reduceLeDiff, reduceCtorEq, Int.reduceToNat, Int.reduceLE, Int.reduceLT, Int.reduceEq, sem26, h1, r0, h6, h5, h4, Int.toNat_natCast, c1, c2, r3, r3', a1, a2, k1, k2, h2])); try (conv => lhs; whnf); try rfl)
        exact key
      · rw [if_neg c2]
        obtain ⟨S2, S3, a1, a2, a3⟩ := h.push (p := .sl [] true) (l := []) (Ints.sl [] true) (by intro r hr; cases hr) (by omega)
        simp only [storeE_eq, known23, if_true, size23, List.length_append, List.length_cons, List.length_nil, Nat.zero_add] at a2
        simp only [List.append_assoc, List.cons_append, List.nil_append, List.length_append, List.length_cons, List.length_nil, Nat.zero_add] at a1 
        obtain ⟨S', b1, b2⟩ := hm (i + 1) (by omega) _ _ (a3.gc [(1, .int .i64 p), (2, .sl (intRows s) false), (3, .int .i64 fr), (4, .mp 0 0 0), (11, .mp 3 0 0), (50, .int .i64 g.owner.length), (51, .int .i64 (i + 1 : Nat))]) (by simp [hL])
        refine ⟨S', by simpa using b1, fun z hz => loopAt_step ok26.good 1000 ?_⟩
        have key := b2 z hz
        ((repeat ((conv => lhs; whnf); simp only [go_sem, ↓reduceIte, Nat.reduceEqDiff, Nat.reduceBEq, Nat.reduceAdd, Nat.reduceMul, Nat.reduceSub, Nat.reduceLT, Nat.reduceLeDiff, reduceCtorEq, Int.reduceToNat, Int.reduceLE, Int.reduceLT, Int.reduceEq, sem26, h1, r0, h6, h5, h4, Int.toNat_natCast, c1, c2, r3, a1, a2, k1, h2])); try (conv => lhs; whnf); try rfl)
        exact key
    · rw [if_neg c1]
      obtain ⟨S2, S3, a1, a2, a3⟩ := h.push (p := .sl (intRows (g.moves.getD i [])) false) (l := g.moves.getD i []) (.sl _ _) (by intro r hr; cases hr) (by omega)
      simp only [storeE_eq, known23, if_true, size23, List.length_append, List.length_cons, List.length_nil, Nat.zero_add] at a2
      simp only [List.append_assoc, List.cons_append, List.nil_append, List.length_append, List.length_cons, List.length_nil, Nat.zero_add] at a1 
      obtain ⟨S', b1, b2⟩ := hm (i + 1) (by omega) _ _ (a3.gc [(1, .int .i64 p), (2, .sl (intRows s) false), (3, .int .i64 fr), (4, .mp 0 0 0), (11, .mp 3 0 0), (50, .int .i64 g.owner.length), (51, .int .i64 (i + 1 : Nat))]) (by simp [hL])
      refine ⟨S', by simpa using b1, fun z hz => loopAt_step ok26.good 1000 ?_⟩
      have key := b2 z hz
      ((repeat ((conv => lhs; whnf); simp only [go_sem, ↓reduceIte, Nat.reduceEqDiff, Nat.reduceBEq, Nat.reduceAdd, Nat.reduceMul, Nat.reduceSub, Nat.reduceLT, Nat.reduceLeDiff, reduceCtorEq, Int.reduceToNat, Int.reduceLE, Int.reduceLT, Int.reduceEq, sem26, h1, r0, h6, h5, h4, Int.toNat_natCast, c1, r3, a1, a2, k1, h2])); try (conv => lhs; whnf); try rfl)
      exact key
end
theorem reach_closed {S : Store} {P : Nat → Prop} (h : ∀ i, P i → ∀ rows, rowsAt S i = some rows → ∀ r ∈ rowsRefs rows, P r) : ∀ (d : Nat) (ids : List Nat), (∀ i ∈ ids, P i) → ∀ i ∈ reach S d ids, P i
  | 0, ids, hi, i, hr => hi i hr
  | d + 1, ids, hi, i, hr => by
    simp only [reach, List.mem_append] at hr
    rcases hr with hr | hr
    · exact hi i hr
    · refine reach_closed h d _ (fun j hj => ?_) i hr
      rw [List.mem_flatMap] at hj
      obtain ⟨k, hk, hj⟩ := hj
      cases hrow : rowsAt S k with
      | none => rw [hrow] at hj; cases hj
      | some rows => rw [hrow] at hj; exact h k (hi k hk) rows hrow j hj
theorem callO_frz {S : Store} {f : FuncId} {l l' : List PV} {v : PV} (h : callL Try.prog hints f l' = some v) (hf : mapO (fzPV S) l = some l') (hr : ∀ i ∈ reach S 8 (l.flatMap PV.refs), i < S.length) : callO (callL Try.prog hints) S f l = some { v, fz := reach S 8 (l.flatMap PV.refs) } := by
  unfold callO
  rw [if_pos (by rw [List.all_eq_true]; intro i hi; exact decide_eq_true (hr i hi)), hf]
  simp only [Option.bind_some, h, Option.map_some]
theorem BS.call {g : Game} {L : List (List Int)} {S : Store} (h : BS g L S) {v : PV} (hc : callL Try.prog hints 57 [.agg (Game.cells ⟨g.owner, L, g.goal⟩)] = some v) :
    ∃ fz, callO (callL Try.prog hints) S 57 [.agg [.msl 1 0 g.owner.length false, .msl 4 0 L.length false, .msl 2 0 g.goal.length false]] = some { v, fz } := by
  obtain ⟨rows, gr, h4, hg, hr⟩ := h.p4
  have hl := h.lt
  refine ⟨_, callO_frz hc ?_ ?_⟩
  · have f1 : fzCell S 8 (.msl 1 0 g.owner.length false) = some (.sl (intRows g.owner) false) := (Ints.msl 1 g.owner false _ _ h.p1).fz 6
    have f2 := rows_fz (ex := false) h4 hr rfl
    have f3 : fzCell S 8 (.msl 2 0 g.goal.length false) = some (.sl (boolRows g.goal) false) := bools_fz (ex := false) h.p2 6
    show mapO (fzPV S) [.agg [.msl 1 0 g.owner.length false, .msl 4 0 L.length false, .msl 2 0 g.goal.length false]] = _
    have f4 : fzPV S (.agg [.msl 1 0 g.owner.length false, .msl 4 0 L.length false, .msl 2 0 g.goal.length false]) = some (.agg (Game.cells ⟨g.owner, L, g.goal⟩)) := by
      show (mapO (fzCell S 8) [.msl 1 0 g.owner.length false, .msl 4 0 L.length false, .msl 2 0 g.goal.length false]).map PV.agg = _
      simp only [mapO, f1, f2, f3, Option.bind_some, Option.map_some]
      rfl
    simp only [mapO, f4, Option.bind_some, Option.map_some]
  · intro i hi
    have key := reach_closed (S := S) (P := fun i => i < S.length ∧ ((∃ l g f, S[i]? = some (.arr (intRows l) g f)) ∨ (∃ l g f, S[i]? = some (.arr (boolRows l) g f)) ∨ i = 4)) (fun i hP rs hrs r hrr => by
      obtain ⟨hlt, hP⟩ := hP
      rcases hP with ⟨l, gg, f, hh⟩ | ⟨l, gg, f, hh⟩ | rfl
      · rw [rowsAt_of hh] at hrs
        cases hrs
        rw [intRows_refs] at hrr; cases hrr
      · rw [rowsAt_of hh] at hrs
        cases hrs
        rw [boolRows_refs] at hrr; cases hrr
      · rw [rowsAt_of h4] at hrs
        cases hrs
        exact ⟨hr.lt r hrr, .inl (hr.ints_at r hrr)⟩) 8 _ (fun j hj => by
      simp only [List.flatMap_cons, List.flatMap_nil, PV.refs, refsL, List.append_nil, List.cons_append, List.nil_append, List.mem_cons, List.not_mem_nil, or_false] at hj
      rcases hj with rfl | rfl | rfl
      · exact ⟨by omega, .inl ⟨_, _, _, h.p1⟩⟩
      · exact ⟨by omega, .inr (.inr rfl)⟩
      · exact ⟨by omega, .inr (.inl ⟨_, _, _, h.p2⟩)⟩) i hi
    exact key.1
theorem build26b {a c : PV} (ha : a.cells = [a]) (hc : c.cells = [c]) (ha' : a.cell = true) (hc' : c.cell = true) : buildO (tyi Try.prog 26) [(0, a), (2, c)] = some (.agg [a, .sl [] true, c]) := by
  have e : PV.cell (.sl [] true) = true := rfl
  simp [buildO, d26, zero26, fillV, ha, hc, ha', hc', e]
section
attribute [local irreducible] Vs.callL Vs.callRL tyi callO callM callMV appendE storeE evLoad indexAddrO sliceO evFieldAddr evField buildO buildSliceO makeSliceO allocO boxed lenO copyE convertO indexO Vs.gc freezeAll
theorem call26 (g : Game) (hg : g.ok) (p : Int) (s : List Int) (fr : Int) : callL Try.prog hints 26 [.agg g.cells, .int .i64 p, .sl (intRows s) false, .int .i64 fr] = some (.tup [.bool (g.beatsRes p s fr).1, .int .i64 (g.beatsRes p s fr).2]) := by
  have c1 := fun S => callG S (call17 g hg)
  unfold Game.beatsRes
  by_cases h : g.check = 0
  · have hgd := good_of h
    have hN := hgd.n
    have c2 := fun S => callO3 S (call60 g hg hgd p s false)
    rw [if_neg (by simpa using h)]
    have bad : (¬ (p = 0 ∨ p = 1) ∨ fr < 0 ∨ (g.owner.length : Int) ≤ fr) → ∃ S, run 0 fx26 1000 (.at 0 1) [] [(0, .agg g.cells), (1, .int .i64 p), (2, .sl (intRows s) false), (3, .int .i64 fr)] [] = some (.tup [.bool false, .int .i64 1], S) := fun hb => by
      refine ⟨[.arr [g.cells] none false], ?_⟩
      by_cases a1 : p = 0
      · subst a1
        by_cases a3 : fr < 0
        · ((repeat ((conv => lhs; whnf); simp only [go_sem, ↓reduceIte, Nat.reduceEqDiff, Nat.reduceBEq, Nat.reduceAdd, Nat.reduceMul, Nat.reduceSub, Nat.reduceLT, Nat.reduceLeDiff, reduceCtorEq, Int.reduceToNat, Int.reduceLE, Int.reduceLT, Int.reduceEq, sem26, c1, h, a3])); try (conv => lhs; whnf); try rfl)
        · have a4 : (g.owner.length : Int) ≤ fr := by
            rcases hb with hb | hb | hb
            · exact absurd (.inl rfl) hb
            · exact absurd hb a3
            · exact hb
          ((repeat ((conv => lhs; whnf); simp only [go_sem, ↓reduceIte, Nat.reduceEqDiff, Nat.reduceBEq, Nat.reduceAdd, Nat.reduceMul, Nat.reduceSub, Nat.reduceLT, Nat.reduceLeDiff, reduceCtorEq, Int.reduceToNat, Int.reduceLE, Int.reduceLT, Int.reduceEq, sem26, c1, h, a3, a4])); try (conv => lhs; whnf); try rfl)
      · by_cases a2 : p = 1
        · subst a2
          by_cases a3 : fr < 0
          · ((repeat ((conv => lhs; whnf); simp only [go_sem, ↓reduceIte, Nat.reduceEqDiff, Nat.reduceBEq, Nat.reduceAdd, Nat.reduceMul, Nat.reduceSub, Nat.reduceLT, Nat.reduceLeDiff, reduceCtorEq, Int.reduceToNat, Int.reduceLE, Int.reduceLT, Int.reduceEq, sem26, c1, h, a3])); try (conv => lhs; whnf); try rfl)
          · have a4 : (g.owner.length : Int) ≤ fr := by
              rcases hb with hb | hb | hb
              · exact absurd (.inr rfl) hb
              · exact absurd hb a3
              · exact hb
            ((repeat ((conv => lhs; whnf); simp only [go_sem, ↓reduceIte, Nat.reduceEqDiff, Nat.reduceBEq, Nat.reduceAdd, Nat.reduceMul, Nat.reduceSub, Nat.reduceLT, Nat.reduceLeDiff, reduceCtorEq, Int.reduceToNat, Int.reduceLE, Int.reduceLT, Int.reduceEq, sem26, c1, h, a3, a4])); try (conv => lhs; whnf); try rfl)
        · ((repeat ((conv => lhs; whnf); simp only [go_sem, ↓reduceIte, Nat.reduceEqDiff, Nat.reduceBEq, Nat.reduceAdd, Nat.reduceMul, Nat.reduceSub, Nat.reduceLT, Nat.reduceLeDiff, reduceCtorEq, Int.reduceToNat, Int.reduceLE, Int.reduceLT, Int.reduceEq, sem26, c1, h, a1, a2])); try (conv => lhs; whnf); try rfl)
    by_cases hb : ¬ (p = 0 ∨ p = 1) ∨ fr < 0 ∨ (g.owner.length : Int) ≤ fr
    · rw [if_pos hb]
      obtain ⟨S, hS⟩ := bad hb
      exact FX.callL ok26 1000 rfl rfl hS rfl
    · rw [if_neg hb]
      have hp : p = 0 ∨ p = 1 := by
        by_cases hp : p = 0 ∨ p = 1
        · exact hp
        · exact absurd (.inl hp) hb
      have a3 : ¬ fr < 0 := fun x => hb (.inr (.inl x))
      have a4 : ¬ (g.owner.length : Int) ≤ fr := fun x => hb (.inr (.inr x))
      by_cases hf : g.fits p s = false
      · rw [if_pos hf]
        refine FX.callL (r := (.tup [.bool false, .int .i64 3], [.arr [g.cells] none false])) ok26 1000 rfl rfl ?_ rfl
        rcases hp with rfl | rfl
        · ((repeat ((conv => lhs; whnf); simp only [go_sem, ↓reduceIte, Nat.reduceEqDiff, Nat.reduceBEq, Nat.reduceAdd, Nat.reduceMul, Nat.reduceSub, Nat.reduceLT, Nat.reduceLeDiff, reduceCtorEq, Int.reduceToNat, Int.reduceLE, Int.reduceLT, Int.reduceEq, sem26, c1, h, a3, a4, c2, hf])); try (conv => lhs; whnf); try rfl)
        · ((repeat ((conv => lhs; whnf); simp only [go_sem, ↓reduceIte, Nat.reduceEqDiff, Nat.reduceBEq, Nat.reduceAdd, Nat.reduceMul, Nat.reduceSub, Nat.reduceLT, Nat.reduceLeDiff, reduceCtorEq, Int.reduceToNat, Int.reduceLE, Int.reduceLT, Int.reduceEq, sem26, c1, h, a3, a4, c2, hf])); try (conv => lhs; whnf); try rfl)
      · rw [if_neg hf]
        have hf' : g.fits p s = true := by simpa using hf
        have hh := held_good hgd hf'
        have n1 := fun (S : Store) => appendNil22 0 S g.owner false (by omega)
        have n2 := fun (S : Store) => appendNil24 0 S g.goal false (by rw [hgd.l]; omega)
        have B0 : BS g [] [.arr [g.cells] none false, .arr (intRows g.owner) (some (some 1)) false, .arr (boolRows g.goal) (some (some 1)) false, .arr [[.msl 1 0 g.owner.length false, .msl 4 0 0 false, .msl 2 0 g.goal.length false]] none false, .arr [] (some none) false] := ⟨rfl, rfl, rfl, rfl, ⟨[], none, rfl, .inl rfl, .nil⟩⟩
        obtain ⟨S', b1, b2⟩ := loop26_0 g hgd p s fr (fits_len hf') [.blk 0, .seq 0 127] g.owner.length 0 (by omega) [] _ B0 rfl
        rw [List.nil_append, ← List.range_eq_range'] at b1
        have b1' : BS g (g.heldMoves p s) S' := b1
        obtain ⟨fz, c3⟩ := b1'.call (call57 (g.held p s) hh)
        have hrl : (g.held p s).ranks.length = g.owner.length := ranks_len _
        have a5 : 0 ≤ fr ∧ fr < ((g.held p s).ranks.length : Int) := ⟨by omega, by omega⟩
        have r3 := rowsAt_of b1'.p3
        have c3' : callO (callL Try.prog hints) S' 57 [.agg [.msl 1 0 g.owner.length false, .msl 4 0 (g.heldMoves p s).length false, .msl 2 0 g.goal.length false]] = some { v := .sl (intRows (g.held p s).ranks) false, fz := fz } := c3
        have bb1 := build26b (a := .msl 1 0 g.owner.length false) (c := .msl 2 0 g.goal.length false) rfl rfl rfl rfl
        have fin : exitTo 0 fx26 0 [.blk 0, .seq 0 127] [(1, .int .i64 p), (2, .undef), (3, .int .i64 fr), (4, .undef), (11, .mp 3 0 0), (50, .undef), (51, .undef), (52, .undef)] S' = some (.tup [.bool (g.beats p s fr), .int .i64 0], freezeAll S' fz) := by
          refine exit_run ok26.good 1000 ?_
          unfold Game.beats winB
          rcases hp with rfl | rfl
          · by_cases d1 : 0 ≤ (g.held 0 s).ranks.getD fr.toNat 0
            · ((repeat ((conv => lhs; whnf); simp only [go_sem, ↓reduceIte, Nat.reduceEqDiff, Nat.reduceBEq, Nat.reduceAdd, Nat.reduceMul, Nat.reduceSub, Nat.reduceLT, Nat.reduceLeDiff, reduceCtorEq, Int.reduceToNat, Int.reduceLE, Int.reduceLT, Int.reduceEq, sem26, r3, c3', a5, d1])); try (conv => lhs; whnf); try rfl)
            · ((repeat ((conv => lhs; whnf); simp only [go_sem, ↓reduceIte, Nat.reduceEqDiff, Nat.reduceBEq, Nat.reduceAdd, Nat.reduceMul, Nat.reduceSub, Nat.reduceLT, Nat.reduceLeDiff, reduceCtorEq, Int.reduceToNat, Int.reduceLE, Int.reduceLT, Int.reduceEq, sem26, r3, c3', a5, d1])); try (conv => lhs; whnf); try rfl)
          · by_cases d1 : 0 ≤ (g.held 1 s).ranks.getD fr.toNat 0
            · ((repeat ((conv => lhs; whnf); simp only [go_sem, ↓reduceIte, Nat.reduceEqDiff, Nat.reduceBEq, Nat.reduceAdd, Nat.reduceMul, Nat.reduceSub, Nat.reduceLT, Nat.reduceLeDiff, reduceCtorEq, Int.reduceToNat, Int.reduceLE, Int.reduceLT, Int.reduceEq, sem26, r3, c3', a5, d1])); try (conv => lhs; whnf); try rfl)
            · ((repeat ((conv => lhs; whnf); simp only [go_sem, ↓reduceIte, Nat.reduceEqDiff, Nat.reduceBEq, Nat.reduceAdd, Nat.reduceMul, Nat.reduceSub, Nat.reduceLT, Nat.reduceLeDiff, reduceCtorEq, Int.reduceToNat, Int.reduceLE, Int.reduceLT, Int.reduceEq, sem26, r3, c3', a5, d1])); try (conv => lhs; whnf); try rfl)
        have oc : ownCell [.arr [g.cells] none false, .arr (intRows g.owner) (some (some 1)) false, .arr (boolRows g.goal) (some (some 1)) false, .arr [[.msl 1 0 g.owner.length false, .sl [] true, .msl 2 0 g.goal.length false]] none false] 3 0 (2011 / 1000 - 1) = [.arr [g.cells] none false, .arr (intRows g.owner) (some (some 1)) false, .arr (boolRows g.goal) (some (some 1)) false, .arr [[.msl 1 0 g.owner.length false, .msl 4 0 0 false, .msl 2 0 g.goal.length false]] none false, .arr [] (some none) false] := rfl
        have key := b2 _ fin
        refine FX.callL (r := (.tup [.bool (g.beats p s fr), .int .i64 0], freezeAll S' fz)) ok26 1000 rfl rfl ?_ rfl
        rcases hp with rfl | rfl
        · ((repeat ((conv => lhs; whnf); simp only [go_sem, ↓reduceIte, Nat.reduceEqDiff, Nat.reduceBEq, Nat.reduceAdd, Nat.reduceMul, Nat.reduceSub, Nat.reduceLT, Nat.reduceLeDiff, reduceCtorEq, Int.reduceToNat, Int.reduceLE, Int.reduceLT, Int.reduceEq, sem26, c1, h, a3, a4, c2, hf', n1, n2, bb1, oc])); try (conv => lhs; whnf); try rfl)
          exact key
        · ((repeat ((conv => lhs; whnf); simp only [go_sem, ↓reduceIte, Nat.reduceEqDiff, Nat.reduceBEq, Nat.reduceAdd, Nat.reduceMul, Nat.reduceSub, Nat.reduceLT, Nat.reduceLeDiff, reduceCtorEq, Int.reduceToNat, Int.reduceLE, Int.reduceLT, Int.reduceEq, sem26, c1, h, a3, a4, c2, hf', n1, n2, bb1, oc])); try (conv => lhs; whnf); try rfl)
          exact key
  · rw [if_pos h]
    refine FX.callL (r := (.tup [.bool false, .int .i64 g.check], [.arr [g.cells] none false])) ok26 1000 rfl rfl ?_ rfl
    ((repeat ((conv => lhs; whnf); simp only [go_sem, ↓reduceIte, Nat.reduceEqDiff, Nat.reduceBEq, Nat.reduceAdd, Nat.reduceMul, Nat.reduceSub, Nat.reduceLT, Nat.reduceLeDiff, reduceCtorEq, Int.reduceToNat, Int.reduceLE, Int.reduceLT, Int.reduceEq, sem26, c1, h])); try (conv => lhs; whnf); try rfl)
end
end Go.Vs
end
/- law 23's helpers: light, bools, ints. -/
section
set_option linter.unusedVariables false
set_option linter.unusedSimpArgs false
namespace Go.Vs
open Go Go.Proofs
theorem loop14 (g : Game) (hg : g.ok) : ∀ (m i : Nat), i + m = g.moves.length → ∀ a : Int,
    F14.L0 0 1 (.mp 0 0 0) (.int .i64 a) (.int .i64 i) [.arr [g.cells] none false] = some (.bool (decide (sumLens a (g.moves.drop i) ≤ 600)), [.arr [g.cells] none false]) := by
  intro m
  induction m with
  | zero =>
    intro i hi a
    have h1 : ¬ (i : Int) < (g.moves.length : Int) := by omega
    rw [List.drop_of_length_le (by omega), sumLens]
    refine F14.L0_step ?_
    have s1 : ∀ (K : KT), execL (F14.C 0) 0 F14.c33 K (F14.ee2 (.mp 0 0 0) (.int .i64 a) (.int .i64 i)) [.arr [g.cells] none false] = K .normal (F14.ee3 (.mp 0 0 0) (.int .i64 a) (.int .i64 i) (.bool false)) [.arr [g.cells] none false] := fun K => by
      simp only [go_sem, ↓reduceIte, Nat.reduceEqDiff, Nat.reduceBEq, Nat.reduceAdd, Nat.reduceMul, Nat.reduceSub, Nat.reduceLT, Nat.reduceLeDiff, reduceCtorEq, Int.reduceToNat, Int.reduceLE, Int.reduceLT, Int.reduceEq, withV_any, h1]
    have s2 : ∀ (K : KT) (S : Store), execL (F14.C 0) 0 F14.c9 K (F14.ee3 .undef (.int .i64 a) .undef .undef) S = K .normal (F14.ee5 (.bool (decide (a ≤ 600)))) S := fun K S => by
      by_cases hh : a ≤ 600
      · simp only [go_sem, ↓reduceIte, Nat.reduceEqDiff, Nat.reduceBEq, Nat.reduceAdd, Nat.reduceMul, Nat.reduceSub, Nat.reduceLT, Nat.reduceLeDiff, reduceCtorEq, Int.reduceToNat, Int.reduceLE, Int.reduceLT, Int.reduceEq, withV_any, hh, decide_true]
      · simp only [go_sem, ↓reduceIte, Nat.reduceEqDiff, Nat.reduceBEq, Nat.reduceAdd, Nat.reduceMul, Nat.reduceSub, Nat.reduceLT, Nat.reduceLeDiff, reduceCtorEq, Int.reduceToNat, Int.reduceLE, Int.reduceLT, Int.reduceEq, withV_any, hh, decide_false]
    simp only [F14.B0_eq, s1, F14.k35_n, condC_false, F14.k29_exit, F14.k22_x1, gc_one, F14.k19_exit, if_true, F14.k12_n, s2, F14.k11_n, F14.k0_ret5]
  | succ m hm =>
    intro i hi a
    have h1 : (i : Int) < (g.moves.length : Int) := by omega
    have h2 := wrap_succ (i := i) (n := g.moves.length) (by omega) hg.moves
    have h4 : 0 ≤ (i : Int) ∧ (i : Int) < (g.moves.length : Int) := ⟨by omega, h1⟩
    rw [paths_drop (by omega), sumLens]
    refine F14.L0_step ?_
    have s1 : ∀ (K : KT), execL (F14.C 0) 0 F14.c33 K (F14.ee2 (.mp 0 0 0) (.int .i64 a) (.int .i64 i)) [.arr [g.cells] none false] = K .normal (F14.ee3 (.mp 0 0 0) (.int .i64 a) (.int .i64 i) (.bool true)) [.arr [g.cells] none false] := fun K => by
      simp only [go_sem, ↓reduceIte, Nat.reduceEqDiff, Nat.reduceBEq, Nat.reduceAdd, Nat.reduceMul, Nat.reduceSub, Nat.reduceLT, Nat.reduceLeDiff, reduceCtorEq, Int.reduceToNat, Int.reduceLE, Int.reduceLT, Int.reduceEq, withV_any, h1]
    have s2 : ∀ (K : KT), execL (F14.C 0) 1 F14.c30 K (F14.ee3 (.mp 0 0 0) (.int .i64 a) (.int .i64 i) (.bool true)) [.arr [g.cells] none false] = K .normal (F14.ee2 (.mp 0 0 0) (.int .i64 (IntKind.i64.wrap (a + (g.moves.getD i []).length))) (.int .i64 i)) [.arr [g.cells] none false] := fun K => by
      simp only [go_sem, ↓reduceIte, Nat.reduceEqDiff, Nat.reduceBEq, Nat.reduceAdd, Nat.reduceMul, Nat.reduceSub, Nat.reduceLT, Nat.reduceLeDiff, reduceCtorEq, Int.reduceToNat, Int.reduceLE, Int.reduceLT, Int.reduceEq, withV_any, h4, Int.toNat_natCast]
    have s3 : ∀ (K : KT) (a : Int), execL (F14.C 0) 0 F14.c26 K (F14.ee2 (.mp 0 0 0) (.int .i64 a) (.int .i64 i)) [.arr [g.cells] none false] = K .normal (F14.ee2 (.mp 0 0 0) (.int .i64 a) (.int .i64 (i + 1 : Nat))) [.arr [g.cells] none false] := fun K a => by
      simp only [go_sem, ↓reduceIte, Nat.reduceEqDiff, Nat.reduceBEq, Nat.reduceAdd, Nat.reduceMul, Nat.reduceSub, Nat.reduceLT, Nat.reduceLeDiff, reduceCtorEq, Int.reduceToNat, Int.reduceLE, Int.reduceLT, Int.reduceEq, withV_any, h2]
    simp only [F14.B0_eq, s1, F14.k35_n, condC_true, F14.k29_n, s2, F14.k31_n, F14.k27_n, s3, F14.k22_n, gc_one]
    exact hm (i + 1) (by omega) _
theorem call14 (g : Game) (hg : g.ok) : ∃ b, callL Try.prog hints 14 [.agg g.cells] = some (.bool b) := by
  have key := loop14 g hg g.moves.length 0 (by omega) 0
  simp only [Int.natCast_zero] at key
  by_cases b1 : (60 : Int) < (g.owner.length : Int)
  · by_cases b2 : (g.owner.length : Int) ≤ 400
    · refine ⟨false, F14.call (r := (.bool false, [.arr [g.cells] none false])) ?_ rfl⟩
      simp only [go_sem, ↓reduceIte, Nat.reduceEqDiff, Nat.reduceBEq, Nat.reduceAdd, Nat.reduceMul, Nat.reduceSub, Nat.reduceLT, Nat.reduceLeDiff, reduceCtorEq, Int.reduceToNat, Int.reduceLE, Int.reduceLT, Int.reduceEq, withV_any, b1, b2]
    · by_cases b3 : (2000 : Int) < (g.owner.length : Int)
      · refine ⟨false, F14.call (r := (.bool false, [.arr [g.cells] none false])) ?_ rfl⟩
        simp only [go_sem, ↓reduceIte, Nat.reduceEqDiff, Nat.reduceBEq, Nat.reduceAdd, Nat.reduceMul, Nat.reduceSub, Nat.reduceLT, Nat.reduceLeDiff, reduceCtorEq, Int.reduceToNat, Int.reduceLE, Int.reduceLT, Int.reduceEq, withV_any, b1, b2, b3]
      · by_cases b4 : (2000 : Int) < (g.moves.length : Int)
        · refine ⟨false, F14.call (r := (.bool false, [.arr [g.cells] none false])) ?_ rfl⟩
          simp only [go_sem, ↓reduceIte, Nat.reduceEqDiff, Nat.reduceBEq, Nat.reduceAdd, Nat.reduceMul, Nat.reduceSub, Nat.reduceLT, Nat.reduceLeDiff, reduceCtorEq, Int.reduceToNat, Int.reduceLE, Int.reduceLT, Int.reduceEq, withV_any, b1, b2, b3, b4]
        · refine ⟨_, F14.call (r := (.bool (decide (sumLens 0 (g.moves.drop 0) ≤ 600)), [.arr [g.cells] none false])) ?_ rfl⟩
          simp only [go_sem, ↓reduceIte, Nat.reduceEqDiff, Nat.reduceBEq, Nat.reduceAdd, Nat.reduceMul, Nat.reduceSub, Nat.reduceLT, Nat.reduceLeDiff, reduceCtorEq, Int.reduceToNat, Int.reduceLE, Int.reduceLT, Int.reduceEq, withV_any, b1, b2, b3, b4, key]
  · by_cases b3 : (2000 : Int) < (g.owner.length : Int)
    · exfalso; omega
    · by_cases b4 : (2000 : Int) < (g.moves.length : Int)
      · refine ⟨false, F14.call (r := (.bool false, [.arr [g.cells] none false])) ?_ rfl⟩
        simp only [go_sem, ↓reduceIte, Nat.reduceEqDiff, Nat.reduceBEq, Nat.reduceAdd, Nat.reduceMul, Nat.reduceSub, Nat.reduceLT, Nat.reduceLeDiff, reduceCtorEq, Int.reduceToNat, Int.reduceLE, Int.reduceLT, Int.reduceEq, withV_any, b1, b3, b4]
      · refine ⟨_, F14.call (r := (.bool (decide (sumLens 0 (g.moves.drop 0) ≤ 600)), [.arr [g.cells] none false])) ?_ rfl⟩
        simp only [go_sem, ↓reduceIte, Nat.reduceEqDiff, Nat.reduceBEq, Nat.reduceAdd, Nat.reduceMul, Nat.reduceSub, Nat.reduceLT, Nat.reduceLeDiff, reduceCtorEq, Int.reduceToNat, Int.reduceLE, Int.reduceLT, Int.reduceEq, withV_any, b1, b3, b4, key]
end Go.Vs
end

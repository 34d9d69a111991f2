/- Stores that are known in part: what stays, lists of paths in them. -/

import Derived.Test.YtnddhkcciphhkaaMB11
section
set_option linter.unusedVariables false
set_option linter.unusedSimpArgs false
namespace Go.Vs
open Go Go.Proofs
/-- A value that reads as a list of ints. -/
inductive Ints (S : Store) : PV → List Int → Prop
  | sl (l : List Int) (ex : Bool) : Ints S (.sl (intRows l) ex) l
  | msl (id : Nat) (l : List Int) (ex : Bool) (g : Option (Option Nat)) (f : Bool) (h : S[id]? = some (.arr (intRows l) g f)) : Ints S (.msl id 0 l.length ex) l
/-- What lies below n stays, but for the places X, and for what refers to D. -/
structure Keep (n : Nat) (X D : List Nat) (S S' : Store) : Prop where
  len : n ≤ S'.length
  keeps : ∀ j, j < n → j ∉ X → ∀ rows g f, S[j]? = some (.arr rows g f) → (∀ r ∈ rowsRefs rows, r < n ∧ r ∉ D) → S'[j]? = some (.arr rows g f)
theorem Keep.refl {n : Nat} {X D : List Nat} {S : Store} (h : n ≤ S.length) : Keep n X D S S := ⟨h, fun _ _ _ _ _ _ h _ => h⟩
/-- Below n nothing changes. -/
theorem Keep.same {n : Nat} {X D : List Nat} {S S' : Store} (h : n ≤ S'.length) (hs : ∀ j, j < n → S'[j]? = S[j]?) : Keep n X D S S' := ⟨h, fun j hj _ _ _ _ ha _ => by rw [hs j hj]; exact ha⟩
theorem Keep.trans {n m : Nat} {X D X' D' : List Nat} {S S1 S2 : Store} (h : Keep n X D S S1) (k : Keep m X' D' S1 S2) (hn : n ≤ m) (hX : ∀ r ∈ X', r ∈ X ∨ n ≤ r) (hD : ∀ r ∈ D', r ∈ D ∨ n ≤ r) : Keep n X D S S2 := by
  refine ⟨Nat.le_trans hn k.len, fun j hj hx rows g f ha hr => ?_⟩
  refine k.keeps j (by omega) (fun hx' => ?_) rows g f (h.keeps j hj hx rows g f ha hr) fun r hrr => ⟨by have := (hr r hrr).1; omega, fun hd => ?_⟩
  · rcases hX j hx' with h1 | h1
    · exact hx h1
    · omega
  · rcases hD r hd with h1 | h1
    · exact (hr r hrr).2 h1
    · have := (hr r hrr).1; omega
theorem Ints.refs_lt {S : Store} {p : PV} {l : List Int} (h : Ints S p l) : ∀ r ∈ p.refs, r < S.length := by
  cases h with
  | sl l ex => intro r hr; cases hr
  | msl id l ex g f h =>
    intro r hr
    have := (List.getElem?_eq_some_iff.1 h).1
    simp only [PV.refs, List.mem_singleton] at hr
    omega
theorem Ints.keep {n : Nat} {X D : List Nat} {S S' : Store} {p : PV} {l : List Int} (h : Ints S p l) (k : Keep n X D S S') (hn : ∀ r ∈ p.refs, r < n ∧ r ∉ X) : Ints S' p l := by
  cases h with
  | sl l ex => exact .sl l ex
  | msl id l ex g f h =>
    have := hn id (by simp [PV.refs])
    exact .msl id l ex g f (k.keeps id this.1 this.2 _ _ _ h (by rw [intRows_refs]; intro r hr; cases hr))
theorem Ints.same {S S' : Store} {p : PV} {l : List Int} (h : Ints S p l) (hs : ∀ r ∈ p.refs, S'[r]? = S[r]?) : Ints S' p l := by
  cases h with
  | sl l ex => exact .sl l ex
  | msl id l ex g f h => exact .msl id l ex g f (by rw [hs id (by simp [PV.refs])]; exact h)
theorem Ints.len {S : Store} {p : PV} {l : List Int} (h : Ints S p l) : lenO (tyi Try.prog 22) p = some (.int .i64 l.length) := by
  cases h with
  | sl l ex => rw [len22, intRows_length]
  | msl id l ex g f h => rw [len22m]
theorem Ints.rowsIn {S : Store} {p : PV} {l : List Int} (h : Ints S p l) : Vs.rowsIn S p = some (intRows l) := by
  cases h with
  | sl l ex => rfl
  | msl id l ex g f h =>
    have e : rowsAt S id = some (intRows l) := by simp only [rowsAt, h]
    rw [rowsIn_msl, e]
    simp only [Option.bind_some, Nat.zero_add, intRows_length, Nat.le_refl, if_true, List.drop_zero]
    rw [← intRows_length l, List.take_length]
theorem Ints.cell {S : Store} {p : PV} {l : List Int} (h : Ints S p l) : p.cell = true := by cases h <;> rfl
theorem Ints.cells {S : Store} {p : PV} {l : List Int} (h : Ints S p l) : p.cells = [p] := by cases h <;> rfl
theorem Ints.fz {S : Store} {p : PV} {l : List Int} (h : Ints S p l) (d : Nat) : fzCell S (d + 2) p = some (.sl (intRows l) false) := by
  cases h with
  | sl l ex => rfl
  | msl id l ex g f h =>
    have e1 : Vs.rowsIn S (.msl id 0 l.length false) = some (intRows l) := (Ints.msl id l false g f h).rowsIn
    have e2 : mapO (mapO (fzCell S (d + 1))) (intRows l) = some (intRows l) := by
      have := mapO_all (f := mapO (fzCell S (d + 1))) (g := fun x => x) (l := intRows l) (fun a ha => by
        obtain ⟨w, _, rfl⟩ := List.mem_map.1 ha
        rfl)
      simpa using this
    show ((Vs.rowsIn S (.msl id 0 l.length false)).bind fun rows => (mapO (mapO (fzCell S (d + 1))) rows).map fun rows => PV.sl rows false) = _
    rw [e1]
    simp only [Option.bind_some, e2, Option.map_some]
/-- Rows of a list of paths; none of them is array id. -/
inductive PathRows (S : Store) (id : Nat) : List (List PV) → List (List Int) → Prop
  | nil : PathRows S id [] []
  | cons {p : PV} {l : List Int} {rows : List (List PV)} {L : List (List Int)} (h : Ints S p l) (hi : id ∉ p.refs) (t : PathRows S id rows L) : PathRows S id ([p] :: rows) (l :: L)
theorem PathRows.length {S : Store} {id : Nat} {rows : List (List PV)} {L : List (List Int)} (h : PathRows S id rows L) : rows.length = L.length := by
  induction h with
  | nil => rfl
  | cons _ _ _ ih => simp [ih]
theorem PathRows.ok {S : Store} {id : Nat} {rows : List (List PV)} {L : List (List Int)} (h : PathRows S id rows L) : rowsOK 1 rows = true := by
  induction h with
  | nil => rfl
  | cons _ _ _ ih => rw [rowsOK_cons, ih]; rfl
theorem PathRows.snoc {S : Store} {id : Nat} {rows : List (List PV)} {L : List (List Int)} (h : PathRows S id rows L) {p : PV} {l : List Int} (hp : Ints S p l) (hi : id ∉ p.refs) : PathRows S id (rows ++ [[p]]) (L ++ [l]) := by
  induction h with
  | nil => exact .cons hp hi .nil
  | cons h1 h2 _ ih => exact .cons h1 h2 ih
theorem PathRows.out {S : Store} {id : Nat} {rows : List (List PV)} {L : List (List Int)} (h : PathRows S id rows L) : id ∉ rowsRefs rows := by
  induction h with
  | nil => simp [rowsRefs]
  | cons h1 h2 _ ih => simp only [rowsRefs_cons, refsL, List.append_nil, List.mem_append, not_or]; exact ⟨h2, ih⟩
/-- The same in another store, perhaps another array, for what the rows refer to. -/
theorem PathRows.move {S S' : Store} {id id' : Nat} {rows : List (List PV)} {L : List (List Int)} (h : PathRows S id rows L) (hs : ∀ r ∈ rowsRefs rows, S'[r]? = S[r]? ∧ r ≠ id') : PathRows S' id' rows L := by
  induction h with
  | nil => exact .nil
  | @cons p l rows L h1 h2 _ ih =>
    simp only [rowsRefs_cons, refsL, List.append_nil, List.mem_append] at hs
    exact .cons (h1.same fun r hr => (hs r (.inl hr)).1) (fun hx => (hs _ (.inl hx)).2 rfl) (ih fun r hr => hs r (.inr hr))
theorem PathRows.lt {S : Store} {id : Nat} {rows : List (List PV)} {L : List (List Int)} (h : PathRows S id rows L) : ∀ r ∈ rowsRefs rows, r < S.length := by
  induction h with
  | nil => intro r hr; cases hr
  | cons h1 _ _ ih =>
    intro r hr
    simp only [rowsRefs_cons, refsL, List.append_nil, List.mem_append] at hr
    rcases hr with hr | hr
    · exact h1.refs_lt r hr
    · exact ih r hr
/-- A list of paths that may be appended to. -/
inductive OutV (S : Store) : PV → List (List Int) → Prop
  | nil : OutV S (.sl [] true) []
  | arr (id : Nat) (rows : List (List PV)) (L : List (List Int)) (h : S[id]? = some (.arr rows (some (some 1)) false)) (hr : PathRows S id rows L) : OutV S (.msl id 0 L.length false) L
theorem OutV.lt {S : Store} {v : PV} {L : List (List Int)} (h : OutV S v L) : ∀ r ∈ v.refs, r < S.length := by
  cases h with
  | nil => intro r hr; cases hr
  | arr id rows L h hr =>
    intro r hr
    have := (List.getElem?_eq_some_iff.1 h).1
    simp only [PV.refs, List.mem_singleton] at hr
    omega
/-- In a longer store. -/
theorem OutV.ext {S : Store} {v : PV} {L : List (List Int)} (h : OutV S v L) (U : Store) : OutV (S ++ U) v L := by
  cases h with
  | nil => exact .nil
  | arr id rows L h hr =>
    have hl := (List.getElem?_eq_some_iff.1 h).1
    refine .arr id rows L (by rw [List.getElem?_append_left hl]; exact h) (hr.move fun r hrr => ⟨by rw [List.getElem?_append_left (hr.lt r hrr)], fun e => hr.out (e ▸ hrr)⟩)
theorem gc_at {n : Nat} {e : Env} {S : Store} (hn : n ≤ S.length) : n ≤ (gc n e S).length ∧ ∀ j, j < n → (gc n e S)[j]? = S[j]? := by
  unfold gc
  split
  · exact ⟨by rw [List.length_take]; omega, fun j hj => by rw [List.getElem?_take_of_lt hj]⟩
  · exact ⟨hn, fun _ _ => rfl⟩
theorem OutV.gc {n : Nat} {e : Env} {S : Store} {v : PV} {L : List (List Int)} (h : OutV S v L) (he : ∃ t, (t, v) ∈ e) : OutV (Vs.gc n e S) v L := by
  unfold Vs.gc
  split
  case isFalse => exact h
  rename_i hc
  obtain ⟨h1, h2⟩ := hc
  rw [List.all_eq_true] at h1 h2
  obtain ⟨t, ht⟩ := he
  have hv := h1 _ ht
  simp only [List.all_eq_true, decide_eq_true_eq] at hv
  cases h with
  | nil => exact .nil
  | arr id rows L h hr =>
    have hid : id < n := hv id (by simp [PV.refs])
    have hrows := h2 (.arr rows (some (some 1)) false) (by
      have e : (S.take n)[id]? = some (.arr rows (some (some 1)) false) := by rw [List.getElem?_take_of_lt hid]; exact h
      exact List.mem_of_getElem? e)
    simp only [List.all_eq_true, decide_eq_true_eq] at hrows
    exact .arr id rows L (by rw [List.getElem?_take_of_lt hid]; exact h) (hr.move fun r hrr => ⟨by rw [List.getElem?_take_of_lt (hrows r hrr)], fun e => hr.out (e ▸ hrr)⟩)
theorem kill1_id {ids : List Nat} {v : PV} (h : ∀ r ∈ v.refs, r ∉ ids) : kill1 ids v = v := by
  unfold kill1
  rw [if_neg]
  simp only [List.any_eq_true, not_exists, not_and, List.contains_iff_mem]
  exact h
theorem killRows_id {ids : List Nat} {rows : List (List PV)} (h : ∀ r ∈ rowsRefs rows, r ∉ ids) : killRows ids rows = rows := by
  unfold killRows
  rw [if_neg]
  simp only [List.any_eq_true, not_exists, not_and, List.contains_iff_mem]
  exact h
theorem map_kill_at {ids : List Nat} {S : Store} {j : Nat} {rows : List (List PV)} {g : Option (Option Nat)} {f : Bool} (h : S[j]? = some (.arr rows g f)) (hr : ∀ r ∈ rowsRefs rows, r ∉ ids) : (S.map (killObj ids))[j]? = some (.arr rows g f) := by
  rw [List.getElem?_map, h]
  simp only [Option.map_some, killObj_arr, killRows_id hr]
theorem PathRows.keep {n : Nat} {X D : List Nat} {S S' : Store} {id id' : Nat} {rows : List (List PV)} {L : List (List Int)} (h : PathRows S id rows L) (k : Keep n X D S S') (hs : ∀ r ∈ rowsRefs rows, r < n ∧ r ∉ X ∧ r ≠ id') : PathRows S' id' rows L := by
  induction h with
  | nil => exact .nil
  | @cons p l rows L h1 h2 _ ih =>
    simp only [rowsRefs_cons, refsL, List.append_nil, List.mem_append] at hs
    exact .cons (h1.keep k fun r hr => ⟨(hs r (.inl hr)).1, (hs r (.inl hr)).2.1⟩) (fun hx => (hs _ (.inl hx)).2.2 rfl) (ih fun r hr => hs r (.inr hr))
theorem bytes22 : (tyi Try.prog 22).bytes = 24 := by kernel_rfl
theorem zeroOK22 : zeroOK (tyi Try.prog 22) = true := by kernel_rfl
theorem killObj_none (o : Obj) : killObj [] o = o := by
  cases o with
  | gone => rfl
  | arr rows g f => rw [killObj_arr, killRows_id (by intro r _ h; cases h)]
end Go.Vs
end
/- Rules for slices of ints that are made, lists of lists, places of one value. -/
section
set_option linter.unusedVariables false
set_option linter.unusedSimpArgs false
namespace Go.Vs
open Go Go.Proofs
theorem makeSlice22 (id n : Nat) (h : n ≤ 2000000) : makeSliceO Try.prog 22 id (.int .i64 n) (.int .i64 n) = some { v := .msl id 0 n true, new := some (List.replicate n [.int .i64 0], some (some 1)) } := by
  have e2 : (tyi Try.prog 3).bytes = 8 := by kernel_rfl
  have e3 : (tyi Try.prog 3).zero = some [.int .i64 0] := by kernel_rfl
  simp only [makeSliceO, d22, e3, Option.bind_some, e2, size3]
  rw [if_pos ⟨by omega, by omega, by omega, by omega, rfl, rfl⟩]
  simp
theorem rowsAt_of {S : Store} {id : Nat} {rows : List (List PV)} {g : Option (Option Nat)} {f : Bool} (h : S[id]? = some (.arr rows g f)) : rowsAt S id = some rows := by simp only [rowsAt, h]
theorem withV_any {R : Type} (x : PV) (K : PV → Option R) : withV (some x) K = K x := nr rfl
@[go_sem] theorem known23 : (tyi Try.prog 23).known = true := nr (by kernel_rfl)
@[go_sem] theorem size23 : (tyi Try.prog 23).size = 1 := nr (by kernel_rfl)
@[go_sem] theorem part23 (v : PV) (r : List PV) : part (tyi Try.prog 23) (v :: r) = some v := by
  have e : (tyi Try.prog 23).isAgg = false := by kernel_rfl
  simp [part, known23, e]
@[go_sem] theorem buildSlice23 (id n : Nat) (is : List Nat) (rows : List (List PV)) : buildSliceO Try.prog 23 id n is rows = if is = List.range n ∧ rowsOK 1 rows = true ∧ (rows.all fun r => r.all PV.cell) = true ∧ n * 1 ≤ 16777216 then some { v := .msl id 0 n true, new := some (rows, some (some 1)) } else none := by
  have e : (tyi Try.prog 22).zero.isSome = true := by kernel_rfl
  simp [buildSliceO, d23, size22, e]
def pathRows (L : List (List Int)) : List (List PV) := L.map fun l => [.sl (intRows l) false]
@[go_sem] theorem pathRows_length (L : List (List Int)) : (pathRows L).length = L.length := nr (by simp [pathRows])
@[go_sem] theorem idx23 (S : Store) (L : List (List Int)) (ex : Bool) (i : Int) : indexAddrO Try.prog 23 S (.sl (pathRows L) ex) (.int .i64 i) = if 0 ≤ i ∧ i < L.length then some (.cp [.sl (intRows (L.getD i.toNat [])) false]) else none := by
  have e1 : elemTy (tyi Try.prog 23) = 22 := by simp [elemTy, d23]
  have e2 : isSlice (tyi Try.prog 23) = true := by simp [isSlice, d23]
  simp only [indexAddrO, e1, e2, known22, size22, and_self, if_true, evIndexAddr, pathRows_length]
  split
  · rename_i h
    have hl : i.toNat < L.length := by omega
    have e3 : (pathRows L).getD i.toNat [] = [.sl (intRows (L.getD i.toNat [])) false] := by
      simp [pathRows, List.getD_eq_getElem?_getD, hl]
    rw [e3]
    rfl
  · rfl
theorem idx22m {S : Store} {id n : Nat} {ex : Bool} {rows : List (List PV)} (i : Nat) (hS : rowsAt S id = some rows) (hl : rows.length = n) (h2 : rowsOK 1 rows = true) (hi : i < n) : indexAddrO Try.prog 22 S (.msl id 0 n ex) (.int .i64 i) = some (.mp id i 0) := by
  have e1 : elemTy (tyi Try.prog 22) = 3 := by simp [elemTy, d22]
  have e2 : isSlice (tyi Try.prog 22) = true := by simp [isSlice, d22]
  simp only [indexAddrO, e1, e2, known3, size3, and_self, if_true, evIndexAddr, hS, Option.bind_some]
  rw [if_pos ⟨by omega, by omega⟩, if_pos ⟨h2, by omega⟩, Nat.zero_add, Int.toNat_natCast]
theorem store_box {ti : TI} {S : Store} {ob : Nat} {u v : PV} (hk : ti.known = true) (hs : ti.size = 1) (h : S[ob]? = some (.arr [[u]] none false)) (hv : v.cells = [v]) (hc : v.cell = true) : storeE ti S (.mp ob 0 0) v = some { v := .skip, S := S.set ob (.arr [[v]] none false) } := by
  simp only [storeE_eq, hk, if_true, hs, evStore, h, hv]
  rw [if_pos ⟨by simp, by simp, rfl, by simp [hc]⟩]
  rfl
theorem copyE22 {S : Store} {id n : Nat} {ex : Bool} {rows : List (List PV)} {g : Option (Option Nat)} {p : PV} {l : List Int} (hS : S[id]? = some (.arr rows g false)) (h1 : rows.length = n) (h2 : rowsOK 1 rows = true) (hp : Ints S p l) (h3 : l.length ≤ n) :
    copyE Try.prog 22 22 S (.msl id 0 n ex) p = some { v := .int .i64 l.length, S := S.set id (.arr (intRows l ++ rows.drop l.length) g false) } := by
  simp only [copyE, d22, known3, if_true, size3, evCopy, hS, hp.rowsIn, Option.bind_some]
  rw [if_pos ⟨by omega, h2, intRows_ok l⟩]
  have e1 : (intRows l).take n = intRows l := by rw [List.take_of_length_le (by rw [intRows_length]; omega)]
  rw [e1, intRows_length, Nat.min_eq_left h3]
  simp
end Go.Vs
end
/- The ranks of a game, round by round: plain laws. -/
section
set_option linter.unusedVariables false
set_option linter.unusedSimpArgs false
namespace Go.Vs.Rk
/-- A game's positions: who moves, where to, and goals. -/
structure G where
  n : Nat
  owner : Nat → Int
  moves : Nat → List Int
  goal : Nat → Bool
structure G.ok (g : G) : Prop where
  own : ∀ i, i < g.n → g.owner i = 0 ∨ g.owner i = 1
  mv : ∀ i, i < g.n → ∀ m ∈ g.moves i, 0 ≤ m ∧ m < g.n
  inc : ∀ i, i < g.n → (g.moves i).Pairwise (· < ·)
/-- A rank in a list: -1 means none. -/
def rk (R : List Int) (m : Int) : Int := R.getD m.toNat (-1)
def initR (g : G) : List Int := (List.range g.n).map fun i => if g.goal i = true then 0 else -1
def someB (R : List Int) (l : List Int) : Bool := l.any fun m => decide (0 ≤ rk R m)
def everyB (R : List Int) (l : List Int) : Bool := l.all fun m => decide (0 ≤ rk R m)
def hit (g : G) (R : List Int) (i : Nat) : Bool := (decide (g.owner i = 0) && someB R (g.moves i)) || (decide (g.owner i = 1) && everyB R (g.moves i))
/-- One round: those that have rank k. -/
def round (g : G) (k : Int) (R : List Int) : List Int := R.mapIdx fun i r => if 0 ≤ r then r else if hit g R i = true then k else r
/-- So many rounds from round 1 on. -/
def lvl (g : G) : Nat → List Int
  | 0 => initR g
  | r + 1 => round g (r + 1) (lvl g r)
theorem lvl_length (g : G) : ∀ r, (lvl g r).length = g.n
  | 0 => by simp [lvl, initR]
  | r + 1 => by simp [lvl, round, lvl_length g r]
theorem rk_init (g : G) (i : Nat) (h : i < g.n) : rk (initR g) i = if g.goal i = true then 0 else -1 := by
  simp [rk, initR, List.getD_eq_getElem?_getD, h]
theorem rk_round (g : G) (k : Int) (R : List Int) (i : Nat) (h : i < R.length) : rk (round g k R) i = if 0 ≤ rk R i then rk R i else if hit g R i = true then k else rk R i := by
  simp [rk, round, List.getD_eq_getElem?_getD, h]
/-- A rank is -1 or at most the round. -/
theorem rk_range (g : G) : ∀ (r i : Nat), i < g.n → rk (lvl g r) i = -1 ∨ (0 ≤ rk (lvl g r) i ∧ rk (lvl g r) i ≤ r)
  | 0, i, h => by
    rw [lvl, rk_init g i h]
    split
    · exact .inr ⟨by omega, by omega⟩
    · exact .inl rfl
  | r + 1, i, h => by
    have ih := rk_range g r i h
    rw [lvl, rk_round g _ _ _ (by rw [lvl_length]; exact h)]
    split
    · omega
    · split
      · right; omega
      · omega
/-- Ranks stay. -/
theorem rk_stay (g : G) {r i : Nat} (h : i < g.n) (hr : 0 ≤ rk (lvl g r) i) : ∀ d, rk (lvl g (r + d)) i = rk (lvl g r) i
  | 0 => rfl
  | d + 1 => by
    have ih := rk_stay g h hr d
    rw [← Nat.add_assoc, lvl, rk_round g _ _ _ (by rw [lvl_length]; exact h), ih, if_pos hr]
theorem rk_low (g : G) : ∀ (r i : Nat), i < g.n → ∀ s : Nat, 0 ≤ rk (lvl g r) i → rk (lvl g r) i ≤ s → rk (lvl g s) i = rk (lvl g r) i
  | 0, i, h, s, h1, h2 => by
    have := rk_stay g h h1 s
    rwa [Nat.zero_add] at this
  | r + 1, i, h, s, h1, h2 => by
    by_cases hr : 0 ≤ rk (lvl g r) i
    · have e := rk_stay g h hr 1
      rw [e] at h1 h2 ⊢
      exact rk_low g r i h s h1 h2
    · have e : rk (lvl g (r + 1)) i = (r : Int) + 1 := by
        have e2 := rk_round g ((r : Int) + 1) (lvl g r) i (by rw [lvl_length]; exact h)
        rw [if_neg hr] at e2
        rw [lvl] at h1 ⊢
        rw [e2] at h1 ⊢
        split
        · rfl
        · rename_i hh; rw [if_neg hh] at h1; exact absurd h1 hr
      rw [e] at h2
      obtain ⟨d, rfl⟩ : ∃ d, s = r + 1 + d := ⟨s - (r + 1), by omega⟩
      exact rk_stay g h h1 d
/-- Of an unranked position: all ranked moves of player 0 have rank r; of player 1 not all moves are of lower rank, if there are moves or r is not 0. -/
theorem unranked0 (g : G) (hg : g.ok) {r i : Nat} (h : i < g.n) (hu : rk (lvl g r) i < 0) (ho : g.owner i = 0) : ∀ m ∈ g.moves i, 0 ≤ rk (lvl g r) m → rk (lvl g r) m = r := by
  intro m hm h0
  have hmn := hg.mv i h m hm
  obtain ⟨j, rfl⟩ : ∃ j : Nat, m = j := ⟨m.toNat, by omega⟩
  have hj : j < g.n := by omega
  have hr := rk_range g r j hj
  by_cases hlt : rk (lvl g r) j = r
  · exact hlt
  exfalso
  obtain ⟨s, hs⟩ : ∃ s : Nat, rk (lvl g r) j = s := ⟨(rk (lvl g r) j).toNat, by omega⟩
  have hsr : s < r := by omega
  have e := rk_low g r j hj s h0 (by omega)
  -- at round s + 1 the position is hit
  have hhit : hit g (lvl g s) i = true := by
    simp only [hit, ho, decide_true, Bool.true_and, Bool.or_eq_true]
    left
    simp only [someB, List.any_eq_true, decide_eq_true_eq]
    exact ⟨j, hm, by rw [e]; exact h0⟩
  have e2 := rk_round g ((s : Int) + 1) (lvl g s) i (by rw [lvl_length]; exact h)
  have h1 : 0 ≤ rk (lvl g (s + 1)) i := by
    rw [lvl, e2]
    split
    · assumption
    · first | omega | (rw [if_pos hhit]; omega)
  obtain ⟨d, rfl⟩ : ∃ d, r = s + 1 + d := ⟨r - (s + 1), by omega⟩
  rw [rk_stay g h h1 d] at hu
  omega
theorem unranked1 (g : G) (hg : g.ok) {r i : Nat} (h : i < g.n) (hu : rk (lvl g r) i < 0) (ho : g.owner i = 1) (hr : r ≠ 0) : ∃ m ∈ g.moves i, rk (lvl g r) m < 0 ∨ rk (lvl g r) m = r := by
  obtain ⟨s, rfl⟩ : ∃ s, r = s + 1 := ⟨r - 1, by omega⟩
  have e2 := rk_round g ((s : Int) + 1) (lvl g s) i (by rw [lvl_length]; exact h)
  rw [lvl, e2] at hu
  by_cases hh : hit g (lvl g s) i = true
  · exfalso
    split at hu
    · omega
    · first | omega | (rw [if_pos hh] at hu; omega)
  · have hn : everyB (lvl g s) (g.moves i) = false := by
      simp only [hit, ho, decide_true, Bool.true_and, Bool.or_eq_true, not_or, Bool.not_eq_true] at hh
      exact hh.2
    simp only [everyB, List.all_eq_false, decide_eq_true_eq] at hn
    obtain ⟨m, hm, hlt⟩ := hn
    refine ⟨m, hm, ?_⟩
    have hmn := hg.mv i h m hm
    obtain ⟨j, rfl⟩ : ∃ j : Nat, m = j := ⟨m.toNat, by omega⟩
    have e3 := rk_round g ((s : Int) + 1) (lvl g s) j (by rw [lvl_length]; omega)
    rw [lvl, e3, if_neg hlt]
    split
    · right; omega
    · left; omega
/-- Where no position has rank r, a round more gives nothing. -/
theorem stable_step (g : G) (hg : g.ok) {r : Nat} (hr : r ≠ 0) (hno : ∀ i, i < g.n → rk (lvl g r) i ≠ r) : lvl g (r + 1) = lvl g r := by
  apply List.ext_getElem (by rw [lvl_length, lvl_length])
  intro i h1 h2
  rw [lvl_length] at h1
  have e : rk (lvl g (r + 1)) i = rk (lvl g r) i := by
    rw [lvl, rk_round g _ _ _ (by rw [lvl_length]; exact h1)]
    split
    · rfl
    · rename_i hu
      split
      · rename_i hh
        exfalso
        simp only [hit, Bool.or_eq_true, Bool.and_eq_true, decide_eq_true_eq] at hh
        rcases hh with ⟨ho, hs⟩ | ⟨ho, hs⟩
        · simp only [someB, List.any_eq_true, decide_eq_true_eq] at hs
          obtain ⟨m, hm, h0⟩ := hs
          have := unranked0 g hg h1 (by omega) ho m hm h0
          have hmn := hg.mv i h1 m hm
          exact hno m.toNat (by omega) (by rw [show ((m.toNat : Nat) : Int) = m by omega]; exact this)
        · obtain ⟨m, hm, h0⟩ := unranked1 g hg h1 (by omega) ho hr
          simp only [everyB, List.all_eq_true, decide_eq_true_eq] at hs
          have hmn := hg.mv i h1 m hm
          rcases h0 with h0 | h0
          · have := hs m hm; omega
          · exact hno m.toNat (by omega) (by rw [show ((m.toNat : Nat) : Int) = m by omega]; exact h0)
      · rfl
  simpa [rk, List.getD_eq_getElem?_getD, lvl_length, h1] using e
theorem stable (g : G) (hg : g.ok) {r : Nat} (hr : r ≠ 0) (hno : ∀ i, i < g.n → rk (lvl g r) i ≠ r) : ∀ d, lvl g (r + d) = lvl g r
  | 0 => rfl
  | d + 1 => by
    have ih := stable g hg hr hno d
    rw [← Nat.add_assoc]
    have := stable_step g hg (r := r + d) (by omega) (fun i hi h => by
      rw [ih] at h
      have := rk_range g r i hi
      rcases this with h2 | h2
      · omega
      · have hd : d = 0 := by omega
        subst hd
        exact hno i hi h)
    rw [this, ih]
end Go.Vs.Rk
end
/- The ranks of a game, found from the goals backwards, are those found round by round: plain laws. -/
section
set_option linter.unusedVariables false
set_option linter.unusedSimpArgs false
namespace Go.Vs.Rk
/-- The positions with a move to q. -/
def predL (g : G) (q : Int) : List Int := ((List.range g.n).filter fun i => decide (q ∈ g.moves i)).map fun i : Nat => (i : Int)
/-- A position of the game. -/
def Pos (g : G) (x : Int) : Prop := ∃ j : Nat, j < g.n ∧ x = j
/-- A position whose count of open moves decreases. -/
def ev (g : G) (R : List Int) (s : List Int × List Int) (i : Int) : List Int × List Int :=
  if 0 ≤ rk R i then s else (s.1.set i.toNat (s.1.getD i.toNat 0 - 1), if g.owner i.toNat = 0 ∨ s.1.getD i.toNat 0 - 1 = 0 then s.2 ++ [i] else s.2)
theorem ev_len (g : G) (R : List Int) (s : List Int × List Int) (i : Int) : (ev g R s i).1.length = s.1.length := by unfold ev; split <;> simp
theorem evs_len (g : G) (R : List Int) : ∀ (E : List Int) (s : List Int × List Int), (E.foldl (ev g R) s).1.length = s.1.length
  | [], s => rfl
  | e :: E, s => by rw [List.foldl_cons, evs_len g R E, ev_len]
theorem getD_set {l : List Int} {i j : Nat} {v : Int} (h : j < l.length) : (l.set i v).getD j 0 = if i = j then v else l.getD j 0 := by
  simp only [List.getD_eq_getElem?_getD, List.getElem?_set]
  split
  · rename_i e; subst e; simp [h]
  · rfl
theorem evs_open (g : G) (R : List Int) : ∀ (E : List Int), (∀ x ∈ E, Pos g x) → ∀ (s : List Int × List Int), s.1.length = g.n → ∀ j : Nat, j < g.n →
    (E.foldl (ev g R) s).1.getD j 0 = s.1.getD j 0 - (if 0 ≤ rk R j then 0 else (E.count (j : Int) : Int))
  | [], _, s, hs, j, hj => by simp
  | e :: E, hE, s, hs, j, hj => by
    obtain ⟨i, hi, rfl⟩ := hE e (by simp)
    rw [List.foldl_cons, evs_open g R E (fun x hx => hE x (by simp [hx])) _ (by rw [ev_len]; exact hs) j hj]
    have e1 : (ev g R s (i : Int)).1.getD j 0 = if 0 ≤ rk R i then s.1.getD j 0 else if i = j then s.1.getD j 0 - 1 else s.1.getD j 0 := by
      unfold ev
      split
      · rfl
      · simp only [Int.toNat_natCast]
        rw [getD_set (by omega)]
        split
        · rename_i e; rw [e]
        · rfl
    rw [e1]
    by_cases hij : i = j
    · subst hij
      rw [List.count_cons_self]
      split <;> simp_all <;> omega
    · have : ¬ ((i : Int) = (j : Int)) := by omega
      rw [List.count_cons_of_ne this]
      split <;> simp_all
theorem evs_next (g : G) (R : List Int) : ∀ (E : List Int), (∀ x ∈ E, Pos g x) → ∀ (s : List Int × List Int), s.1.length = g.n → (∀ j : Nat, j < g.n → rk R j < 0 → (E.count (j : Int) : Int) ≤ s.1.getD j 0) → ∀ j : Nat, j < g.n →
    ((j : Int) ∈ (E.foldl (ev g R) s).2 ↔ (j : Int) ∈ s.2 ∨ (rk R j < 0 ∧ (j : Int) ∈ E ∧ (g.owner j = 0 ∨ s.1.getD j 0 = (E.count (j : Int) : Int))))
  | [], _, s, hs, hO, j, hj => by simp
  | e :: E, hE, s, hs, hO, j, hj => by
    obtain ⟨i, hi, rfl⟩ := hE e (by simp)
    have hE' := fun x (hx : x ∈ E) => hE x (by simp [hx])
    rw [List.foldl_cons]
    by_cases hri : 0 ≤ rk R i
    · have e1 : ev g R s (i : Int) = s := by unfold ev; rw [if_pos hri]
      have hO' : ∀ j : Nat, j < g.n → rk R j < 0 → (E.count (j : Int) : Int) ≤ s.1.getD j 0 := fun j hj hr => by
        have := hO j hj hr
        by_cases hij : i = j
        · subst hij; omega
        · rwa [List.count_cons_of_ne (by omega)] at this
      rw [e1, evs_next g R E hE' s hs hO' j hj]
      by_cases hij : i = j
      · subst hij
        constructor
        · rintro (h | ⟨h, _⟩)
          · exact .inl h
          · omega
        · rintro (h | ⟨h, _⟩)
          · exact .inl h
          · omega
      · have hne : ¬ (i : Int) = (j : Int) := by omega
        rw [List.count_cons_of_ne hne, List.mem_cons]
        have : ¬ (j : Int) = (i : Int) := by omega
        simp only [this, false_or]
    · have e1 : ev g R s (i : Int) = (s.1.set i (s.1.getD i 0 - 1), if g.owner i = 0 ∨ s.1.getD i 0 - 1 = 0 then s.2 ++ [(i : Int)] else s.2) := by
        unfold ev; rw [if_neg hri]; simp only [Int.toNat_natCast]
      have hO' : ∀ j : Nat, j < g.n → rk R j < 0 → (E.count (j : Int) : Int) ≤ (ev g R s (i : Int)).1.getD j 0 := fun j hj hr => by
        have := hO j hj hr
        rw [e1]
        simp only
        rw [getD_set (by omega)]
        by_cases hij : i = j
        · subst hij
          rw [List.count_cons_self] at this
          rw [if_pos rfl]; omega
        · rw [List.count_cons_of_ne (by omega)] at this
          rwa [if_neg hij]
      rw [evs_next g R E hE' _ (by rw [ev_len]; exact hs) hO' j hj, e1]
      simp only
      rw [getD_set (by omega)]
      by_cases hij : i = j
      · subst hij
        have hc := hO i hi (by omega)
        rw [List.count_cons_self] at hc ⊢
        rw [if_pos rfl]
        by_cases hpush : g.owner i = 0 ∨ s.1.getD i 0 - 1 = 0
        · rw [if_pos hpush]
          simp only [List.mem_append, List.mem_singleton, or_true, true_or, List.mem_cons, true_and, true_iff]
          right
          refine ⟨by omega, ?_⟩
          rcases hpush with h | h
          · exact .inl h
          · right; omega
        · rw [if_neg hpush]
          simp only [List.mem_cons, true_or, true_and]
          constructor
          · rintro (h | ⟨h1, h2, h3⟩)
            · exact .inl h
            · refine .inr ⟨h1, ?_⟩
              rcases h3 with h3 | h3
              · exact .inl h3
              · right; omega
          · rintro (h | ⟨h1, h3⟩)
            · exact .inl h
            · rcases h3 with h3 | h3
              · exact absurd (.inl h3) hpush
              · have hmem : (i : Int) ∈ E := by
                  rw [← List.count_pos_iff]
                  by_cases h0 : 0 < E.count (i : Int)
                  · exact h0
                  · exfalso; exact hpush (.inr (by omega))
                exact .inr ⟨h1, hmem, .inr (by omega)⟩
      · have hne : ¬ (i : Int) = (j : Int) := by omega
        have hne2 : ¬ (j : Int) = (i : Int) := by omega
        rw [if_neg hij, List.count_cons_of_ne hne, List.mem_cons]
        simp only [hne2, false_or]
        split
        · simp only [List.mem_append, List.mem_singleton, hne2, or_false]
        · exact Iff.rfl
/-- A position gets rank k. -/
def lev (k : Int) (s : List Int × List Int) (i : Int) : List Int × List Int := if rk s.1 i < 0 then (s.1.set i.toNat k, s.2 ++ [i]) else s
theorem rk_set {R : List Int} {i j : Nat} {k : Int} (h : j < R.length) : rk (R.set i k) j = if i = j then k else rk R j := by
  simp only [rk, Int.toNat_natCast, List.getD_eq_getElem?_getD, List.getElem?_set]
  split
  · rename_i e; subst e; simp [h]
  · rfl
theorem levs (n : Nat) (k : Int) (hk : 0 ≤ k) : ∀ (l : List Int), (∀ x ∈ l, ∃ j : Nat, j < n ∧ x = j) → ∀ (R Q : List Int), R.length = n →
    ∃ Qn, (l.foldl (lev k) (R, Q)).2 = Q ++ Qn ∧ Qn.Nodup ∧ (l.foldl (lev k) (R, Q)).1.length = n ∧ (∀ x, x ∈ Qn ↔ x ∈ l ∧ rk R x < 0) ∧ (∀ j : Nat, j < n → rk (l.foldl (lev k) (R, Q)).1 j = if rk R j < 0 ∧ (j : Int) ∈ l then k else rk R j)
  | [], _, R, Q, hR => ⟨[], by simp, List.nodup_nil, hR, by simp, by simp⟩
  | e :: l, hl, R, Q, hR => by
    obtain ⟨i, hi, rfl⟩ := hl e (by simp)
    have hl' := fun x (hx : x ∈ l) => hl x (by simp [hx])
    rw [List.foldl_cons]
    by_cases hr : rk R i < 0
    · have e1 : lev k (R, Q) (i : Int) = (R.set i k, Q ++ [(i : Int)]) := by unfold lev; rw [if_pos hr]; simp only [Int.toNat_natCast]
      rw [e1]
      obtain ⟨Qn, a1, a2, a3, a4, a5⟩ := levs n k hk l hl' (R.set i k) (Q ++ [(i : Int)]) (by simpa using hR)
      have hrs : ∀ x ∈ l, rk (R.set i k) x = if x = (i : Int) then k else rk R x := fun x hx => by
        obtain ⟨j, hj, rfl⟩ := hl' x hx
        rw [rk_set (by omega)]
        by_cases h : i = j
        · subst h; simp
        · rw [if_neg h, if_neg (by omega)]
      refine ⟨(i : Int) :: Qn, by rw [a1]; simp, ?_, a3, fun x => ?_, fun j hj => ?_⟩
      · refine List.nodup_cons.2 ⟨fun hx => ?_, a2⟩
        have := (a4 _).1 hx
        rw [hrs _ this.1, if_pos rfl] at this
        omega
      · rw [List.mem_cons, List.mem_cons, a4]
        constructor
        · rintro (h | ⟨h1, h2⟩)
          · subst h; exact ⟨.inl rfl, hr⟩
          · rw [hrs x h1] at h2
            split at h2
            · omega
            · exact ⟨.inr h1, h2⟩
        · rintro ⟨h1, h2⟩
          rcases h1 with h1 | h1
          · exact .inl h1
          · by_cases hx : x = (i : Int)
            · exact .inl hx
            · refine .inr ⟨h1, ?_⟩
              rw [hrs x h1, if_neg hx]; exact h2
      · rw [a5 j hj, rk_set (by omega)]
        by_cases h : i = j
        · subst h
          simp only [if_true, List.mem_cons, true_or, and_true]
          rw [if_pos hr, if_neg (by omega)]
        · have hne : ¬ (j : Int) = (i : Int) := by omega
          simp only [if_neg h, List.mem_cons, hne, false_or]
    · have e1 : lev k (R, Q) (i : Int) = (R, Q) := by unfold lev; rw [if_neg hr]
      rw [e1]
      obtain ⟨Qn, a1, a2, a3, a4, a5⟩ := levs n k hk l hl' R Q hR
      refine ⟨Qn, a1, a2, a3, fun x => ?_, fun j hj => ?_⟩
      · rw [a4, List.mem_cons]
        constructor
        · rintro ⟨h1, h2⟩; exact ⟨.inr h1, h2⟩
        · rintro ⟨h1, h2⟩
          rcases h1 with h1 | h1
          · subst h1; exact absurd h2 hr
          · exact ⟨h1, h2⟩
      · rw [a5 j hj]
        by_cases h : i = j
        · subst h
          simp only [hr, false_and, if_false]
        · have hne : ¬ (j : Int) = (i : Int) := by omega
          simp only [List.mem_cons, hne, false_or]
theorem nodup_moves {g : G} (hg : g.ok) {j : Nat} (hj : j < g.n) : (g.moves j).Nodup := (hg.inc j hj).imp fun h => by omega
theorem mem_predL (g : G) (q x : Int) : x ∈ predL g q ↔ ∃ j : Nat, j < g.n ∧ x = j ∧ q ∈ g.moves j := by
  simp only [predL, List.mem_map, List.mem_filter, List.mem_range, decide_eq_true_eq]
  constructor
  · rintro ⟨j, ⟨h1, h2⟩, rfl⟩; exact ⟨j, h1, rfl, h2⟩
  · rintro ⟨j, h1, rfl, h2⟩; exact ⟨j, ⟨h1, h2⟩, rfl⟩
theorem count_predL (g : G) (q : Int) {j : Nat} (hj : j < g.n) : (predL g q).count (j : Int) = if q ∈ g.moves j then 1 else 0 := by
  have hn : (predL g q).Nodup := by
    unfold predL
    refine List.Pairwise.map _ (fun a b h => ?_) (List.Pairwise.filter _ List.nodup_range)
    intro e
    exact h (by omega)
  split
  · rename_i h
    rw [hn.count, if_pos ((mem_predL g q _).2 ⟨j, hj, rfl, h⟩)]
  · rename_i h
    rw [List.count_eq_zero]
    intro hm
    obtain ⟨i, _, e, hi⟩ := (mem_predL g q _).1 hm
    have : i = j := by omega
    subst this
    exact h hi
theorem count_flat (g : G) {j : Nat} (hj : j < g.n) : ∀ Q : List Int, (Q.flatMap (predL g)).count (j : Int) = Q.countP fun q => decide (q ∈ g.moves j)
  | [] => rfl
  | q :: Q => by
    rw [List.flatMap_cons, List.count_append, count_predL g q hj, count_flat g hj Q, List.countP_cons]
    by_cases h : q ∈ g.moves j
    · simp [h]; omega
    · simp [h]
/-- What is known at level r. -/
structure St (g : G) (r : Nat) (O Q : List Int) : Prop where
  olen : O.length = g.n
  nodup : Q.Nodup
  mem : ∀ x, x ∈ Q ↔ ∃ j : Nat, j < g.n ∧ x = j ∧ rk (lvl g r) j = r
  opn : ∀ j : Nat, j < g.n → rk (lvl g r) j < 0 → O.getD j 0 = (((g.moves j).countP fun m => !(decide (0 ≤ rk (lvl g r) m) && decide (rk (lvl g r) m < r)) : Nat) : Int)
theorem count_level {g : G} (hg : g.ok) {r : Nat} {O Q : List Int} (h : St g r O Q) {j : Nat} (hj : j < g.n) : Q.countP (fun q => decide (q ∈ g.moves j)) = (g.moves j).countP fun m => decide (rk (lvl g r) m = r) := by
  rw [List.countP_eq_length_filter, List.countP_eq_length_filter]
  refine List.Perm.length_eq ((List.perm_ext_iff_of_nodup (h.nodup.filter _) ((nodup_moves hg hj).filter _)).2 fun x => ?_)
  simp only [List.mem_filter, decide_eq_true_eq]
  constructor
  · rintro ⟨h1, h2⟩
    obtain ⟨i, _, rfl, h3⟩ := (h.mem x).1 h1
    exact ⟨h2, h3⟩
  · rintro ⟨h1, h2⟩
    have := hg.mv j hj x h1
    exact ⟨(h.mem x).2 ⟨x.toNat, by omega, by omega, by rw [show ((x.toNat : Nat) : Int) = x by omega]; exact h2⟩, h1⟩
theorem count_split {g : G} (hg : g.ok) (r : Nat) {j : Nat} (hj : j < g.n) : ∀ l : List Int, (∀ m ∈ l, 0 ≤ m ∧ m < g.n) → (l.countP fun m => !(decide (0 ≤ rk (lvl g r) m) && decide (rk (lvl g r) m < r))) = (l.countP fun m => decide (rk (lvl g r) m = r)) + l.countP fun m => decide (rk (lvl g r) m < 0)
  | [], _ => rfl
  | m :: l, hl => by
    rw [List.countP_cons, List.countP_cons, List.countP_cons, count_split hg r hj l fun x hx => hl x (by simp [hx])]
    have hm := hl m (by simp)
    have hr := rk_range g r m.toNat (by omega)
    rw [show ((m.toNat : Nat) : Int) = m by omega] at hr
    by_cases h0 : rk (lvl g r) m < 0
    · have h1 : ¬ 0 ≤ rk (lvl g r) m := by omega
      have h2 : ¬ rk (lvl g r) m = r := by omega
      simp [h0, h1, h2]; omega
    · have h1 : 0 ≤ rk (lvl g r) m := by omega
      by_cases h2 : rk (lvl g r) m = r
      · have h3 : ¬ rk (lvl g r) m < (r : Int) := by omega
        have h4 : ¬ ((r : Int) < 0) := by omega
        simp [h0, h1, h2, h3, h4]; omega
      · have h3 : rk (lvl g r) m < (r : Int) := by omega
        simp [h0, h1, h2, h3]
theorem step {g : G} (hg : g.ok) {r : Nat} {O Q one : List Int} (hone : ∀ x, x ∈ one ↔ ∃ j : Nat, j < g.n ∧ x = j ∧ g.goal j = false ∧ g.owner j = 1 ∧ g.moves j = []) (h : St g r O Q) (QA : List Int) :
    ∃ Qn, (((if r = 0 then ((Q.flatMap (predL g)).foldl (ev g (lvl g r)) (O, [])).2 ++ one else ((Q.flatMap (predL g)).foldl (ev g (lvl g r)) (O, [])).2).foldl (lev ((r : Int) + 1)) (lvl g r, QA))) = (lvl g (r + 1), QA ++ Qn) ∧ St g (r + 1) ((Q.flatMap (predL g)).foldl (ev g (lvl g r)) (O, [])).1 Qn := by
  have hE : ∀ x ∈ Q.flatMap (predL g), Pos g x := fun x hx => by
    obtain ⟨q, _, hq⟩ := List.mem_flatMap.1 hx
    obtain ⟨j, hj, e, _⟩ := (mem_predL g q x).1 hq
    exact ⟨j, hj, e⟩
  have hcount : ∀ j : Nat, j < g.n → (Q.flatMap (predL g)).count (j : Int) = (g.moves j).countP fun m => decide (rk (lvl g r) m = r) := fun j hj => by rw [count_flat g hj, count_level hg h hj]
  have hmv := fun j hj => hg.mv j hj
  have hopen : ∀ j : Nat, j < g.n → rk (lvl g r) j < 0 → O.getD j 0 = (((g.moves j).countP fun m => decide (rk (lvl g r) m = r) : Nat) : Int) + ((g.moves j).countP fun m => decide (rk (lvl g r) m < 0) : Nat) := fun j hj hu => by
    rw [h.opn j hj hu, count_split hg r hj _ (hmv j hj)]; omega
  have hle : ∀ j : Nat, j < g.n → rk (lvl g r) j < 0 → ((Q.flatMap (predL g)).count (j : Int) : Int) ≤ (O, ([] : List Int)).1.getD j 0 := fun j hj hu => by
    simp only
    rw [hopen j hj hu, hcount j hj]; omega
  have hnext := fun j hj => evs_next g (lvl g r) (Q.flatMap (predL g)) hE (O, []) h.olen hle j hj
  have hop := fun j hj => evs_open g (lvl g r) (Q.flatMap (predL g)) hE (O, []) h.olen j hj
  have hol := evs_len g (lvl g r) (Q.flatMap (predL g)) (O, [])
  -- the list of those that come next
  have hposn : ∀ (E : List Int), (∀ x ∈ E, Pos g x) → ∀ s : List Int × List Int, (∀ x ∈ s.2, Pos g x) → ∀ x ∈ (E.foldl (ev g (lvl g r)) s).2, Pos g x := by
    intro E
    induction E with
    | nil => intro _ s hs; exact hs
    | cons e E ih =>
      intro hE s hs
      rw [List.foldl_cons]
      refine ih (fun x hx => hE x (by simp [hx])) _ fun x hx => ?_
      unfold ev at hx
      split at hx
      · exact hs x hx
      · simp only at hx
        split at hx
        · rcases List.mem_append.1 hx with hx | hx
          · exact hs x hx
          · rw [List.mem_singleton.1 hx]; exact hE e (by simp)
        · exact hs x hx
  generalize hs : (Q.flatMap (predL g)).foldl (ev g (lvl g r)) (O, []) = s at *
  have hpos2 : ∀ x ∈ s.2, Pos g x := by rw [← hs]; exact hposn _ hE _ (by simp)
  have hnx : ∀ x ∈ (if r = 0 then s.2 ++ one else s.2), ∃ j : Nat, j < g.n ∧ x = j := fun x hx => by
    split at hx
    · rcases List.mem_append.1 hx with hx | hx
      · exact hpos2 x hx
      · obtain ⟨j, hj, e, _⟩ := (hone x).1 hx; exact ⟨j, hj, e⟩
    · exact hpos2 x hx
  obtain ⟨Qn, a1, a2, a3, a4, a5⟩ := levs g.n ((r : Int) + 1) (by omega) _ hnx (lvl g r) QA (lvl_length g r)
  -- who comes next is who is hit
  have hhit : ∀ j : Nat, j < g.n → rk (lvl g r) j < 0 → ((j : Int) ∈ (if r = 0 then s.2 ++ one else s.2) ↔ hit g (lvl g r) j = true) := fun j hj hu => by
    have hmem : ((j : Int) ∈ Q.flatMap (predL g)) ↔ ∃ m ∈ g.moves j, rk (lvl g r) m = r := by
      rw [← List.count_pos_iff, hcount j hj, List.countP_pos_iff]
      simp only [decide_eq_true_eq]
    have hO := hopen j hj hu
    have hC := hcount j hj
    have h2 : (j : Int) ∈ s.2 ↔ ((j : Int) ∈ Q.flatMap (predL g) ∧ (g.owner j = 0 ∨ O.getD j 0 = ((Q.flatMap (predL g)).count (j : Int) : Int))) := by
      rw [hnext j hj]
      simp only [List.not_mem_nil, false_or, hu, true_and]
    have hall : O.getD j 0 = ((Q.flatMap (predL g)).count (j : Int) : Int) ↔ everyB (lvl g r) (g.moves j) = true := by
      rw [hO, hC]
      simp only [everyB, List.all_eq_true, decide_eq_true_eq]
      constructor
      · intro e m hm
        have h0 : (g.moves j).countP (fun m => decide (rk (lvl g r) m < 0)) = 0 := by omega
        rw [List.countP_eq_zero] at h0
        have := h0 m hm
        simp only [decide_eq_true_eq] at this
        omega
      · intro e
        have h0 : (g.moves j).countP (fun m => decide (rk (lvl g r) m < 0)) = 0 := by
          rw [List.countP_eq_zero]
          intro m hm
          have := e m hm
          simp only [decide_eq_true_eq]
          omega
        omega
    have hs2 : (j : Int) ∈ s.2 → hit g (lvl g r) j = true := fun hx => by
      obtain ⟨k1, k2⟩ := h2.1 hx
      simp only [hit, Bool.or_eq_true, Bool.and_eq_true, decide_eq_true_eq]
      rcases hg.own j hj with ho | ho
      · left
        refine ⟨ho, ?_⟩
        obtain ⟨m, hm, e⟩ := hmem.1 k1
        simp only [someB, List.any_eq_true, decide_eq_true_eq]
        exact ⟨m, hm, by omega⟩
      · right
        refine ⟨ho, ?_⟩
        rcases k2 with k2 | k2
        · omega
        · exact hall.1 k2
    constructor
    · intro hx
      split at hx
      · rcases List.mem_append.1 hx with hx | hx
        · exact hs2 hx
        · obtain ⟨i, _, e, _, ho, hm⟩ := (hone _).1 hx
          have : i = j := by omega
          subst this
          simp only [hit, Bool.or_eq_true, Bool.and_eq_true, decide_eq_true_eq]
          right
          exact ⟨ho, by rw [hm]; rfl⟩
      · exact hs2 hx
    · intro hh
      simp only [hit, Bool.or_eq_true, Bool.and_eq_true, decide_eq_true_eq] at hh
      have hin : (j : Int) ∈ s.2 → (j : Int) ∈ (if r = 0 then s.2 ++ one else s.2) := fun hx => by
        split
        · exact List.mem_append_left _ hx
        · exact hx
      rcases hh with ⟨ho, hh⟩ | ⟨ho, hh⟩
      · simp only [someB, List.any_eq_true, decide_eq_true_eq] at hh
        obtain ⟨m, hm, h0⟩ := hh
        exact hin (h2.2 ⟨hmem.2 ⟨m, hm, unranked0 g hg hj hu ho m hm h0⟩, .inl ho⟩)
      · by_cases hE0 : (j : Int) ∈ Q.flatMap (predL g)
        · exact hin (h2.2 ⟨hE0, .inr (hall.2 hh)⟩)
        · -- no move of rank r: then r is 0 and there are no moves
          have hno : ∀ m ∈ g.moves j, rk (lvl g r) m ≠ r := fun m hm e => hE0 (hmem.2 ⟨m, hm, e⟩)
          have hev := hh
          simp only [everyB, List.all_eq_true, decide_eq_true_eq] at hev
          have hr : r = 0 := by
            by_cases hr : r = 0
            · exact hr
            · exfalso
              obtain ⟨m, hm, hk⟩ := unranked1 g hg hj hu ho hr
              rcases hk with hk | hk
              · have := hev m hm; omega
              · exact hno m hm hk
          subst hr
          have hnil : g.moves j = [] := by
            cases hm : g.moves j with
            | nil => rfl
            | cons m l =>
              exfalso
              have hmm : m ∈ g.moves j := by rw [hm]; simp
              have h1 := hev m hmm
              have h3 := hno m hmm
              have h4 := hg.mv j hj m hmm
              have h5 := rk_range g 0 m.toNat (by omega)
              rw [show ((m.toNat : Nat) : Int) = m by omega] at h5
              rcases h5 with h5 | h5
              · omega
              · exact h3 (by omega)
          rw [if_pos rfl]
          refine List.mem_append_right _ ((hone _).2 ⟨j, hj, rfl, ?_, ho, hnil⟩)
          have := rk_init g j hj
          rw [show initR g = lvl g 0 from rfl] at this
          rw [this] at hu
          cases hgl : g.goal j with
          | false => rfl
          | true => rw [hgl] at hu; simp at hu
  have hR : ((if r = 0 then s.2 ++ one else s.2).foldl (lev ((r : Int) + 1)) (lvl g r, QA)).1 = lvl g (r + 1) := by
    apply List.ext_getElem (by rw [a3, lvl_length])
    intro j h1 h2'
    have hj : j < g.n := by rw [a3] at h1; exact h1
    have e := a5 j hj
    have e2 := rk_round g ((r : Int) + 1) (lvl g r) j (by rw [lvl_length]; exact hj)
    have e3 : rk ((if r = 0 then s.2 ++ one else s.2).foldl (lev ((r : Int) + 1)) (lvl g r, QA)).1 j = rk (lvl g (r + 1)) j := by
      rw [e, lvl, e2]
      by_cases hu : rk (lvl g r) j < 0
      · have hh := hhit j hj hu
        rw [if_neg (show ¬ 0 ≤ rk (lvl g r) j by omega)]
        by_cases hx : hit g (lvl g r) j = true
        · rw [if_pos ⟨hu, hh.2 hx⟩, if_pos hx]
        · rw [if_neg (fun hy => hx (hh.1 hy.2)), if_neg hx]
      · rw [if_neg (fun hy => hu hy.1), if_pos (by omega)]
    simpa [rk, List.getD_eq_getElem?_getD, a3, lvl_length, hj] using e3
  refine ⟨Qn, Prod.ext hR a1, ⟨hol.trans h.olen, a2, fun x => ?_, fun j hj hu => ?_⟩⟩
  · rw [a4]
    constructor
    · rintro ⟨h1, h2⟩
      obtain ⟨j, hj, rfl⟩ := hnx x h1
      refine ⟨j, hj, rfl, ?_⟩
      rw [lvl, rk_round g _ _ _ (by rw [lvl_length]; exact hj), if_neg (by omega), if_pos ((hhit j hj h2).1 h1)]
      omega
    · rintro ⟨j, hj, rfl, e⟩
      rw [lvl, rk_round g _ _ _ (by rw [lvl_length]; exact hj)] at e
      have hrr := rk_range g r j hj
      by_cases hu : 0 ≤ rk (lvl g r) j
      · rw [if_pos hu] at e; omega
      · rw [if_neg hu] at e
        by_cases hx : hit g (lvl g r) j = true
        · exact ⟨(hhit j hj (by omega)).2 hx, by omega⟩
        · rw [if_neg hx] at e; omega
  · have hu0 : rk (lvl g r) j < 0 := by
      by_cases h0 : 0 ≤ rk (lvl g r) j
      · have := rk_stay g hj h0 1; omega
      · omega
    rw [hop j hj, if_neg (by omega), hcount j hj]
    have := hopen j hj hu0
    simp only at this ⊢
    have e : (g.moves j).countP (fun m => !(decide (0 ≤ rk (lvl g (r + 1)) m) && decide (rk (lvl g (r + 1)) m < ((r + 1 : Nat) : Int)))) = (g.moves j).countP fun m => decide (rk (lvl g r) m < 0) := by
      refine List.countP_congr fun m hm => ?_
      have hmn := hg.mv j hj m hm
      obtain ⟨i, rfl⟩ : ∃ i : Nat, m = i := ⟨m.toNat, by omega⟩
      have hi : i < g.n := by omega
      have hrr := rk_range g r i hi
      have e := rk_round g ((r : Int) + 1) (lvl g r) i (by rw [lvl_length]; exact hi)
      have e' : rk (lvl g (r + 1)) i = _ := e
      simp only [Bool.not_eq_true', Bool.and_eq_false_imp, decide_eq_true_eq, decide_eq_false_iff_not]
      rw [e']
      by_cases h0 : 0 ≤ rk (lvl g r) i
      · rw [if_pos h0]
        constructor
        · intro hx; exfalso; exact hx h0 (by omega)
        · intro hx; omega
      · rw [if_neg h0]
        constructor
        · intro _; omega
        · intro _ hx hy
          split at hx <;> split at hy <;> omega
    rw [e, this]; omega
end Go.Vs.Rk
end
/- The search for ranks: its begin and its end. -/
section
set_option linter.unusedVariables false
set_option linter.unusedSimpArgs false
namespace Go.Vs.Rk
/-- How many positions have no rank. -/
def unr (g : G) (r : Nat) : Nat := (List.range g.n).countP fun j : Nat => decide (rk (lvl g r) (j : Int) < 0)
theorem unr_le (g : G) (r : Nat) : unr g r ≤ g.n := by
  have := List.countP_le_length (p := fun j : Nat => decide (rk (lvl g r) (j : Int) < 0)) (l := List.range g.n)
  simpa [unr] using this
theorem rk_mono (g : G) (r j : Nat) (hj : j < g.n) (h : rk (lvl g (r + 1)) j < 0) : rk (lvl g r) j < 0 := by
  by_cases h0 : 0 ≤ rk (lvl g r) j
  · have := rk_stay g hj h0 1; omega
  · omega
theorem countP_lt {p q : Nat → Bool} {l : List Nat} (hpq : ∀ x ∈ l, p x = true → q x = true) {a : Nat} (ha : a ∈ l) (hq : q a = true) (hp : p a = false) : l.countP p < l.countP q := by
  induction l with
  | nil => cases ha
  | cons x l ih =>
    rw [List.countP_cons, List.countP_cons]
    have hle : l.countP p ≤ l.countP q := List.countP_mono_left fun y hy h => hpq y (by simp [hy]) h
    rcases List.mem_cons.1 ha with rfl | ha
    · rw [hq, hp]; simp; omega
    · have := ih (fun y hy h => hpq y (by simp [hy]) h) ha
      have h2 := hpq x (by simp)
      cases hpx : p x with
      | false => simp; split <;> omega
      | true => rw [h2 hpx]; simp; omega
/-- A level with positions leaves fewer. -/
theorem unr_lt {g : G} {r : Nat} {O Q : List Int} (h : St g (r + 1) O Q) (hQ : Q ≠ []) : unr g (r + 1) < unr g r := by
  obtain ⟨x, hx⟩ := List.exists_mem_of_ne_nil Q hQ
  obtain ⟨j, hj, rfl, e⟩ := (h.mem x).1 hx
  refine countP_lt (a := j) (fun i hi hp => ?_) (by simpa using hj) ?_ ?_
  · simp only [decide_eq_true_eq] at hp ⊢
    exact rk_mono g r i (by simpa using hi) hp
  · simp only [decide_eq_true_eq]
    have hr := rk_range g r j hj
    by_cases h0 : 0 ≤ rk (lvl g r) j
    · have := rk_stay g hj h0 1; omega
    · omega
  · simp only [decide_eq_false_iff_not]; omega
/-- A level without positions is the last. -/
theorem lvl_end {g : G} (hg : g.ok) {r : Nat} {O Q : List Int} (h : St g r O Q) (hr : r ≠ 0) (hQ : Q = []) (hb : r ≤ g.n + 2) (hprev : r = g.n + 2 → lvl g (g.n + 2) = lvl g (g.n + 1)) : lvl g r = lvl g (g.n + 1) := by
  have hno : ∀ i, i < g.n → rk (lvl g r) i ≠ r := fun i hi e => by
    have : (i : Int) ∈ Q := (h.mem _).2 ⟨i, hi, rfl, e⟩
    rw [hQ] at this
    cases this
  by_cases hle : r = g.n + 2
  · subst hle; exact hprev rfl
  · have := stable g hg hr hno (g.n + 1 - r)
    rw [show r + (g.n + 1 - r) = g.n + 1 by omega] at this
    exact this.symm
/-- A level without positions changes nothing. -/
theorem lvl_same {g : G} {r : Nat} {O Q : List Int} (h : St g (r + 1) O Q) (hQ : Q = []) : lvl g (r + 1) = lvl g r := by
  apply List.ext_getElem (by rw [lvl_length, lvl_length])
  intro i h1 h2
  rw [lvl_length] at h1
  have e : rk (lvl g (r + 1)) i = rk (lvl g r) i := by
    have e2 : rk (lvl g (r + 1)) i = _ := rk_round g ((r : Int) + 1) (lvl g r) i (by rw [lvl_length]; exact h1)
    rw [e2]
    by_cases h0 : 0 ≤ rk (lvl g r) i
    · rw [if_pos h0]
    · rw [if_neg h0]
      by_cases hh : hit g (lvl g r) i = true
      · exfalso
        rw [if_neg h0, if_pos hh] at e2
        have : (i : Int) ∈ Q := (h.mem _).2 ⟨i, h1, rfl, by rw [e2]; omega⟩
        rw [hQ] at this
        cases this
      · rw [if_neg hh]
  simpa [rk, List.getD_eq_getElem?_getD, lvl_length, h1] using e
/-- The goals, and the first level. -/
def zeroL (g : G) : List Int := ((List.range g.n).filter fun i => g.goal i).map fun i : Nat => (i : Int)
def oneL (g : G) : List Int := ((List.range g.n).filter fun i => !g.goal i && (decide (g.owner i = 1) && decide (g.moves i = []))).map fun i : Nat => (i : Int)
theorem mem_oneL (g : G) : ∀ x, x ∈ oneL g ↔ ∃ j : Nat, j < g.n ∧ x = j ∧ g.goal j = false ∧ g.owner j = 1 ∧ g.moves j = [] := fun x => by
  simp only [oneL, List.mem_map, List.mem_filter, List.mem_range, Bool.and_eq_true, Bool.not_eq_true', decide_eq_true_eq]
  constructor
  · rintro ⟨j, ⟨h1, h2⟩, rfl⟩; exact ⟨j, h1, rfl, h2⟩
  · rintro ⟨j, h1, rfl, h2⟩; exact ⟨j, ⟨h1, h2⟩, rfl⟩
theorem mem_zeroL (g : G) : ∀ x, x ∈ zeroL g ↔ ∃ j : Nat, j < g.n ∧ x = j ∧ g.goal j = true := fun x => by
  simp only [zeroL, List.mem_map, List.mem_filter, List.mem_range]
  constructor
  · rintro ⟨j, ⟨h1, h2⟩, rfl⟩; exact ⟨j, h1, rfl, h2⟩
  · rintro ⟨j, h1, rfl, h2⟩; exact ⟨j, ⟨h1, h2⟩, rfl⟩
def openL (g : G) : List Int := (List.range g.n).map fun i => ((g.moves i).length : Int)
theorem start (g : G) : ∃ Qn, ((zeroL g).foldl (lev 0) (List.replicate g.n (-1), [])) = (lvl g 0, Qn) ∧ St g 0 (openL g) Qn := by
  obtain ⟨Qn, a1, a2, a3, a4, a5⟩ := levs g.n 0 (by omega) (zeroL g) (fun x hx => by obtain ⟨j, hj, e, _⟩ := (mem_zeroL g x).1 hx; exact ⟨j, hj, e⟩) (List.replicate g.n (-1)) [] (by simp)
  have hrep : ∀ j : Nat, j < g.n → rk (List.replicate g.n (-1)) j = -1 := fun j hj => by simp [rk, List.getD_eq_getElem?_getD, hj]
  have hgo : ∀ j : Nat, j < g.n → ((j : Int) ∈ zeroL g ↔ g.goal j = true) := fun j hj => by
    rw [mem_zeroL]
    constructor
    · rintro ⟨i, _, e, h⟩
      have : i = j := by omega
      subst this; exact h
    · intro h; exact ⟨j, hj, rfl, h⟩
  refine ⟨Qn, Prod.ext ?_ (by simpa using a1), ⟨by simp [openL], a2, fun x => ?_, fun j hj hu => ?_⟩⟩
  · apply List.ext_getElem (by rw [a3, lvl_length])
    intro j h1 h2
    have hj : j < g.n := by rw [a3] at h1; exact h1
    have e := a5 j hj
    have e3 : rk ((zeroL g).foldl (lev 0) (List.replicate g.n (-1), [])).1 j = rk (lvl g 0) j := by
      rw [e, hrep j hj, lvl, rk_init g j hj]
      by_cases hh : g.goal j = true
      · rw [if_pos ⟨by omega, (hgo j hj).2 hh⟩, if_pos hh]
      · rw [if_neg (fun hy => hh ((hgo j hj).1 hy.2)), if_neg hh]
    simpa [rk, List.getD_eq_getElem?_getD, a3, lvl_length, hj] using e3
  · rw [a4]
    constructor
    · rintro ⟨h1, _⟩
      obtain ⟨j, hj, rfl, h⟩ := (mem_zeroL g x).1 h1
      exact ⟨j, hj, rfl, by rw [lvl, rk_init g j hj, if_pos h]; rfl⟩
    · rintro ⟨j, hj, rfl, e⟩
      rw [lvl, rk_init g j hj] at e
      refine ⟨(hgo j hj).2 ?_, by rw [hrep j hj]; omega⟩
      split at e
      · assumption
      · exact absurd e (by decide)
  · have e1 : (openL g).getD j 0 = ((g.moves j).length : Int) := by simp [openL, List.getD_eq_getElem?_getD, hj]
    rw [e1]
    have e2 : ((g.moves j).countP fun m => !(decide (0 ≤ rk (lvl g 0) m) && decide (rk (lvl g 0) m < ((0 : Nat) : Int)))) = (g.moves j).length := by
      rw [List.countP_eq_length]
      intro m _
      simp only [Bool.not_eq_true', Bool.and_eq_false_imp, decide_eq_true_eq, decide_eq_false_iff_not]
      intro h; omega
    rw [e2]
end Go.Vs.Rk
end

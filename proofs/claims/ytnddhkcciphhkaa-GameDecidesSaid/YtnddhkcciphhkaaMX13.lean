/- Stores that are known in part: what stays, lists of paths in them. -/

import Derived.Test.YtnddhkcciphhkaaMX12
section
set_option linter.unusedVariables false
set_option linter.unusedSimpArgs false
namespace Go.Vs
open Go Go.Proofs
/-- A value that reads as a list of ints. -/
inductive Ints (S : Store) : PV → List Int → Prop
  | sl (l : List Int) (ex : Bool) : Ints S (.sl (intRows l) ex) l
  | msl (id : Nat) (l : List Int) (ex : Bool) (g : Option (Option Nat)) (f : Bool) (h : S[id]? = some (.arr (intRows l) g f)) : Ints S (.msl id 0 l.length ex) l
/-- What lies below n stays, but for the places X, and for what refers to D. -/
structure Keep (n : Nat) (X D : List Nat) (S S' : Store) : Prop where
  len : n ≤ S'.length
  keeps : ∀ j, j < n → j ∉ X → ∀ rows g f, S[j]? = some (.arr rows g f) → (∀ r ∈ rowsRefs rows, r < n ∧ r ∉ D) → S'[j]? = some (.arr rows g f)
theorem Keep.refl {n : Nat} {X D : List Nat} {S : Store} (h : n ≤ S.length) : Keep n X D S S := ⟨h, fun _ _ _ _ _ _ h _ => h⟩
/-- Below n nothing changes. -/
theorem Keep.same {n : Nat} {X D : List Nat} {S S' : Store} (h : n ≤ S'.length) (hs : ∀ j, j < n → S'[j]? = S[j]?) : Keep n X D S S' := ⟨h, fun j hj _ _ _ _ ha _ => by rw [hs j hj]; exact ha⟩
theorem Keep.trans {n m : Nat} {X D X' D' : List Nat} {S S1 S2 : Store} (h : Keep n X D S S1) (k : Keep m X' D' S1 S2) (hn : n ≤ m) (hX : ∀ r ∈ X', r ∈ X ∨ n ≤ r) (hD : ∀ r ∈ D', r ∈ D ∨ n ≤ r) : Keep n X D S S2 := by
  refine ⟨Nat.le_trans hn k.len, fun j hj hx rows g f ha hr => ?_⟩
  refine k.keeps j (by omega) (fun hx' => ?_) rows g f (h.keeps j hj hx rows g f ha hr) fun r hrr => ⟨by have := (hr r hrr).1; omega, fun hd => ?_⟩
  · rcases hX j hx' with h1 | h1
    · exact hx h1
    · omega
  · rcases hD r hd with h1 | h1
    · exact (hr r hrr).2 h1
    · have := (hr r hrr).1; omega
theorem Ints.refs_lt {S : Store} {p : PV} {l : List Int} (h : Ints S p l) : ∀ r ∈ p.refs, r < S.length := by
  cases h with
  | sl l ex => intro r hr; cases hr
  | msl id l ex g f h =>
    intro r hr
    have := (List.getElem?_eq_some_iff.1 h).1
    simp only [PV.refs, List.mem_singleton] at hr
    omega
theorem Ints.keep {n : Nat} {X D : List Nat} {S S' : Store} {p : PV} {l : List Int} (h : Ints S p l) (k : Keep n X D S S') (hn : ∀ r ∈ p.refs, r < n ∧ r ∉ X) : Ints S' p l := by
  cases h with
  | sl l ex => exact .sl l ex
  | msl id l ex g f h =>
    have := hn id (by simp [PV.refs])
    exact .msl id l ex g f (k.keeps id this.1 this.2 _ _ _ h (by rw [intRows_refs]; intro r hr; cases hr))
theorem Ints.same {S S' : Store} {p : PV} {l : List Int} (h : Ints S p l) (hs : ∀ r ∈ p.refs, S'[r]? = S[r]?) : Ints S' p l := by
  cases h with
  | sl l ex => exact .sl l ex
  | msl id l ex g f h => exact .msl id l ex g f (by rw [hs id (by simp [PV.refs])]; exact h)
theorem Ints.len {S : Store} {p : PV} {l : List Int} (h : Ints S p l) : lenO (tyi Try.prog 22) p = some (.int .i64 l.length) := by
  cases h with
  | sl l ex => rw [len22, intRows_length]
  | msl id l ex g f h => rw [len22m]
theorem Ints.rowsIn {S : Store} {p : PV} {l : List Int} (h : Ints S p l) : Vs.rowsIn S p = some (intRows l) := by
  cases h with
  | sl l ex => rfl
  | msl id l ex g f h =>
    have e : rowsAt S id = some (intRows l) := by simp only [rowsAt, h]
    rw [rowsIn_msl, e]
    simp only [Option.bind_some, Nat.zero_add, intRows_length, Nat.le_refl, if_true, List.drop_zero]
    rw [← intRows_length l, List.take_length]
theorem Ints.cell {S : Store} {p : PV} {l : List Int} (h : Ints S p l) : p.cell = true := by cases h <;> rfl
theorem Ints.cells {S : Store} {p : PV} {l : List Int} (h : Ints S p l) : p.cells = [p] := by cases h <;> rfl
theorem Ints.fz {S : Store} {p : PV} {l : List Int} (h : Ints S p l) (d : Nat) : fzCell S (d + 2) p = some (.sl (intRows l) false) := by
  cases h with
  | sl l ex => rfl
  | msl id l ex g f h =>
    have e1 : Vs.rowsIn S (.msl id 0 l.length false) = some (intRows l) := (Ints.msl id l false g f h).rowsIn
    have e2 : mapO (mapO (fzCell S (d + 1))) (intRows l) = some (intRows l) := by
      have := mapO_all (f := mapO (fzCell S (d + 1))) (g := fun x => x) (l := intRows l) (fun a ha => by
        obtain ⟨w, _, rfl⟩ := List.mem_map.1 ha
        rfl)
      simpa using this
    show ((Vs.rowsIn S (.msl id 0 l.length false)).bind fun rows => (mapO (mapO (fzCell S (d + 1))) rows).map fun rows => PV.sl rows false) = _
    rw [e1]
    simp only [Option.bind_some, e2, Option.map_some]
/-- Rows of a list of paths; none of them is array id. -/
inductive PathRows (S : Store) (id : Nat) : List (List PV) → List (List Int) → Prop
  | nil : PathRows S id [] []
  | cons {p : PV} {l : List Int} {rows : List (List PV)} {L : List (List Int)} (h : Ints S p l) (hi : id ∉ p.refs) (t : PathRows S id rows L) : PathRows S id ([p] :: rows) (l :: L)
theorem PathRows.length {S : Store} {id : Nat} {rows : List (List PV)} {L : List (List Int)} (h : PathRows S id rows L) : rows.length = L.length := by
  induction h with
  | nil => rfl
  | cons _ _ _ ih => simp [ih]
theorem PathRows.ok {S : Store} {id : Nat} {rows : List (List PV)} {L : List (List Int)} (h : PathRows S id rows L) : rowsOK 1 rows = true := by
  induction h with
  | nil => rfl
  | cons _ _ _ ih => rw [rowsOK_cons, ih]; rfl
theorem PathRows.snoc {S : Store} {id : Nat} {rows : List (List PV)} {L : List (List Int)} (h : PathRows S id rows L) {p : PV} {l : List Int} (hp : Ints S p l) (hi : id ∉ p.refs) : PathRows S id (rows ++ [[p]]) (L ++ [l]) := by
  induction h with
  | nil => exact .cons hp hi .nil
  | cons h1 h2 _ ih => exact .cons h1 h2 ih
theorem PathRows.out {S : Store} {id : Nat} {rows : List (List PV)} {L : List (List Int)} (h : PathRows S id rows L) : id ∉ rowsRefs rows := by
  induction h with
  | nil => simp [rowsRefs]
  | cons h1 h2 _ ih => simp only [rowsRefs_cons, refsL, List.append_nil, List.mem_append, not_or]; exact ⟨h2, ih⟩
/-- The same in another store, perhaps another array, for what the rows refer to. -/
theorem PathRows.move {S S' : Store} {id id' : Nat} {rows : List (List PV)} {L : List (List Int)} (h : PathRows S id rows L) (hs : ∀ r ∈ rowsRefs rows, S'[r]? = S[r]? ∧ r ≠ id') : PathRows S' id' rows L := by
  induction h with
  | nil => exact .nil
  | @cons p l rows L h1 h2 _ ih =>
    simp only [rowsRefs_cons, refsL, List.append_nil, List.mem_append] at hs
    exact .cons (h1.same fun r hr => (hs r (.inl hr)).1) (fun hx => (hs _ (.inl hx)).2 rfl) (ih fun r hr => hs r (.inr hr))
theorem PathRows.lt {S : Store} {id : Nat} {rows : List (List PV)} {L : List (List Int)} (h : PathRows S id rows L) : ∀ r ∈ rowsRefs rows, r < S.length := by
  induction h with
  | nil => intro r hr; cases hr
  | cons h1 _ _ ih =>
    intro r hr
    simp only [rowsRefs_cons, refsL, List.append_nil, List.mem_append] at hr
    rcases hr with hr | hr
    · exact h1.refs_lt r hr
    · exact ih r hr
/-- A list of paths that may be appended to. -/
inductive OutV (S : Store) : PV → List (List Int) → Prop
  | nil : OutV S (.sl [] true) []
  | arr (id : Nat) (rows : List (List PV)) (L : List (List Int)) (h : S[id]? = some (.arr rows (some (some 1)) false)) (hr : PathRows S id rows L) : OutV S (.msl id 0 L.length false) L
theorem OutV.lt {S : Store} {v : PV} {L : List (List Int)} (h : OutV S v L) : ∀ r ∈ v.refs, r < S.length := by
  cases h with
  | nil => intro r hr; cases hr
  | arr id rows L h hr =>
    intro r hr
    have := (List.getElem?_eq_some_iff.1 h).1
    simp only [PV.refs, List.mem_singleton] at hr
    omega
/-- In a longer store. -/
theorem OutV.ext {S : Store} {v : PV} {L : List (List Int)} (h : OutV S v L) (U : Store) : OutV (S ++ U) v L := by
  cases h with
  | nil => exact .nil
  | arr id rows L h hr =>
    have hl := (List.getElem?_eq_some_iff.1 h).1
    refine .arr id rows L (by rw [List.getElem?_append_left hl]; exact h) (hr.move fun r hrr => ⟨by rw [List.getElem?_append_left (hr.lt r hrr)], fun e => hr.out (e ▸ hrr)⟩)
theorem gc_at {n : Nat} {e : Env} {S : Store} (hn : n ≤ S.length) : n ≤ (gc n e S).length ∧ ∀ j, j < n → (gc n e S)[j]? = S[j]? := by
  unfold gc
  split
  · exact ⟨by rw [List.length_take]; omega, fun j hj => by rw [List.getElem?_take_of_lt hj]⟩
  · exact ⟨hn, fun _ _ => rfl⟩
theorem OutV.gc {n : Nat} {e : Env} {S : Store} {v : PV} {L : List (List Int)} (h : OutV S v L) (he : ∃ t, (t, v) ∈ e) : OutV (Vs.gc n e S) v L := by
  unfold Vs.gc
  split
  case isFalse => exact h
  rename_i hc
  obtain ⟨h1, h2⟩ := hc
  rw [List.all_eq_true] at h1 h2
  obtain ⟨t, ht⟩ := he
  have hv := h1 _ ht
  simp only [List.all_eq_true, decide_eq_true_eq] at hv
  cases h with
  | nil => exact .nil
  | arr id rows L h hr =>
    have hid : id < n := hv id (by simp [PV.refs])
    have hrows := h2 (.arr rows (some (some 1)) false) (by
      have e : (S.take n)[id]? = some (.arr rows (some (some 1)) false) := by rw [List.getElem?_take_of_lt hid]; exact h
      exact List.mem_of_getElem? e)
    simp only [List.all_eq_true, decide_eq_true_eq] at hrows
    exact .arr id rows L (by rw [List.getElem?_take_of_lt hid]; exact h) (hr.move fun r hrr => ⟨by rw [List.getElem?_take_of_lt (hrows r hrr)], fun e => hr.out (e ▸ hrr)⟩)
theorem kill1_id {ids : List Nat} {v : PV} (h : ∀ r ∈ v.refs, r ∉ ids) : kill1 ids v = v := by
  unfold kill1
  rw [if_neg]
  simp only [List.any_eq_true, not_exists, not_and, List.contains_iff_mem]
  exact h
theorem killRows_id {ids : List Nat} {rows : List (List PV)} (h : ∀ r ∈ rowsRefs rows, r ∉ ids) : killRows ids rows = rows := by
  unfold killRows
  rw [if_neg]
  simp only [List.any_eq_true, not_exists, not_and, List.contains_iff_mem]
  exact h
theorem map_kill_at {ids : List Nat} {S : Store} {j : Nat} {rows : List (List PV)} {g : Option (Option Nat)} {f : Bool} (h : S[j]? = some (.arr rows g f)) (hr : ∀ r ∈ rowsRefs rows, r ∉ ids) : (S.map (killObj ids))[j]? = some (.arr rows g f) := by
  rw [List.getElem?_map, h]
  simp only [Option.map_some, killObj_arr, killRows_id hr]
theorem PathRows.keep {n : Nat} {X D : List Nat} {S S' : Store} {id id' : Nat} {rows : List (List PV)} {L : List (List Int)} (h : PathRows S id rows L) (k : Keep n X D S S') (hs : ∀ r ∈ rowsRefs rows, r < n ∧ r ∉ X ∧ r ≠ id') : PathRows S' id' rows L := by
  induction h with
  | nil => exact .nil
  | @cons p l rows L h1 h2 _ ih =>
    simp only [rowsRefs_cons, refsL, List.append_nil, List.mem_append] at hs
    exact .cons (h1.keep k fun r hr => ⟨(hs r (.inl hr)).1, (hs r (.inl hr)).2.1⟩) (fun hx => (hs _ (.inl hx)).2.2 rfl) (ih fun r hr => hs r (.inr hr))
theorem bytes22 : (tyi Try.prog 22).bytes = 24 := by kernel_rfl
theorem zeroOK22 : zeroOK (tyi Try.prog 22) = true := by kernel_rfl
theorem killObj_none (o : Obj) : killObj [] o = o := by
  cases o with
  | gone => rfl
  | arr rows g f => rw [killObj_arr, killRows_id (by intro r _ h; cases h)]
end Go.Vs
end
/- Rules for slices of ints that are made, lists of lists, places of one value. -/
section
set_option linter.unusedVariables false
set_option linter.unusedSimpArgs false
namespace Go.Vs
open Go Go.Proofs
theorem makeSlice22 (id n : Nat) (h : n ≤ 2000000) : makeSliceO Try.prog 22 id (.int .i64 n) (.int .i64 n) = some { v := .msl id 0 n true, new := some (List.replicate n [.int .i64 0], some (some 1)) } := by
  have e2 : (tyi Try.prog 3).bytes = 8 := by kernel_rfl
  have e3 : (tyi Try.prog 3).zero = some [.int .i64 0] := by kernel_rfl
  simp only [makeSliceO, d22, e3, Option.bind_some, e2, size3]
  rw [if_pos ⟨by omega, by omega, by omega, by omega, rfl, rfl⟩]
  simp
theorem rowsAt_of {S : Store} {id : Nat} {rows : List (List PV)} {g : Option (Option Nat)} {f : Bool} (h : S[id]? = some (.arr rows g f)) : rowsAt S id = some rows := by simp only [rowsAt, h]
theorem withV_any {R : Type} (x : PV) (K : PV → Option R) : withV (some x) K = K x := nr rfl
@[go_sem] theorem known23 : (tyi Try.prog 23).known = true := nr (by kernel_rfl)
@[go_sem] theorem size23 : (tyi Try.prog 23).size = 1 := nr (by kernel_rfl)
@[go_sem] theorem part23 (v : PV) (r : List PV) : part (tyi Try.prog 23) (v :: r) = some v := by
  have e : (tyi Try.prog 23).isAgg = false := by kernel_rfl
  simp [part, known23, e]
@[go_sem] theorem buildSlice23 (id n : Nat) (is : List Nat) (rows : List (List PV)) : buildSliceO Try.prog 23 id n is rows = if is = List.range n ∧ rowsOK 1 rows = true ∧ (rows.all fun r => r.all PV.cell) = true ∧ n * 1 ≤ 16777216 then some { v := .msl id 0 n true, new := some (rows, some (some 1)) } else none := by
  have e : (tyi Try.prog 22).zero.isSome = true := by kernel_rfl
  simp [buildSliceO, d23, size22, e]
def pathRows (L : List (List Int)) : List (List PV) := L.map fun l => [.sl (intRows l) false]
@[go_sem] theorem pathRows_length (L : List (List Int)) : (pathRows L).length = L.length := nr (by simp [pathRows])
@[go_sem] theorem idx23 (S : Store) (L : List (List Int)) (ex : Bool) (i : Int) : indexAddrO Try.prog 23 S (.sl (pathRows L) ex) (.int .i64 i) = if 0 ≤ i ∧ i < L.length then some (.cp [.sl (intRows (L.getD i.toNat [])) false]) else none := by
  have e1 : elemTy (tyi Try.prog 23) = 22 := by simp [elemTy, d23]
  have e2 : isSlice (tyi Try.prog 23) = true := by simp [isSlice, d23]
  simp only [indexAddrO, e1, e2, known22, size22, and_self, if_true, evIndexAddr, pathRows_length]
  split
  · rename_i h
    have hl : i.toNat < L.length := by omega
    have e3 : (pathRows L).getD i.toNat [] = [.sl (intRows (L.getD i.toNat [])) false] := by
      simp [pathRows, List.getD_eq_getElem?_getD, hl]
    rw [e3]
    rfl
  · rfl
theorem idx22m {S : Store} {id n : Nat} {ex : Bool} {rows : List (List PV)} (i : Nat) (hS : rowsAt S id = some rows) (hl : rows.length = n) (h2 : rowsOK 1 rows = true) (hi : i < n) : indexAddrO Try.prog 22 S (.msl id 0 n ex) (.int .i64 i) = some (.mp id i 0) := by
  have e1 : elemTy (tyi Try.prog 22) = 3 := by simp [elemTy, d22]
  have e2 : isSlice (tyi Try.prog 22) = true := by simp [isSlice, d22]
  simp only [indexAddrO, e1, e2, known3, size3, and_self, if_true, evIndexAddr, hS, Option.bind_some]
  rw [if_pos ⟨by omega, by omega⟩, if_pos ⟨h2, by omega⟩, Nat.zero_add, Int.toNat_natCast]
theorem store_box {ti : TI} {S : Store} {ob : Nat} {u v : PV} (hk : ti.known = true) (hs : ti.size = 1) (h : S[ob]? = some (.arr [[u]] none false)) (hv : v.cells = [v]) (hc : v.cell = true) : storeE ti S (.mp ob 0 0) v = some { v := .skip, S := S.set ob (.arr [[v]] none false) } := by
  simp only [storeE_eq, hk, if_true, hs, evStore, h, hv]
  rw [if_pos ⟨by simp, by simp, rfl, by simp [hc]⟩]
  rfl
end Go.Vs
end

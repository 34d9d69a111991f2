/- The search for ranks: its begin and its end. -/

import Derived.Test.YtnddhkcciphhkaaMX7
section
set_option linter.unusedVariables false
set_option linter.unusedSimpArgs false
namespace Go.Vs.Rk
/-- How many positions have no rank. -/
def unr (g : G) (r : Nat) : Nat := (List.range g.n).countP fun j : Nat => decide (rk (lvl g r) (j : Int) < 0)
theorem unr_le (g : G) (r : Nat) : unr g r ≤ g.n := by
  have := List.countP_le_length (p := fun j : Nat => decide (rk (lvl g r) (j : Int) < 0)) (l := List.range g.n)
  simpa [unr] using this
theorem rk_mono (g : G) (r j : Nat) (hj : j < g.n) (h : rk (lvl g (r + 1)) j < 0) : rk (lvl g r) j < 0 := by
  by_cases h0 : 0 ≤ rk (lvl g r) j
  · have := rk_stay g hj h0 1; omega
  · omega
theorem countP_lt {p q : Nat → Bool} {l : List Nat} (hpq : ∀ x ∈ l, p x = true → q x = true) {a : Nat} (ha : a ∈ l) (hq : q a = true) (hp : p a = false) : l.countP p < l.countP q := by
  induction l with
  | nil => cases ha
  | cons x l ih =>
    rw [List.countP_cons, List.countP_cons]
    have hle : l.countP p ≤ l.countP q := List.countP_mono_left fun y hy h => hpq y (by simp [hy]) h
    rcases List.mem_cons.1 ha with rfl | ha
    · rw [hq, hp]; simp; omega
    · have := ih (fun y hy h => hpq y (by simp [hy]) h) ha
      have h2 := hpq x (by simp)
      cases hpx : p x with
      | false => simp; split <;> omega
      | true => rw [h2 hpx]; simp; omega
/-- A level with positions leaves fewer. -/
theorem unr_lt {g : G} {r : Nat} {O Q : List Int} (h : St g (r + 1) O Q) (hQ : Q ≠ []) : unr g (r + 1) < unr g r := by
  obtain ⟨x, hx⟩ := List.exists_mem_of_ne_nil Q hQ
  obtain ⟨j, hj, rfl, e⟩ := (h.mem x).1 hx
  refine countP_lt (a := j) (fun i hi hp => ?_) (by simpa using hj) ?_ ?_
  · simp only [decide_eq_true_eq] at hp ⊢
    exact rk_mono g r i (by simpa using hi) hp
  · simp only [decide_eq_true_eq]
    have hr := rk_range g r j hj
    by_cases h0 : 0 ≤ rk (lvl g r) j
    · have := rk_stay g hj h0 1; omega
    · omega
  · simp only [decide_eq_false_iff_not]; omega
/-- A level without positions is the last. -/
theorem lvl_end {g : G} (hg : g.ok) {r : Nat} {O Q : List Int} (h : St g r O Q) (hr : r ≠ 0) (hQ : Q = []) (hb : r ≤ g.n + 2) (hprev : r = g.n + 2 → lvl g (g.n + 2) = lvl g (g.n + 1)) : lvl g r = lvl g (g.n + 1) := by
  have hno : ∀ i, i < g.n → rk (lvl g r) i ≠ r := fun i hi e => by
    have : (i : Int) ∈ Q := (h.mem _).2 ⟨i, hi, rfl, e⟩
    rw [hQ] at this
    cases this
  by_cases hle : r = g.n + 2
  · subst hle; exact hprev rfl
  · have := stable g hg hr hno (g.n + 1 - r)
    rw [show r + (g.n + 1 - r) = g.n + 1 by omega] at this
    exact this.symm
/-- A level without positions changes nothing. -/
theorem lvl_same {g : G} {r : Nat} {O Q : List Int} (h : St g (r + 1) O Q) (hQ : Q = []) : lvl g (r + 1) = lvl g r := by
  apply List.ext_getElem (by rw [lvl_length, lvl_length])
  intro i h1 h2
  rw [lvl_length] at h1
  have e : rk (lvl g (r + 1)) i = rk (lvl g r) i := by
    have e2 : rk (lvl g (r + 1)) i = _ := rk_round g ((r : Int) + 1) (lvl g r) i (by rw [lvl_length]; exact h1)
    rw [e2]
    by_cases h0 : 0 ≤ rk (lvl g r) i
    · rw [if_pos h0]
    · rw [if_neg h0]
      by_cases hh : hit g (lvl g r) i = true
      · exfalso
        rw [if_neg h0, if_pos hh] at e2
        have : (i : Int) ∈ Q := (h.mem _).2 ⟨i, h1, rfl, by rw [e2]; omega⟩
        rw [hQ] at this
        cases this
      · rw [if_neg hh]
  simpa [rk, List.getD_eq_getElem?_getD, lvl_length, h1] using e
/-- The goals, and the first level. -/
def zeroL (g : G) : List Int := ((List.range g.n).filter fun i => g.goal i).map fun i : Nat => (i : Int)
def oneL (g : G) : List Int := ((List.range g.n).filter fun i => !g.goal i && (decide (g.owner i = 1) && decide (g.moves i = []))).map fun i : Nat => (i : Int)
theorem mem_oneL (g : G) : ∀ x, x ∈ oneL g ↔ ∃ j : Nat, j < g.n ∧ x = j ∧ g.goal j = false ∧ g.owner j = 1 ∧ g.moves j = [] := fun x => by
  simp only [oneL, List.mem_map, List.mem_filter, List.mem_range, Bool.and_eq_true, Bool.not_eq_true', decide_eq_true_eq]
  constructor
  · rintro ⟨j, ⟨h1, h2⟩, rfl⟩; exact ⟨j, h1, rfl, h2⟩
  · rintro ⟨j, h1, rfl, h2⟩; exact ⟨j, ⟨h1, h2⟩, rfl⟩
theorem mem_zeroL (g : G) : ∀ x, x ∈ zeroL g ↔ ∃ j : Nat, j < g.n ∧ x = j ∧ g.goal j = true := fun x => by
  simp only [zeroL, List.mem_map, List.mem_filter, List.mem_range]
  constructor
  · rintro ⟨j, ⟨h1, h2⟩, rfl⟩; exact ⟨j, h1, rfl, h2⟩
  · rintro ⟨j, h1, rfl, h2⟩; exact ⟨j, ⟨h1, h2⟩, rfl⟩
def openL (g : G) : List Int := (List.range g.n).map fun i => ((g.moves i).length : Int)
theorem start (g : G) : ∃ Qn, ((zeroL g).foldl (lev 0) (List.replicate g.n (-1), [])) = (lvl g 0, Qn) ∧ St g 0 (openL g) Qn := by
  obtain ⟨Qn, a1, a2, a3, a4, a5⟩ := levs g.n 0 (by omega) (zeroL g) (fun x hx => by obtain ⟨j, hj, e, _⟩ := (mem_zeroL g x).1 hx; exact ⟨j, hj, e⟩) (List.replicate g.n (-1)) [] (by simp)
  have hrep : ∀ j : Nat, j < g.n → rk (List.replicate g.n (-1)) j = -1 := fun j hj => by simp [rk, List.getD_eq_getElem?_getD, hj]
  have hgo : ∀ j : Nat, j < g.n → ((j : Int) ∈ zeroL g ↔ g.goal j = true) := fun j hj => by
    rw [mem_zeroL]
    constructor
    · rintro ⟨i, _, e, h⟩
      have : i = j := by omega
      subst this; exact h
    · intro h; exact ⟨j, hj, rfl, h⟩
  refine ⟨Qn, Prod.ext ?_ (by simpa using a1), ⟨by simp [openL], a2, fun x => ?_, fun j hj hu => ?_⟩⟩
  · apply List.ext_getElem (by rw [a3, lvl_length])
    intro j h1 h2
    have hj : j < g.n := by rw [a3] at h1; exact h1
    have e := a5 j hj
    have e3 : rk ((zeroL g).foldl (lev 0) (List.replicate g.n (-1), [])).1 j = rk (lvl g 0) j := by
      rw [e, hrep j hj, lvl, rk_init g j hj]
      by_cases hh : g.goal j = true
      · rw [if_pos ⟨by omega, (hgo j hj).2 hh⟩, if_pos hh]
      · rw [if_neg (fun hy => hh ((hgo j hj).1 hy.2)), if_neg hh]
    simpa [rk, List.getD_eq_getElem?_getD, a3, lvl_length, hj] using e3
  · rw [a4]
    constructor
    · rintro ⟨h1, _⟩
      obtain ⟨j, hj, rfl, h⟩ := (mem_zeroL g x).1 h1
      exact ⟨j, hj, rfl, by rw [lvl, rk_init g j hj, if_pos h]; rfl⟩
    · rintro ⟨j, hj, rfl, e⟩
      rw [lvl, rk_init g j hj] at e
      refine ⟨(hgo j hj).2 ?_, by rw [hrep j hj]; omega⟩
      split at e
      · assumption
      · exact absurd e (by decide)
  · have e1 : (openL g).getD j 0 = ((g.moves j).length : Int) := by simp [openL, List.getD_eq_getElem?_getD, hj]
    rw [e1]
    have e2 : ((g.moves j).countP fun m => !(decide (0 ≤ rk (lvl g 0) m) && decide (rk (lvl g 0) m < ((0 : Nat) : Int)))) = (g.moves j).length := by
      rw [List.countP_eq_length]
      intro m _
      simp only [Bool.not_eq_true', Bool.and_eq_false_imp, decide_eq_true_eq, decide_eq_false_iff_not]
      intro h; omega
    rw [e2]
end Go.Vs.Rk
end
/- Ranks decide a game: plain laws. -/
section
set_option linter.unusedVariables false
set_option linter.unusedSimpArgs false
namespace Go.Vs.Rk
/-- Each round gives a rank, or the search is over. -/
theorem over_or (g : G) : ∀ k : Nat, (∃ r, 1 ≤ r ∧ r ≤ k ∧ ∀ i, i < g.n → rk (lvl g r) i ≠ r) ∨ unr g k + k ≤ g.n
  | 0 => .inr (by have := unr_le g 0; omega)
  | k + 1 => by
    rcases over_or g k with ⟨r, h1, h2, h3⟩ | h
    · exact .inl ⟨r, h1, by omega, h3⟩
    · by_cases hno : ∀ i, i < g.n → rk (lvl g (k + 1)) i ≠ (k + 1 : Nat)
      · exact .inl ⟨k + 1, by omega, by omega, hno⟩
      · right
        have hno : ∃ i, i < g.n ∧ rk (lvl g (k + 1)) i = (k + 1 : Nat) := Classical.byContradiction fun hc => hno fun i hi e => hc ⟨i, hi, e⟩
        obtain ⟨j, hj, e⟩ := hno
        have : unr g (k + 1) < unr g k := countP_lt (a := j) (fun i hi hp => by
            simp only [decide_eq_true_eq] at hp ⊢
            exact rk_mono g k i (by simpa using hi) hp) (by simpa using hj) (by
            simp only [decide_eq_true_eq]
            have hr := rk_range g k j hj
            by_cases h0 : 0 ≤ rk (lvl g k) j
            · have := rk_stay g hj h0 1; omega
            · omega) (by simp only [decide_eq_false_iff_not]; omega)
        omega
/-- The last ranks. -/
def last (g : G) : List Int := lvl g (g.n + 1)
theorem last_stable {g : G} (hg : g.ok) : lvl g (g.n + 2) = last g := by
  rcases over_or g (g.n + 1) with ⟨r, h1, h2, h3⟩ | h
  · have a := stable g hg (r := r) (by omega) h3 (g.n + 1 - r)
    have b := stable g hg (r := r) (by omega) h3 (g.n + 2 - r)
    rw [show r + (g.n + 1 - r) = g.n + 1 by omega] at a
    rw [show r + (g.n + 2 - r) = g.n + 2 by omega] at b
    rw [b, last, a]
  · omega
/-- What is not ranked is not hit. -/
theorem last_hit {g : G} (hg : g.ok) {i : Nat} (hi : i < g.n) (hu : rk (last g) i < 0) : hit g (last g) i = false := by
  have e := rk_round g ((g.n + 1 : Nat) + 1) (last g) i (by rw [last, lvl_length]; exact hi)
  have e2 : round g ((g.n + 1 : Nat) + 1) (last g) = lvl g (g.n + 2) := rfl
  rw [e2, last_stable hg, if_neg (by omega)] at e
  cases hh : hit g (last g) i with
  | false => rfl
  | true =>
    rw [hh, if_pos rfl] at e
    have := rk_range g (g.n + 1) i hi
    rw [last] at e hu
    omega
theorem last_unranked {g : G} (hg : g.ok) {i : Nat} (hi : i < g.n) (hu : rk (last g) i < 0) : g.goal i = false ∧ (g.owner i = 0 → ∀ m ∈ g.moves i, rk (last g) m < 0) ∧ (g.owner i = 1 → ∃ m ∈ g.moves i, rk (last g) m < 0) := by
  have hh := last_hit hg hi hu
  refine ⟨?_, fun ho m hm => ?_, fun ho => ?_⟩
  · cases hgo : g.goal i with
    | false => rfl
    | true =>
      have h0 : rk (lvl g 0) i = 0 := by rw [lvl, rk_init g i hi, if_pos hgo]
      have := rk_stay g (r := 0) hi (by omega) (g.n + 1)
      rw [Nat.zero_add, h0] at this
      rw [last] at hu
      omega
  · simp only [hit, ho, decide_true, Bool.true_and, Bool.or_eq_false_iff] at hh
    have := hh.1
    simp only [someB, List.any_eq_false, decide_eq_true_eq] at this
    have := this m hm
    omega
  · simp only [hit, ho, decide_true, Bool.true_and, Bool.or_eq_false_iff] at hh
    have := hh.2
    simp only [everyB, List.all_eq_false, decide_eq_true_eq] at this
    obtain ⟨m, hm, h2⟩ := this
    exact ⟨m, hm, by omega⟩
theorem last_ranked {g : G} (hg : g.ok) {i : Nat} (hi : i < g.n) (hk : 0 < rk (last g) i) : (g.owner i = 0 → ∃ m ∈ g.moves i, rk (last g) m = rk (last g) i - 1) ∧ (g.owner i = 1 → ∀ m ∈ g.moves i, 0 ≤ rk (last g) m ∧ rk (last g) m < rk (last g) i) := by
  obtain ⟨k, hk'⟩ : ∃ k : Nat, rk (last g) i = (k : Int) + 1 := ⟨(rk (last g) i - 1).toNat, by omega⟩
  have hr := rk_range g (g.n + 1) i hi
  have h1 : rk (lvl g (k + 1)) i = (k : Int) + 1 := by
    rw [rk_low g (g.n + 1) i hi (k + 1) (by rw [last] at hk; omega) (by rw [last] at hk'; omega)]
    exact hk'
  have h0 : rk (lvl g k) i < 0 := by
    by_cases h0 : 0 ≤ rk (lvl g k) i
    · have a := rk_stay g hi h0 1
      have b := rk_range g k i hi
      omega
    · omega
  have e := rk_round g ((k : Int) + 1) (lvl g k) i (by rw [lvl_length]; exact hi)
  have e2 : round g ((k : Int) + 1) (lvl g k) = lvl g (k + 1) := rfl
  rw [e2, h1, if_neg (by omega)] at e
  have hh : hit g (lvl g k) i = true := by
    cases hh : hit g (lvl g k) i with
    | true => rfl
    | false => rw [hh] at e; simp at e; omega
  have stay : ∀ m ∈ g.moves i, 0 ≤ rk (lvl g k) m → rk (last g) m = rk (lvl g k) m := fun m hm h => by
    have hmn := hg.mv i hi m hm
    obtain ⟨j, rfl⟩ : ∃ j : Nat, m = j := ⟨m.toNat, by omega⟩
    have := rk_stay g (r := k) (i := j) (by omega) h (g.n + 1 - k)
    rw [show k + (g.n + 1 - k) = g.n + 1 by rw [last] at hk'; omega] at this
    exact this
  refine ⟨fun ho => ?_, fun ho m hm => ?_⟩
  · have hs : someB (lvl g k) (g.moves i) = true := by
      simp only [hit, ho, decide_true, Bool.true_and, Bool.or_eq_true, Bool.and_eq_true, decide_eq_true_eq] at hh
      rcases hh with h | h
      · exact h
      · exact absurd h.1 (by decide)
    simp only [someB, List.any_eq_true, decide_eq_true_eq] at hs
    obtain ⟨m, hm, h2⟩ := hs
    refine ⟨m, hm, ?_⟩
    rw [stay m hm h2, unranked0 g hg hi h0 ho m hm h2]
    omega
  · have hs : everyB (lvl g k) (g.moves i) = true := by
      simp only [hit, ho, decide_true, Bool.true_and, Bool.or_eq_true, Bool.and_eq_true, decide_eq_true_eq] at hh
      rcases hh with h | h
      · exact absurd h.1 (by decide)
      · exact h
    simp only [everyB, List.all_eq_true, decide_eq_true_eq] at hs
    have h2 := hs m hm
    rw [stay m hm h2]
    have hmn := hg.mv i hi m hm
    obtain ⟨j, rfl⟩ : ∃ j : Nat, m = j := ⟨m.toNat, by omega⟩
    have := rk_range g k j (by omega)
    omega
theorem last_goal {g : G} {i : Nat} (hi : i < g.n) : rk (last g) i = 0 ↔ g.goal i = true := by
  constructor
  · intro h
    have a := rk_low g (g.n + 1) i hi 0 (by rw [last] at h; omega) (by rw [last] at h; omega)
    rw [last] at h
    rw [h, lvl, rk_init g i hi] at a
    cases hgo : g.goal i with
    | true => rfl
    | false => rw [hgo] at a; simp at a
  · intro h
    have h0 : rk (lvl g 0) i = 0 := by rw [lvl, rk_init g i hi, if_pos h]
    have := rk_stay g (r := 0) hi (by omega) (g.n + 1)
    rw [Nat.zero_add, h0] at this
    exact this
/-- Two games that differ in their moves alone. -/
structure Like (g h : G) : Prop where
  n : h.n = g.n
  owner : h.owner = g.owner
  goal : h.goal = g.goal
/-- What is ranked stays ranked, where the moves lead down. -/
theorem ranked_in {g h : G} (hg : g.ok) (hk : Like g h) (H : ∀ i, i < g.n → 0 < rk (last g) i → (g.owner i = 0 → ∃ m ∈ h.moves i, (∃ j : Nat, j < g.n ∧ m = j) ∧ 0 ≤ rk (last g) m ∧ rk (last g) m < rk (last g) i) ∧ (g.owner i = 1 → ∀ m ∈ h.moves i, (∃ j : Nat, j < g.n ∧ m = j) ∧ 0 ≤ rk (last g) m ∧ rk (last g) m < rk (last g) i)) :
    ∀ (k i : Nat), i < g.n → rk (last g) i = k → 0 ≤ rk (lvl h k) i := by
  intro k
  induction k using Nat.strongRecOn with
  | ind k ih =>
    intro i hi e
    cases k with
    | zero =>
      have := (last_goal hi).1 (by omega)
      rw [lvl, rk_init h i (by rw [hk.n]; exact hi), hk.goal, if_pos this]
      exact Int.le_refl 0
    | succ k =>
      have e2 := rk_round h ((k : Int) + 1) (lvl h k) i (by rw [lvl_length, hk.n]; exact hi)
      have e3 : round h ((k : Int) + 1) (lvl h k) = lvl h (k + 1) := rfl
      rw [e3] at e2
      rw [e2]
      by_cases h0 : 0 ≤ rk (lvl h k) i
      · rw [if_pos h0]; exact h0
      · rw [if_neg h0]
        have down : ∀ m : Int, (∃ j : Nat, j < g.n ∧ m = j) → 0 ≤ rk (last g) m → rk (last g) m < rk (last g) i → 0 ≤ rk (lvl h k) m := fun m ⟨j, hj, ej⟩ h1 h2 => by
          subst ej
          obtain ⟨q, hq⟩ : ∃ q : Nat, rk (last g) j = q := ⟨(rk (last g) j).toNat, by omega⟩
          have a := ih q (by omega) j hj hq
          have b := rk_stay h (r := q) (i := j) (by rw [hk.n]; exact hj) a (k - q)
          rw [show q + (k - q) = k by omega] at b
          omega
        obtain ⟨H0, H1⟩ := H i hi (by omega)
        have own := hg.own i hi
        have hh : hit h (lvl h k) i = true := by
          simp only [hit, hk.owner]
          rcases own with ho | ho
          · obtain ⟨m, hm, hp, h1, h2⟩ := H0 ho
            simp only [ho, decide_true, Bool.true_and, Bool.or_eq_true]
            left
            simp only [someB, List.any_eq_true, decide_eq_true_eq]
            exact ⟨m, hm, down m hp h1 h2⟩
          · simp only [ho, decide_true, Bool.true_and, Bool.or_eq_true]
            right
            simp only [everyB, List.all_eq_true, decide_eq_true_eq]
            exact fun m hm => down m (H1 ho m hm).1 (H1 ho m hm).2.1 (H1 ho m hm).2.2
        rw [if_pos hh]
        omega
theorem ranked_last {g h : G} (hg : g.ok) (hk : Like g h) (H : ∀ i, i < g.n → 0 < rk (last g) i → (g.owner i = 0 → ∃ m ∈ h.moves i, (∃ j : Nat, j < g.n ∧ m = j) ∧ 0 ≤ rk (last g) m ∧ rk (last g) m < rk (last g) i) ∧ (g.owner i = 1 → ∀ m ∈ h.moves i, (∃ j : Nat, j < g.n ∧ m = j) ∧ 0 ≤ rk (last g) m ∧ rk (last g) m < rk (last g) i)) {i : Nat} (hi : i < g.n) (h0 : 0 ≤ rk (last g) i) : 0 ≤ rk (last h) i := by
  have hr := rk_range g (g.n + 1) i hi
  have a := ranked_in hg hk H (rk (last g) i).toNat i hi (by omega)
  have b := rk_stay h (r := (rk (last g) i).toNat) (i := i) (by rw [hk.n]; exact hi) a (g.n + 1 - (rk (last g) i).toNat)
  rw [show (rk (last g) i).toNat + (g.n + 1 - (rk (last g) i).toNat) = g.n + 1 by rw [last] at h0 ⊢; omega] at b
  rw [last, hk.n, b]
  exact a
/-- What is not ranked does not come to be. -/
theorem unranked_in {g h : G} (hg : g.ok) (hk : Like g h) (H : ∀ i, i < g.n → rk (last g) i < 0 → (g.owner i = 0 → ∀ m ∈ h.moves i, (∃ j : Nat, j < g.n ∧ m = j) ∧ rk (last g) m < 0) ∧ (g.owner i = 1 → ∃ m ∈ h.moves i, (∃ j : Nat, j < g.n ∧ m = j) ∧ rk (last g) m < 0)) :
    ∀ (r i : Nat), i < g.n → rk (last g) i < 0 → rk (lvl h r) i < 0
  | 0, i, hi, hu => by
    have := (last_unranked hg hi hu).1
    rw [lvl, rk_init h i (by rw [hk.n]; exact hi), hk.goal, this]
    simp
  | r + 1, i, hi, hu => by
    have ih := unranked_in hg hk H r
    have e2 := rk_round h ((r : Int) + 1) (lvl h r) i (by rw [lvl_length, hk.n]; exact hi)
    have e3 : round h ((r : Int) + 1) (lvl h r) = lvl h (r + 1) := rfl
    rw [e3] at e2
    have h0 := ih i hi hu
    rw [e2, if_neg (by omega)]
    obtain ⟨H0, H1⟩ := H i hi hu
    have own := hg.own i hi
    have hh : hit h (lvl h r) i = false := by
      simp only [hit, hk.owner]
      rcases own with ho | ho
      · simp only [ho, decide_true, Bool.true_and, show ¬ (0 : Int) = 1 by decide, decide_false, Bool.false_and, Bool.or_false]
        simp only [someB, List.any_eq_false, decide_eq_true_eq]
        intro m hm
        obtain ⟨⟨j, hj, rfl⟩, h2⟩ := H0 ho m hm
        have := ih j hj h2
        omega
      · simp only [ho, decide_true, Bool.true_and, show ¬ (1 : Int) = 0 by decide, decide_false, Bool.false_and, Bool.false_or]
        obtain ⟨m, hm, ⟨j, hj, rfl⟩, h2⟩ := H1 ho
        simp only [everyB, List.all_eq_false, decide_eq_true_eq]
        have := ih j hj h2
        exact ⟨j, hm, by omega⟩
    rw [hh]
    simpa using h0
end Go.Vs.Rk
end
/- The interpreter again, with what goes on behind: each step by definition. -/
section
set_option linter.unusedVariables false
set_option linter.unusedSimpArgs false
namespace Go.Vs
open Go

section
variable {R : Type}
def withV (x : Option PV) (K : PV → Option R) : Option R := x.bind K
/-- An array more. -/
def withN (x : Option Out) (S : Store) (K : PV → Store → Option R) : Option R := x.bind fun o => K o.v (place (freezeAll S o.fz) o.new)
def withE (x : Option Eff) (e : Env) (K : PV → Env → Store → Option R) : Option R := x.bind fun r => K r.v (killE r.kill e) r.S
/-- The store changed; no slot loses what it holds. -/
def withS (x : Option Eff) (K : PV → Store → Option R) : Option R := x.bind fun r => K r.v r.S
/-- The same under a guard. -/
def gval (g : PV) (want : Bool) (x : Option PV) : Option PV := match g with
  | .bool b => if b = want then x else some .skip
  | .skip => some .skip
  | _ => none
def gout (g : PV) (want : Bool) (x : Option Out) : Option Out := match g with
  | .bool b => if b = want then x else some { v := .skip }
  | .skip => some { v := .skip }
  | _ => none
def geff (g : PV) (want : Bool) (S : Store) (x : Option Eff) : Option Eff := match g with
  | .bool b => if b = want then x else some { v := .skip, S }
  | .skip => some { v := .skip, S }
  | _ => none

/-- Operations that give a value and leave the store. -/
def evPure (P : Program) (o : Op) (e : Env) (S : Store) : Option (Option PV) := match o with
  | .load t a => some (evLoad (tyi P t) S (ev e a))
  | .binOp op t x y _ => some (evBin op (tyi P t) (ev e x) (ev e y))
  | .unOp op _ x => some (evUn op (ev e x))
  | .convert s d x => some (if (tyi P s).known then evConvert (tyi P s) (tyi P d) (ev e x) else none)
  | .slice t x lo hi mx => some (if isSlice (tyi P t) = true ∧ (tyi P (elemTy (tyi P t))).known = false then none else evSlice (tyi P t) (tyi P (elemTy (tyi P t))).size S (ev e x) (lo.map (ev e)) (hi.map (ev e)) (mx.map (ev e)))
  | .fieldAddr t x f => some (evFieldAddr (tyi P t) f (ev e x))
  | .field t x f => some (evField (tyi P t) f (ev e x))
  | .indexAddr t x i => some (if isSlice (tyi P t) = true ∧ (tyi P (elemTy (tyi P t))).known = true then evIndexAddr (tyi P (elemTy (tyi P t))).size S (ev e x) (ev e i) else none)
  | _ => none

theorem evPure_spec {P : Program} {cp : CallP} {o : Oper} {e : Env} {S : Store} {nid : Nat} {x : Option PV} (h : evPure P o.op e S = some x) : ev1 P cp o e S nid = x.map (fun v => ({ v } : Out)) := by
  obtain ⟨dst, op, type, pos, after, guard⟩ := o
  cases op <;> simp only [evPure, Option.some.injEq, reduceCtorEq] at h <;> subst h <;> simp only [ev1]
  all_goals (try rfl)
  all_goals (split <;> rfl)
theorem evPure_eff {P : Program} {H : Hints} {o : Oper} {e : Env} {S : Store} {x : Option PV} (h : evPure P o.op e S = some x) : isEff H o e = false := by
  obtain ⟨dst, op, type, pos, after, guard⟩ := o
  cases op <;> simp only [evPure, Option.some.injEq, reduceCtorEq] at h <;> rfl

def pickO (c x y : PV) : Option PV := match c with
  | .bool t => if t = true then some x else some y
  | _ => none
def fillV (fs : List (Nat × Nat × Bool)) : List PV → List (Nat × PV) → Option (List PV)
  | cs, [] => some cs
  | cs, (i, x) :: r => match fs[i]? with
    | some (o, n, _) => if x.cells.length = n ∧ x.cells.all PV.cell ∧ o + n ≤ cs.length then fillV fs (cs.take o ++ x.cells ++ cs.drop (o + n)) r else none
    | none => none
theorem fillV_eq {fs : List (Nat × Nat × Bool)} {ρ : Operand → PV} : ∀ (ps : List (Nat × Operand)) (cs : List PV), fillAll fs ρ cs ps = fillV fs cs (ps.map fun p => (p.1, ρ p.2))
  | [], cs => rfl
  | (i, x) :: r, cs => by
    simp only [fillAll, fillV, List.map_cons]
    cases fs[i]? with
    | none => rfl
    | some q =>
      obtain ⟨o, n, g⟩ := q
      simp only [fillV_eq r]
def buildO (ti : TI) (ps : List (Nat × PV)) : Option PV := match ti.d with
  | .struct fs => ti.zero.bind fun z => if z.all PV.cell ∧ (fs.all fun x => decide (x.2.1 ≠ 0)) then (fillV fs z ps).map fun cs => .agg cs else none
  | _ => none
def lenO (ti : TI) (x : PV) : Option PV := evLen ti x
def extractO (x : PV) (i : Nat) : Option PV := match x with
  | .tup vs => vs[i]?
  | _ => none
def nilCheckO (x : PV) : Option PV := match x with
  | .mp a b c => some (.mp a b c)
  | .cp r => some (.cp r)
  | .fn f a b => some (.fn f a b)
  | _ => none
def indexO (P : Program) (t : TypeId) (x i : PV) : Option PV := match (tyi P t).d with
  | .array n el => if (tyi P el).known then evIndex { d := .array n el, size := (tyi P t).size, bytes := 0, zero := none } (tyi P el).size (tyi P el).isAgg x i else none
  | .str => evIndex { d := .str, size := 0, bytes := 0, zero := none } 0 false x i
  | _ => none
def maxO (xs : List PV) : Option PV := match xs with
  | [.int k a, .int _ b] => some (.int k (if b > a then b else a))
  | _ => none
def minO (xs : List PV) : Option PV := match xs with
  | [.int k a, .int _ b] => some (.int k (if b < a then b else a))
  | _ => none
/-- Operations that give a value and leave the store (all). -/
def evVal (P : Program) (o : Op) (e : Env) (S : Store) : Option (Option PV) := match o with
  | .move x | .assign x => some (some (ev e x))
  | .pick c a b => some (pickO (ev e c) (ev e a) (ev e b))
  | .build t ps => some (buildO (tyi P t) (ps.toList.map fun p => (p.1, ev e p.2)))
  | .makeFunc (.func f) first caps => some (some (.fn f (first.toList.map (ev e)) (caps.toList.map (ev e))))
  | .extract x i => some (extractO (ev e x) i)
  | .nilCheck x => some (nilCheckO (ev e x))
  | .index t x i => some (indexO P t (ev e x) (ev e i))
  | .call c => (match c.callee with
    | .builtin .len => (match c.argTypes[0]?, c.args[0]? with | some t, some x => some (lenO (tyi P t) (ev e x)) | _, _ => none)
    | .builtin .max => some (maxO (c.args.toList.map (ev e)))
    | .builtin .min => some (minO (c.args.toList.map (ev e)))
    | _ => none)
  | o => evPure P o e S
theorem evVal_spec {P : Program} {H : Hints} {cp : CallP} {o : Oper} {e : Env} {S : Store} {nid : Nat} {x : Option PV} (h : evVal P o.op e S = some x) : ev1 P cp o e S nid = x.map (fun v => ({ v } : Out)) ∧ isEff H o e = false := by
  obtain ⟨dst, op, type, pos, after, guard⟩ := o
  cases op <;> try exact ⟨evPure_spec h, evPure_eff h⟩
  all_goals simp only [evVal, Option.some.injEq] at h
  all_goals try (simp only [evPure, reduceCtorEq] at h; done)
  all_goals try (exact ⟨evPure_spec (o := ⟨dst, _, type, pos, after, guard⟩) h, evPure_eff (o := ⟨dst, _, type, pos, after, guard⟩) h⟩)
  case move x => subst h; exact ⟨rfl, rfl⟩
  case assign x => subst h; exact ⟨rfl, rfl⟩
  case pick c a b =>
    subst h
    refine ⟨?_, rfl⟩
    simp only [ev1, pickO]
    generalize ev e c = v
    cases v <;> try rfl
    rename_i t
    cases t <;> rfl
  case build t ps =>
    subst h
    refine ⟨?_, rfl⟩
    simp only [ev1, buildO, fillV_eq]
    generalize (tyi P t).d = dd
    cases dd <;> try rfl
    cases (tyi P t).zero with
    | none => rfl
    | some z =>
      simp only [Option.bind_some]
      split
      · cases fillV _ z _ <;> rfl
      · rfl
  case makeFunc fn first caps =>
    cases fn <;> simp only [reduceCtorEq, Option.some.injEq, evPure] at h
    subst h
    exact ⟨rfl, rfl⟩
  case extract x i =>
    subst h
    refine ⟨?_, rfl⟩
    simp only [ev1, extractO]
    generalize ev e x = v
    cases v <;> rfl
  case nilCheck x =>
    subst h
    refine ⟨?_, rfl⟩
    simp only [ev1, nilCheckO]
    generalize ev e x = v
    cases v <;> rfl
  case index t x i =>
    subst h
    refine ⟨?_, rfl⟩
    simp only [ev1, indexO]
    generalize (tyi P t).d = dd
    cases dd <;> try rfl
    simp only
    split <;> rfl
  case call c =>
    cases hc : c.callee with
    | invoke r m => rw [hc] at h; cases h
    | value f => rw [hc] at h; cases h
    | builtin b =>
      rw [hc] at h
      cases b <;> simp only [reduceCtorEq, Option.some.injEq] at h
      case len =>
        refine ⟨?_, by simp [isEff, hc]⟩
        simp only [ev1, hc]
        split at h
        · rename_i t x ht hx
          simp only [Option.some.injEq] at h
          subst h
          simp only [ht, hx]
          rfl
        · cases h
      case max =>
        refine ⟨?_, by simp [isEff, hc]⟩
        subst h
        simp only [ev1, hc, maxO]
        split
        · rename_i hx; rw [hx]; rfl
        · rename_i hx
          split
          · rename_i hy; exact absurd hy (hx _ _ _ _)
          · rfl
      case min =>
        refine ⟨?_, by simp [isEff, hc]⟩
        subst h
        simp only [ev1, hc, minO]
        split
        · rename_i hx; rw [hx]; rfl
        · rename_i hx
          split
          · rename_i hy; exact absurd hy (hx _ _ _ _)
          · rfl

def allocO (ti : TI) (n : Nat) : Option Out := ti.zero.bind fun z => if z.all PV.cell then some { v := .mp n 0 0, new := some ([z], none) } else none
def buildSliceO (P : Program) (t : TypeId) (n len : Nat) (is : List Nat) (rows : List (List PV)) : Option Out := match (tyi P t).d with
  | .slice el => if is = List.range len ∧ rowsOK (tyi P el).size rows ∧ (rows.all fun r => r.all PV.cell) ∧ len * (tyi P el).size ≤ 16777216 ∧ 0 < (tyi P el).size ∧ (tyi P el).zero.isSome then
      some { v := .msl n 0 len true, new := some (rows, some (some (tyi P el).size)) } else none
  | _ => none
def makeSliceO (P : Program) (t : TypeId) (n : Nat) (l c : PV) : Option Out := match (tyi P t).d, l, c with
  | .slice el, .int _ a, .int _ m => (tyi P el).zero.bind fun z =>
    if 0 ≤ a ∧ a ≤ m ∧ (tyi P el).bytes * m ≤ 281474976710656 ∧ m ≤ 9223372036854775807 ∧ z.length = (tyi P el).size ∧ z.all PV.cell then
      some { v := .msl n 0 a.toNat (decide (a = m)), new := some (List.replicate a.toNat z, some (some (tyi P el).size)) } else none
  | _, _, _ => none
def callO (cp : CallP) (S : Store) (f : FuncId) (as : List PV) : Option Out :=
  if (reach S 8 (as.flatMap PV.refs)).all (fun i => decide (i < S.length)) then (mapO (fzPV S) as).bind fun args => (cp f args).map fun v => { v, fz := reach S 8 (as.flatMap PV.refs) } else none
def callE (C : Ctx) (S : Store) (f : FuncId) (as : List PV) : Option Eff :=
  if C.H.refs f then (C.cr f as S).bind fun (v, S') => if S.length ≤ S'.length then some { v, S := S' } else none
  else (mapO (fzPV S) as).bind fun args => (C.cp f args).map fun v => { v, S := freezeAll S (reach S 8 (as.flatMap PV.refs)) }
def callV (C : Ctx) (S : Store) (f : PV) (as : List PV) : Option Eff := match f with
  | .fn f first caps => callE C S f (first ++ as ++ caps)
  | _ => none
def appendN (P : Program) (t u : TypeId) (S : Store) (n : Nat) (x y : PV) : Option Out := match (tyi P t).d, (tyi P u).d with
  | .slice el, .slice _ => if zeroOK (tyi P el) then evAppendNew (tyi P el).bytes (tyi P el).size S n x y else none
  | _, _ => none
def appendE (P : Program) (base : Nat) (t u : TypeId) (S : Store) (x y : PV) : Option Eff :=
  if exact x = true then (appendN P t u S S.length x y).map fun o => { v := o.v, S := place S o.new }
  else match (tyi P t).d, (tyi P u).d with
    | .slice el, .slice _ => if zeroOK (tyi P el) then evAppend base (tyi P el).bytes (tyi P el).size S x y else none
    | _, _ => none
def copyE (P : Program) (t u : TypeId) (S : Store) (x y : PV) : Option Eff := match (tyi P t).d, (tyi P u).d with
  | .slice el, .slice _ => if (tyi P el).known then evCopy (tyi P el).size S x y else none
  | _, _ => none
def storeE (ti : TI) (S : Store) (a v : PV) : Option Eff := if ti.known then (evStore ti.size S a v).map fun S => { v := .skip, S } else none
/-- What an operation comes to, in one of three forms. -/
inductive OR where
  | val (x : Option PV)
  | out (x : Option Out)
  | eff (x : Option Eff)
  | sto (x : Option Eff)
def evOp (C : Ctx) (o : Op) (e : Env) (S : Store) : OR := match evVal C.P o e S with
  | some x => .val x
  | none => match o with
    | .alloc t => .out (allocO (tyi C.P t) S.length)
    | .box t x => .out (boxed S S.length (tyi C.P t).size (ev e x))
    | .buildSlice t len ps => .out (buildSliceO C.P t S.length len (ps.toList.map (·.1)) (ps.toList.map fun (_, x) => (ev e x).cells))
    | .makeSlice t l c => .out (makeSliceO C.P t S.length (ev e l) (ev e c))
    | .store t a x => .sto (storeE (tyi C.P t) S (ev e a) (ev e x))
    | .call c => (match c.callee with
      | .builtin .append => (match c.argTypes[0]?, c.argTypes[1]?, c.args.toList with
        | some t, some u, [x, y] => .eff (appendE C.P C.base t u S (ev e x) (ev e y))
        | _, _, _ => .out none)
      | .builtin .copy => (match c.argTypes[0]?, c.argTypes[1]?, c.args.toList with
        | some t, some u, [x, y] => .sto (copyE C.P t u S (ev e x) (ev e y))
        | _, _, _ => .out none)
      | .value (.func f) => if C.H.refs f then .sto (callE C S f ([] ++ c.args.toList.map (ev e) ++ [])) else .out (callO C.cp S f ([] ++ c.args.toList.map (ev e) ++ []))
      | .value f => .sto (callV C S (ev e f) (c.args.toList.map (ev e)))
      | _ => .out none)
    | _ => .out none

def OR.step (q : OR) (d : Option Nat) (e : Env) (S : Store) : Option (Env × Store) := match q with
  | .val x => x.map fun v => (putD e d v, S)
  | .out x => x.map fun o => (putD e d o.v, place (freezeAll S o.fz) o.new)
  | .eff x => x.map fun r => (putD (killE r.kill e) d r.v, r.S)
  | .sto x => x.map fun r => (putD e d r.v, r.S)
theorem killE_nil (e : Env) : killE [] e = e := rfl
theorem sto_step {x : Option Eff} (hk : ∀ r, x = some r → r.kill = []) {d : Option Nat} {e : Env} {S : Store} {q : Env × Store} (h : (OR.sto x).step d e S = some q) : x.map (fun r => (putD (killE r.kill e) d r.v, r.S)) = some q := by
  cases x with
  | none => cases h
  | some r =>
    simp only [OR.step, Option.map_some] at h ⊢
    rw [hk r rfl, killE_nil]
    exact h
theorem storeE_kill {ti : TI} {S : Store} {a v : PV} : ∀ r, storeE ti S a v = some r → r.kill = [] := fun r h => by
  unfold storeE at h
  split at h
  · obtain ⟨_, _, rfl⟩ := map_some h; rfl
  · cases h
theorem copyE_kill {P : Program} {t u : TypeId} {S : Store} {x y : PV} : ∀ r, copyE P t u S x y = some r → r.kill = [] := fun r h => by
  unfold copyE at h
  split at h
  · split at h
    · unfold evCopy at h
      split at h
      · split at h
        · obtain ⟨_, _, h⟩ := bind_some h
          split at h
          · cases h; rfl
          · cases h
        · cases h
      · cases h
    · cases h
  · cases h
theorem callE_kill {C : Ctx} {S : Store} {f : FuncId} {l : List PV} : ∀ r, callE C S f l = some r → r.kill = [] := fun r h => by
  unfold callE at h
  split at h
  · obtain ⟨_, _, h⟩ := bind_some h
    dsimp only at h
    split at h
    · cases h; rfl
    · cases h
  · obtain ⟨_, _, h⟩ := bind_some h
    obtain ⟨_, _, rfl⟩ := map_some h
    rfl
theorem callV_kill {C : Ctx} {S : Store} {f : PV} {l : List PV} : ∀ r, callV C S f l = some r → r.kill = [] := fun r h => by
  unfold callV at h
  split at h
  · exact callE_kill r h
  · cases h
theorem evOp_spec {C : Ctx} {o : Oper} {e : Env} {S : Store} {e' : Env} {S' : Store} (h : (evOp C o.op e S).step o.dst e S = some (e', S')) :
    (if isEff C.H o e then (ev2 C o e S).map fun r => (putD (killE r.kill e) o.dst r.v, r.S)
     else (ev1 C.P C.cp o e S S.length).map fun r => (putD e o.dst r.v, place (freezeAll S r.fz) r.new)) = some (e', S') := by
  unfold evOp at h
  cases hv : evVal C.P o.op e S with
  | some x =>
    rw [hv] at h
    simp only [OR.step] at h
    obtain ⟨h1, h2⟩ := evVal_spec (H := C.H) (cp := C.cp) (nid := S.length) hv
    rw [h2, h1]
    simp only [Bool.false_eq_true, if_false, Option.map_map]
    exact h
  | none =>
    rw [hv] at h
    simp only at h
    obtain ⟨dst, op, type, pos, after, guard⟩ := o
    cases op
    case store t a x =>
      dsimp only at h
      have h := sto_step storeE_kill h
      rw [← h]
      simp only [isEff, if_true, ev2, storeE]
    case call c =>
      dsimp only at h
      cases hc : c.callee with
      | invoke r m => rw [hc] at h; cases h
      | value f =>
        rw [hc] at h
        cases f with
        | func f =>
          simp only at h
          by_cases hr : C.H.refs f = true
          · rw [if_pos hr] at h
            have h := sto_step callE_kill h
            simp only [callE, hr, if_true] at h
            simp only [isEff, hc, hr, if_true, ev2, ev]
            exact h
          · rw [if_neg hr] at h
            simp only [callO] at h
            simp only [isEff, hc, hr, if_false, Bool.false_eq_true, ev1, ev]
            exact h
        | _ =>
          have h := sto_step callV_kill h
          simp only [callV, callE] at h
          simp only [isEff, hc, if_true, ev2]
          rw [← h]
          rfl
      | builtin b =>
        rw [hc] at h
        cases b <;> try (simp only [OR.step, Option.map_none, reduceCtorEq] at h; done)
        case append =>
          cases ht : c.argTypes[0]? with
          | none => simp only [ht, OR.step, Option.map_none, reduceCtorEq] at h
          | some t =>
          cases hu : c.argTypes[1]? with
          | none => simp only [ht, hu, OR.step, Option.map_none, reduceCtorEq] at h
          | some u =>
          obtain ⟨x, y, hargs⟩ : ∃ x y, c.args.toList = [x, y] := by
            rcases hl : c.args.toList with _ | ⟨x, _ | ⟨y, _ | ⟨z, l⟩⟩⟩
            · simp only [ht, hu, hl, OR.step, Option.map_none, reduceCtorEq] at h
            · simp only [ht, hu, hl, OR.step, Option.map_none, reduceCtorEq] at h
            · exact ⟨x, y, rfl⟩
            · simp only [ht, hu, hl, OR.step, Option.map_none, reduceCtorEq] at h
          simp only [ht, hu, hargs, OR.step] at h
          have ha : c.args[0]? = some x := by rw [← Array.getElem?_toList, hargs]; rfl
          simp only [appendE] at h
          by_cases hx : exact (ev e x) = true
          · rw [if_pos hx] at h
            simp only [isEff, hc, ha, hx, Bool.not_true, Bool.false_eq_true, if_false, ev1, ht, hu, hargs]
            simp only [appendN, Option.map_map] at h
            rw [← h]
            generalize (tyi C.P t).d = d1
            generalize (tyi C.P u).d = d2
            cases d1 <;> try rfl
            cases d2 <;> try rfl
            simp only
            split
            · rename_i el _ _
              cases hq : evAppendNew (tyi C.P el).bytes (tyi C.P el).size S S.length (ev e x) (ev e y) with
              | none => rfl
              | some o =>
                have hfz : o.fz = [] := by
                  unfold evAppendNew at hq
                  rw [if_pos hx] at hq
                  obtain ⟨_, _, hq⟩ := bind_some hq
                  obtain ⟨_, _, hq⟩ := bind_some hq
                  split at hq
                  · split at hq
                    · split at hq <;> (cases hq; rfl)
                    · cases hq; rfl
                  · cases hq
                simp only [Option.map_some, hfz, Function.comp, killE_nil]
                rfl
            · rfl
          · rw [if_neg hx] at h
            have hx' : exact (ev e x) = false := by simpa using hx
            simp only [isEff, hc, ha, hx', Bool.not_false, if_true, ev2, ht, hu, hargs]
            exact h
        case copy =>
          cases ht : c.argTypes[0]? with
          | none => simp only [ht, OR.step, Option.map_none, reduceCtorEq] at h
          | some t =>
          cases hu : c.argTypes[1]? with
          | none => simp only [ht, hu, OR.step, Option.map_none, reduceCtorEq] at h
          | some u =>
          obtain ⟨x, y, hargs⟩ : ∃ x y, c.args.toList = [x, y] := by
            rcases hl : c.args.toList with _ | ⟨x, _ | ⟨y, _ | ⟨z, l⟩⟩⟩
            · simp only [ht, hu, hl, OR.step, Option.map_none, reduceCtorEq] at h
            · simp only [ht, hu, hl, OR.step, Option.map_none, reduceCtorEq] at h
            · exact ⟨x, y, rfl⟩
            · simp only [ht, hu, hl, OR.step, Option.map_none, reduceCtorEq] at h
          simp only [ht, hu, hargs] at h
          have h := sto_step copyE_kill h
          simp only [isEff, hc, if_true, ev2, ht, hu, hargs]
          exact h
    all_goals simp only [OR.step, Option.map_none, reduceCtorEq] at h
    case alloc t => exact h
    case box t x => exact h
    case buildSlice t len ps =>
      rw [← h]
      simp only [isEff, Bool.false_eq_true, if_false, ev1, buildSliceO]
      generalize (tyi C.P t).d = dd
      cases dd <;> rfl
    case makeSlice t l c => exact h

def runC (C : Ctx) (ops : Array Oper) : List Oper → Env → Store → (Env → Store → Option R) → Option R
  | [], e, S, K => K e S
  | o :: r, e, S, K => match o.guard with
    | none => (match evOp C o.op e S with
      | .val x => withV x fun v => runC C ops r (putD e o.dst v) S K
      | .out x => withN x S fun v S => runC C ops r (putD e o.dst v) S K
      | .eff x => withE x e fun v e S => runC C ops r (putD e o.dst v) S K
      | .sto x => withS x fun v S => runC C ops r (putD e o.dst v) S K)
    | some (j, want) => (match (ops[j]?).bind (·.dst) with
      | none => runC C ops r (putD e o.dst .skip) S K
      | some t => (match evOp C o.op e S with
        | .val x => withV (gval (get e t) want x) fun v => runC C ops r (putD e o.dst v) S K
        | .out x => withN (gout (get e t) want x) S fun v S => runC C ops r (putD e o.dst v) S K
        | .eff x => withE (geff (get e t) want S x) e fun v e S => runC C ops r (putD e o.dst v) S K
        | .sto x => withS (geff (get e t) want S x) fun v S => runC C ops r (putD e o.dst v) S K))

/-- What the twin comes to, the interpreter comes to. -/
theorem runC_sound {C : Ctx} {ops : Array Oper} : ∀ (l : List Oper) {e : Env} {S : Store} {K : Env → Store → Option R} {z : R}, runC C ops l e S K = some z → ∃ e' S', runOps C ops l e S = some (e', S') ∧ K e' S' = some z
  | [], e, S, K, z, h => ⟨e, S, rfl, h⟩
  | o :: r, e, S, K, z, h => by
    have fin : ∀ {e1 : Env} {S1 : Store}, stepOp C ops o e S = some (e1, S1) → runC C ops r e1 S1 K = some z → ∃ e' S', runOps C ops (o :: r) e S = some (e', S') ∧ K e' S' = some z := fun hs hr => by
      obtain ⟨e', S', h1, h2⟩ := runC_sound r hr
      exact ⟨e', S', by simp only [runOps, hs, Option.bind_some, h1], h2⟩
    have yes : ∀ {e1 : Env} {S1 : Store}, wantedV ops e o = some true → (evOp C o.op e S).step o.dst e S = some (e1, S1) → stepOp C ops o e S = some (e1, S1) := fun hw hs => by
      simp only [stepOp, hw, Option.bind_some, if_true]
      exact evOp_spec hs
    have no : wantedV ops e o = some false → stepOp C ops o e S = some (putD e o.dst .skip, S) := fun hw => by
      simp only [stepOp, hw, Option.bind_some, Bool.false_eq_true, if_false]
    simp only [runC] at h
    cases hg : o.guard with
    | none =>
      rw [hg] at h
      simp only at h
      have hw : wantedV ops e o = some true := by simp only [wantedV, hg]
      cases hq : evOp C o.op e S with
      | val x =>
        rw [hq] at h
        obtain ⟨v, h1, h2⟩ := bind_some h
        exact fin (yes hw (by rw [hq]; simp only [OR.step, h1, Option.map_some])) h2
      | out x =>
        rw [hq] at h
        obtain ⟨v, h1, h2⟩ := bind_some h
        exact fin (yes hw (by rw [hq]; simp only [OR.step, h1, Option.map_some])) h2
      | eff x =>
        rw [hq] at h
        obtain ⟨v, h1, h2⟩ := bind_some h
        exact fin (yes hw (by rw [hq]; simp only [OR.step, h1, Option.map_some])) h2
      | sto x =>
        rw [hq] at h
        obtain ⟨v, h1, h2⟩ := bind_some h
        exact fin (yes hw (by rw [hq]; simp only [OR.step, h1, Option.map_some])) h2
    | some p =>
      obtain ⟨j, want⟩ := p
      rw [hg] at h
      simp only at h
      cases ht : (ops[j]?).bind (·.dst) with
      | none =>
        rw [ht] at h
        exact fin (no (by simp only [wantedV, hg, ht])) h
      | some t =>
        rw [ht] at h
        simp only at h
        have hw : wantedV ops e o = (match get e t with | .bool b => some (b == want) | .skip => some false | _ => none) := by
          simp only [wantedV, hg, ht]
          cases get e t <;> rfl
        cases hq : evOp C o.op e S with
        | val x =>
          rw [hq] at h
          obtain ⟨v, h1, h2⟩ := bind_some h
          cases hv : get e t <;> rw [hv] at h1 hw <;> simp only [gval, reduceCtorEq, Option.some.injEq] at h1
          case skip => subst h1; exact fin (no hw) h2
          case bool b =>
            split at h1
            · rename_i hb
              exact fin (yes (by rw [hw, hb]; simp) (by rw [hq]; simp only [OR.step, h1, Option.map_some])) h2
            · rename_i hb
              simp only [Option.some.injEq] at h1
              subst h1
              exact fin (no (by rw [hw]; simp [hb])) h2
        | out x =>
          rw [hq] at h
          obtain ⟨v, h1, h2⟩ := bind_some h
          cases hv : get e t <;> rw [hv] at h1 hw <;> simp only [gout, reduceCtorEq, Option.some.injEq] at h1
          case skip => subst h1; exact fin (no hw) h2
          case bool b =>
            split at h1
            · rename_i hb
              exact fin (yes (by rw [hw, hb]; simp) (by rw [hq]; simp only [OR.step, h1, Option.map_some])) h2
            · rename_i hb
              simp only [Option.some.injEq] at h1
              subst h1
              exact fin (no (by rw [hw]; simp [hb])) h2
        | eff x =>
          rw [hq] at h
          obtain ⟨v, h1, h2⟩ := bind_some h
          cases hv : get e t <;> rw [hv] at h1 hw <;> simp only [geff, reduceCtorEq, Option.some.injEq] at h1
          case skip => subst h1; exact fin (no hw) h2
          case bool b =>
            split at h1
            · rename_i hb
              exact fin (yes (by rw [hw, hb]; simp) (by rw [hq]; simp only [OR.step, h1, Option.map_some])) h2
            · rename_i hb
              simp only [Option.some.injEq] at h1
              subst h1
              exact fin (no (by rw [hw]; simp [hb])) h2
        | sto x =>
          rw [hq] at h
          obtain ⟨v, h1, h2⟩ := bind_some h
          cases hv : get e t <;> rw [hv] at h1 hw <;> simp only [geff, reduceCtorEq, Option.some.injEq] at h1
          case skip => subst h1; exact fin (no hw) h2
          case bool b =>
            split at h1
            · rename_i hb
              exact fin (yes (by rw [hw, hb]; simp) (by rw [hq]; simp only [OR.step, h1, Option.map_some])) h2
            · rename_i hb
              simp only [Option.some.injEq] at h1
              subst h1
              exact fin (no (by rw [hw]; simp [hb])) h2
end
end Go.Vs
end
/- The interpreter with what goes on behind: code and calls. -/
section
set_option linter.unusedVariables false
set_option linter.unusedSimpArgs false
namespace Go.Vs
open Go

section
variable {R : Type}
def condC (v : PV) (x y : Option R) : Option R := match v with
  | .bool t => if t = true then x else y
  | _ => none
def loopC (body : (Vs.X → Env → Store → Option R) → Env → Store → Option R) (norm : Env → Store → Option (Env × Store)) (K : Vs.X → Env → Store → Option R) : Nat → Env → Store → Option R
  | 0, _, _ => none
  | n + 1, e, S => body (fun r e S => match r with
    | .normal => (norm e S).bind fun q => loopC body norm K n q.1 q.2
    | .exit i => K (.exit i) e S
    | .ret => K .ret e S) e S
def seqC (K' : Env → Store → Option R) (K : Vs.X → Env → Store → Option R) : Vs.X → Env → Store → Option R
  | .normal, e, S => K' e S
  | .exit i, e, S => K (.exit i) e S
  | .ret, e, S => K .ret e S
def blockC (id : Nat) (K : Vs.X → Env → Store → Option R) : Vs.X → Env → Store → Option R
  | .exit i, e, S => if i = id then K .normal e S else K (.exit i) e S
  | .normal, e, S => K .normal e S
  | .ret, e, S => K .ret e S
def afterC (b n : Nat) (after : List Nat) (K : Vs.X → Env → Store → Option R) : Vs.X → Env → Store → Option R
  | .exit i, e, S => if i = b then K (.exit i) (keepOnly after e) (gc n (keepOnly after e) S) else K (.exit i) e S
  | .normal, e, S => K .normal e S
  | .ret, e, S => K .ret e S
end

/-- What stands behind a function's body. -/
def endC (P : Program) (fn : Func) (x : Vs.X) (e : Env) (S : Store) : Option (PV × Store) := match x with
  | .exit _ => none
  | .normal => (evResults P fn e S).map fun v => (v, S)
  | .ret => (evResults P fn e S).map fun v => (v, S)
end Go.Vs
end
/- The interpreter without fuel: what calls and loops come to in the end. -/
section
set_option linter.unusedVariables false
set_option linter.unusedSimpArgs false
namespace Go.Vs
open Go

/-! ### What holds in the end -/
section
variable {α β : Type}
def Evt (f : Nat → α) (z : α) : Prop := ∃ k0, ∀ k, k0 ≤ k → f k = z
theorem Evt.unique {f : Nat → α} {y z : α} (h : Evt f y) (g : Evt f z) : y = z := by
  obtain ⟨a, ha⟩ := h
  obtain ⟨b, hb⟩ := g
  rw [← ha (max a b) (by omega), hb (max a b) (by omega)]
theorem Evt.const (z : α) : Evt (fun _ => z) z := ⟨0, fun _ _ => rfl⟩
theorem Evt.map {f : Nat → α} {z : α} (h : Evt f z) (g : α → β) : Evt (fun k => g (f k)) (g z) := by
  obtain ⟨a, ha⟩ := h
  exact ⟨a, fun k hk => by simp only [ha k hk]⟩
theorem Evt.bind {f : Nat → Option α} {g : Nat → α → Option β} {y : α} {z : Option β} (h : Evt f (some y)) (k : Evt (fun n => g n y) z) : Evt (fun n => (f n).bind (g n)) z := by
  obtain ⟨a, ha⟩ := h
  obtain ⟨b, hb⟩ := k
  exact ⟨max a b, fun n hn => by simp only [ha n (by omega), Option.bind_some, hb n (by omega)]⟩
theorem Evt.succ {f : Nat → α} {z : α} (h : Evt (fun k => f (k + 1)) z) : Evt f z := by
  obtain ⟨a, ha⟩ := h
  refine ⟨a + 1, fun k hk => ?_⟩
  obtain ⟨m, rfl⟩ : ∃ m, k = m + 1 := ⟨k - 1, by omega⟩
  exact ha m (by omega)
open Classical in
noncomputable def lim (f : Nat → Option α) : Option α := if h : ∃ z, Evt f (some z) then some h.choose else none
theorem lim_of {f : Nat → Option α} {z : Option α} (h : Evt f z) : lim f = z := by
  unfold lim
  split
  · rename_i hq
    exact (hq.choose_spec).unique h
  · rename_i hq
    cases z with
    | none => rfl
    | some z => exact absurd ⟨z, h⟩ hq
theorem lim_some {f : Nat → Option α} {z : α} (h : lim f = some z) : Evt f (some z) := by
  unfold lim at h
  split at h
  · rename_i hq
    cases h
    exact hq.choose_spec
  · cases h
end

/-! ### Calls -/
noncomputable def callRL (P : Program) (H : Hints) (f : FuncId) (args : List PV) (S : Store) : Option (PV × Store) := lim fun k => callF P H k f args S
noncomputable def callL (P : Program) (H : Hints) (f : FuncId) (args : List PV) : Option PV := (callRL P H f args []).bind fun r => fzPV r.2 r.1
theorem callL_evt {P : Program} {H : Hints} {f : FuncId} {args : List PV} {v : PV} (h : callL P H f args = some v) : Evt (fun k => callP P H k f args) (some v) := by
  obtain ⟨r, h1, h2⟩ := bind_some h
  rw [← h2]
  exact (lim_some h1).map fun x => x.bind fun r => fzPV r.2 r.1
/-- What a law asks for. -/
theorem callP_of {P : Program} {H : Hints} {f : FuncId} {args : List PV} {v : PV} (h : callL P H f args = some v) : ∃ n, callP P H n f args = some v := by
  obtain ⟨k, hk⟩ := callL_evt h
  exact ⟨k, hk k (Nat.le_refl _)⟩
noncomputable def ctxL (P : Program) (H : Hints) (base : Nat) (h : Hint) : Ctx := { P, H, cp := callL P H, cr := callRL P H, base, h }
def ctxK (P : Program) (H : Hints) (base : Nat) (h : Hint) (k : Nat) : Ctx := { P, H, cp := fun g as => (callF P H k g as []).bind fun (r, S) => fzPV S r, cr := callF P H k, base, h }

/-! ### Code -/
section
variable {R : Type}
noncomputable def loopL (body : (Vs.X → Env → Store → Option R) → Env → Store → Option R) (norm : Env → Store → Option (Env × Store)) (K : Vs.X → Env → Store → Option R) (e : Env) (S : Store) : Option R := lim fun n => loopC body norm K n e S
noncomputable def execL (C : Ctx) : Nat → Code → (Vs.X → Env → Store → Option R) → Env → Store → Option R
  | _, .skip, K, e, S => K .normal e S
  | _, .region id ops draw, K, e, S =>
    if draw = true then (if (drawOK ops (kindS C.H ops) || drawOK ops (fun j => (kindsOf C ops ops.toList e S).getD j 0)) = true then runC C ops ops.toList e S (fun e S => K .normal (trim (C.h.at id) e) S) else none)
    else runC C ops ops.toList e S (fun e S => K .normal (trim (C.h.at id) e) S)
  | b, .seq x y, K, e, S => execL C b x (seqC (fun e S => execL C b y K e S) K) e S
  | b, .cond c x y, K, e, S => condC (ev e c) (execL C b x K e S) (execL C b y K e S)
  | _, .block id body, K, e, S => execL C id body (blockC id K) e S
  | b, .loop body, K, e, S =>
    (C.h.loops.lookup b).bind fun h =>
    (fzSlots h.fz (ownAll h.own (keepOnly h.live e) S).1 (ownAll h.own (keepOnly h.live e) S).2).bind fun r =>
    loopL (fun K e S => execL C b body K e S) (normG h.live h.fz r.2.length) (afterC b r.2.length h.after K) r.1 r.2
  | _, .exit id, K, e, S => K (.exit id) e S
  | _, .ret, K, e, S => K .ret e S
  | _, _, _, _, _ => none

def LinR (F : (Env → Store → Option R) → Option R) : Prop := ∀ K z, F K = some z → ∃ e S, K e S = some z ∧ ∀ K', F K' = K' e S
def Lin (F : (Vs.X → Env → Store → Option R) → Option R) : Prop := ∀ K z, F K = some z → ∃ x e S, K x e S = some z ∧ ∀ K', F K' = K' x e S

theorem lin_runC (C : Ctx) (ops : Array Oper) : ∀ (l : List Oper) (e : Env) (S : Store), LinR (R := R) fun K => runC C ops l e S K
  | [], e, S, K, z, h => ⟨e, S, h, fun _ => rfl⟩
  | o :: r, e, S, K, z, h => by
    simp only [runC] at h ⊢
    split at h
    · split at h
      · obtain ⟨v, h1, h2⟩ := bind_some h
        subst h1
        exact lin_runC C ops r _ _ K z h2
      · obtain ⟨v, h1, h2⟩ := bind_some h
        subst h1
        exact lin_runC C ops r _ _ K z h2
      · obtain ⟨v, h1, h2⟩ := bind_some h
        subst h1
        exact lin_runC C ops r _ _ K z h2
      · obtain ⟨v, h1, h2⟩ := bind_some h
        subst h1
        exact lin_runC C ops r _ _ K z h2
    · split at h
      · rename_i ht
        exact lin_runC C ops r _ _ K z h
      · rename_i ht
        split at h
        · obtain ⟨v, h1, h2⟩ := bind_some h
          simp only [h1, withV, Option.bind_some]
          exact lin_runC C ops r _ _ K z h2
        · obtain ⟨v, h1, h2⟩ := bind_some h
          simp only [h1, withN, Option.bind_some]
          exact lin_runC C ops r _ _ K z h2
        · obtain ⟨v, h1, h2⟩ := bind_some h
          simp only [h1, withE, Option.bind_some]
          exact lin_runC C ops r _ _ K z h2
        · obtain ⟨v, h1, h2⟩ := bind_some h
          simp only [h1, withS, Option.bind_some]
          exact lin_runC C ops r _ _ K z h2

theorem lin_loopC {body : (Vs.X → Env → Store → Option R) → Env → Store → Option R} (hb : ∀ e S, Lin fun K => body K e S) {norm : Env → Store → Option (Env × Store)} : ∀ (n : Nat) (K : Vs.X → Env → Store → Option R) (e : Env) (S : Store) (z : R), loopC body norm K n e S = some z → ∃ x e' S', K x e' S' = some z ∧ ∀ K', loopL body norm K' e S = K' x e' S'
  | 0, K, e, S, z, h => by cases h
  | n + 1, K, e, S, z, h => by
    simp only [loopC] at h
    obtain ⟨x, e1, S1, h1, h2⟩ := hb e S _ _ h
    dsimp only at h2
    cases x with
    | normal =>
      simp only at h1
      obtain ⟨q, h3, h4⟩ := bind_some h1
      obtain ⟨x, e2, S2, h5, h6⟩ := lin_loopC hb n K _ _ z h4
      refine ⟨x, e2, S2, h5, fun K' => ?_⟩
      rw [← h6 K']
      unfold loopL
      cases hl : lim fun n => loopC body norm K' n q.1 q.2 with
      | some y =>
        refine lim_of (Evt.succ ?_)
        simp only [loopC, h2, h3, Option.bind_some]
        exact lim_some hl
      | none =>
        cases hl' : lim fun n => loopC body norm K' n e S with
        | none => rfl
        | some y =>
          have := lim_some hl'
          have h7 : Evt (fun n => loopC body norm K' n q.1 q.2) (some y) := by
            obtain ⟨k, hk⟩ := this
            refine ⟨k, fun m hm => ?_⟩
            have := hk (m + 1) (by omega)
            simp only [loopC, h2, h3, Option.bind_some] at this
            exact this
          rw [lim_of h7] at hl
          cases hl
    | exit i =>
      refine ⟨.exit i, e1, S1, h1, fun K' => lim_of (Evt.succ ?_)⟩
      simp only [loopC, h2]
      exact .const _
    | ret =>
      refine ⟨.ret, e1, S1, h1, fun K' => lim_of (Evt.succ ?_)⟩
      simp only [loopC, h2]
      exact .const _
theorem lin_loopL {body : (Vs.X → Env → Store → Option R) → Env → Store → Option R} (hb : ∀ e S, Lin fun K => body K e S) (norm : Env → Store → Option (Env × Store)) (e : Env) (S : Store) : Lin fun K => loopL body norm K e S := fun K z h => by
  obtain ⟨n, hn⟩ := lim_some h
  exact lin_loopC hb n K e S z (hn n (Nat.le_refl _))

theorem lin_execL (C : Ctx) : ∀ (c : Code) (b : Nat) (e : Env) (S : Store), Lin (R := R) fun K => execL C b c K e S := by
  intro c
  induction c with
  | skip => intro b e S K z h; exact ⟨_, _, _, h, fun _ => rfl⟩
  | region id ops draw =>
    intro b e S K z h
    simp only [execL] at h ⊢
    split at h
    · split at h
      · rename_i hd
        simp only [hd, if_true]
        obtain ⟨e', S', h1, h2⟩ := lin_runC C ops _ _ _ _ _ h
        exact ⟨_, _, _, h1, fun K' => by rw [if_pos (by assumption)]; exact h2 _⟩
      · cases h
    · rename_i hd
      obtain ⟨e', S', h1, h2⟩ := lin_runC C ops _ _ _ _ _ h
      exact ⟨_, _, _, h1, fun K' => by rw [if_neg hd]; exact h2 _⟩
  | seq p q ihp ihq =>
    intro b e S K z h
    simp only [execL] at h ⊢
    obtain ⟨x, e1, S1, h1, h2⟩ := ihp b e S _ _ h
    dsimp only at h2
    cases x with
    | normal =>
      obtain ⟨x, e2, S2, h3, h4⟩ := ihq b e1 S1 _ _ h1
      dsimp only at h4
      exact ⟨x, e2, S2, h3, fun K' => by rw [h2]; exact h4 K'⟩
    | exit i => exact ⟨_, _, _, h1, fun K' => by rw [h2]; rfl⟩
    | ret => exact ⟨_, _, _, h1, fun K' => by rw [h2]; rfl⟩
  | cond o p q ihp ihq =>
    intro b e S K z h
    simp only [execL] at h ⊢
    cases hv : ev e o <;> rw [hv] at h <;> simp only [condC, reduceCtorEq] at h
    rename_i t
    cases t with
    | true =>
      simp only [if_true] at h
      obtain ⟨x, e1, S1, h1, h2⟩ := ihp b e S _ _ h
      dsimp only at h2
      exact ⟨x, e1, S1, h1, fun K' => by simp only [condC, if_true]; exact h2 K'⟩
    | false =>
      simp only [Bool.false_eq_true, if_false] at h
      obtain ⟨x, e1, S1, h1, h2⟩ := ihq b e S _ _ h
      dsimp only at h2
      exact ⟨x, e1, S1, h1, fun K' => by simp only [condC, Bool.false_eq_true, if_false]; exact h2 K'⟩
  | block id body ih =>
    intro b e S K z h
    simp only [execL] at h ⊢
    obtain ⟨x, e1, S1, h1, h2⟩ := ih id e S _ _ h
    dsimp only at h2
    cases x with
    | normal => exact ⟨_, _, _, h1, fun K' => by rw [h2]; rfl⟩
    | ret => exact ⟨_, _, _, h1, fun K' => by rw [h2]; rfl⟩
    | exit i =>
      simp only [blockC] at h1
      by_cases hi : i = id
      · rw [if_pos hi] at h1
        exact ⟨_, _, _, h1, fun K' => by rw [h2]; simp only [blockC, if_pos hi]⟩
      · rw [if_neg hi] at h1
        exact ⟨_, _, _, h1, fun K' => by rw [h2]; simp only [blockC, if_neg hi]⟩
  | loop body ih =>
    intro b e S K z h
    simp only [execL] at h ⊢
    obtain ⟨hh, h1, h⟩ := bind_some h
    obtain ⟨r, h2, h⟩ := bind_some h
    simp only [h1, h2, Option.bind_some]
    obtain ⟨x, e1, S1, h3, h4⟩ := lin_loopL (fun e S => ih b e S) _ _ _ _ _ h
    dsimp only at h4
    cases x with
    | normal => exact ⟨_, _, _, h3, fun K' => by rw [h4]; rfl⟩
    | ret => exact ⟨_, _, _, h3, fun K' => by rw [h4]; rfl⟩
    | exit i =>
      simp only [afterC] at h3
      by_cases hi : i = b
      · rw [if_pos hi] at h3
        exact ⟨_, _, _, h3, fun K' => by rw [h4]; simp only [afterC, if_pos hi]⟩
      · rw [if_neg hi] at h3
        exact ⟨_, _, _, h3, fun K' => by rw [h4]; simp only [afterC, if_neg hi]⟩
  | exit id => intro b e S K z h; exact ⟨_, _, _, h, fun _ => rfl⟩
  | ret => intro b e S K z h; exact ⟨_, _, _, h, fun _ => rfl⟩
  | _ => intro b e S K z h; simp [execL] at h

/-- A loop, once. -/
def stepC (norm : Env → Store → Option (Env × Store)) (K : Vs.X → Env → Store → Option R) (again : Env → Store → Option R) : Vs.X → Env → Store → Option R
  | .normal, e, S => (norm e S).bind fun q => again q.1 q.2
  | .exit i, e, S => K (.exit i) e S
  | .ret, e, S => K .ret e S
theorem loopL_step {C : Ctx} {b : Nat} {c : Code} {norm : Env → Store → Option (Env × Store)} {K : Vs.X → Env → Store → Option R} {e : Env} {S : Store} {z : R}
    (h : execL C b c (stepC norm K (loopL (fun K e S => execL C b c K e S) norm K)) e S = some z) : loopL (fun K e S => execL C b c K e S) norm K e S = some z := by
  obtain ⟨x, e1, S1, h1, h2⟩ := lin_execL C c b e S _ _ h
  dsimp only at h2
  refine lim_of (Evt.succ ?_)
  simp only [loopC, h2]
  cases x with
  | normal =>
    simp only [stepC] at h1
    obtain ⟨q, h3, h4⟩ := bind_some h1
    simp only [h3, Option.bind_some]
    exact lim_some h4
  | exit i => exact ⟨0, fun _ _ => h1⟩
  | ret => exact ⟨0, fun _ _ => h1⟩
end

end Go.Vs
end

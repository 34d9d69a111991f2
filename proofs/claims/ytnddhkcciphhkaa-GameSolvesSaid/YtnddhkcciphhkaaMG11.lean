/- The ranks of a game, found from the goals backwards, are those found round by round: plain laws. -/

import Derived.Test.YtnddhkcciphhkaaMG10
section
set_option linter.unusedVariables false
set_option linter.unusedSimpArgs false
namespace Go.Vs.Rk
/-- The positions with a move to q. -/
def predL (g : G) (q : Int) : List Int := ((List.range g.n).filter fun i => decide (q ∈ g.moves i)).map fun i : Nat => (i : Int)
/-- A position of the game. -/
def Pos (g : G) (x : Int) : Prop := ∃ j : Nat, j < g.n ∧ x = j
/-- A position whose count of open moves decreases. -/
def ev (g : G) (R : List Int) (s : List Int × List Int) (i : Int) : List Int × List Int :=
  if 0 ≤ rk R i then s else (s.1.set i.toNat (s.1.getD i.toNat 0 - 1), if g.owner i.toNat = 0 ∨ s.1.getD i.toNat 0 - 1 = 0 then s.2 ++ [i] else s.2)
theorem ev_len (g : G) (R : List Int) (s : List Int × List Int) (i : Int) : (ev g R s i).1.length = s.1.length := by unfold ev; split <;> simp
theorem evs_len (g : G) (R : List Int) : ∀ (E : List Int) (s : List Int × List Int), (E.foldl (ev g R) s).1.length = s.1.length
  | [], s => rfl
  | e :: E, s => by rw [List.foldl_cons, evs_len g R E, ev_len]
theorem getD_set {l : List Int} {i j : Nat} {v : Int} (h : j < l.length) : (l.set i v).getD j 0 = if i = j then v else l.getD j 0 := by
  simp only [List.getD_eq_getElem?_getD, List.getElem?_set]
  split
  · rename_i e; subst e; simp [h]
  · rfl
theorem evs_open (g : G) (R : List Int) : ∀ (E : List Int), (∀ x ∈ E, Pos g x) → ∀ (s : List Int × List Int), s.1.length = g.n → ∀ j : Nat, j < g.n →
    (E.foldl (ev g R) s).1.getD j 0 = s.1.getD j 0 - (if 0 ≤ rk R j then 0 else (E.count (j : Int) : Int))
  | [], _, s, hs, j, hj => by simp
  | e :: E, hE, s, hs, j, hj => by
    obtain ⟨i, hi, rfl⟩ := hE e (by simp)
    rw [List.foldl_cons, evs_open g R E (fun x hx => hE x (by simp [hx])) _ (by rw [ev_len]; exact hs) j hj]
    have e1 : (ev g R s (i : Int)).1.getD j 0 = if 0 ≤ rk R i then s.1.getD j 0 else if i = j then s.1.getD j 0 - 1 else s.1.getD j 0 := by
      unfold ev
      split
      · rfl
      · simp only [Int.toNat_natCast]
        rw [getD_set (by omega)]
        split
        · rename_i e; rw [e]
        · rfl
    rw [e1]
    by_cases hij : i = j
    · subst hij
      rw [List.count_cons_self]
      split <;> simp_all <;> omega
    · have : ¬ ((i : Int) = (j : Int)) := by omega
      rw [List.count_cons_of_ne this]
      split <;> simp_all
theorem evs_next (g : G) (R : List Int) : ∀ (E : List Int), (∀ x ∈ E, Pos g x) → ∀ (s : List Int × List Int), s.1.length = g.n → (∀ j : Nat, j < g.n → rk R j < 0 → (E.count (j : Int) : Int) ≤ s.1.getD j 0) → ∀ j : Nat, j < g.n →
    ((j : Int) ∈ (E.foldl (ev g R) s).2 ↔ (j : Int) ∈ s.2 ∨ (rk R j < 0 ∧ (j : Int) ∈ E ∧ (g.owner j = 0 ∨ s.1.getD j 0 = (E.count (j : Int) : Int))))
  | [], _, s, hs, hO, j, hj => by simp
  | e :: E, hE, s, hs, hO, j, hj => by
    obtain ⟨i, hi, rfl⟩ := hE e (by simp)
    have hE' := fun x (hx : x ∈ E) => hE x (by simp [hx])
    rw [List.foldl_cons]
    by_cases hri : 0 ≤ rk R i
    · have e1 : ev g R s (i : Int) = s := by unfold ev; rw [if_pos hri]
      have hO' : ∀ j : Nat, j < g.n → rk R j < 0 → (E.count (j : Int) : Int) ≤ s.1.getD j 0 := fun j hj hr => by
        have := hO j hj hr
        by_cases hij : i = j
        · subst hij; omega
        · rwa [List.count_cons_of_ne (by omega)] at this
      rw [e1, evs_next g R E hE' s hs hO' j hj]
      by_cases hij : i = j
      · subst hij
        constructor
        · rintro (h | ⟨h, _⟩)
          · exact .inl h
          · omega
        · rintro (h | ⟨h, _⟩)
          · exact .inl h
          · omega
      · have hne : ¬ (i : Int) = (j : Int) := by omega
        rw [List.count_cons_of_ne hne, List.mem_cons]
        have : ¬ (j : Int) = (i : Int) := by omega
        simp only [this, false_or]
    · have e1 : ev g R s (i : Int) = (s.1.set i (s.1.getD i 0 - 1), if g.owner i = 0 ∨ s.1.getD i 0 - 1 = 0 then s.2 ++ [(i : Int)] else s.2) := by
        unfold ev; rw [if_neg hri]; simp only [Int.toNat_natCast]
      have hO' : ∀ j : Nat, j < g.n → rk R j < 0 → (E.count (j : Int) : Int) ≤ (ev g R s (i : Int)).1.getD j 0 := fun j hj hr => by
        have := hO j hj hr
        rw [e1]
        simp only
        rw [getD_set (by omega)]
        by_cases hij : i = j
        · subst hij
          rw [List.count_cons_self] at this
          rw [if_pos rfl]; omega
        · rw [List.count_cons_of_ne (by omega)] at this
          rwa [if_neg hij]
      rw [evs_next g R E hE' _ (by rw [ev_len]; exact hs) hO' j hj, e1]
      simp only
      rw [getD_set (by omega)]
      by_cases hij : i = j
      · subst hij
        have hc := hO i hi (by omega)
        rw [List.count_cons_self] at hc ⊢
        rw [if_pos rfl]
        by_cases hpush : g.owner i = 0 ∨ s.1.getD i 0 - 1 = 0
        · rw [if_pos hpush]
          simp only [List.mem_append, List.mem_singleton, or_true, true_or, List.mem_cons, true_and, true_iff]
          right
          refine ⟨by omega, ?_⟩
          rcases hpush with h | h
          · exact .inl h
          · right; omega
        · rw [if_neg hpush]
          simp only [List.mem_cons, true_or, true_and]
          constructor
          · rintro (h | ⟨h1, h2, h3⟩)
            · exact .inl h
            · refine .inr ⟨h1, ?_⟩
              rcases h3 with h3 | h3
              · exact .inl h3
              · right; omega
          · rintro (h | ⟨h1, h3⟩)
            · exact .inl h
            · rcases h3 with h3 | h3
              · exact absurd (.inl h3) hpush
              · have hmem : (i : Int) ∈ E := by
                  rw [← List.count_pos_iff]
                  by_cases h0 : 0 < E.count (i : Int)
                  · exact h0
                  · exfalso; exact hpush (.inr (by omega))
                exact .inr ⟨h1, hmem, .inr (by omega)⟩
      · have hne : ¬ (i : Int) = (j : Int) := by omega
        have hne2 : ¬ (j : Int) = (i : Int) := by omega
        rw [if_neg hij, List.count_cons_of_ne hne, List.mem_cons]
        simp only [hne2, false_or]
        split
        · simp only [List.mem_append, List.mem_singleton, hne2, or_false]
        · exact Iff.rfl
/-- A position gets rank k. -/
def lev (k : Int) (s : List Int × List Int) (i : Int) : List Int × List Int := if rk s.1 i < 0 then (s.1.set i.toNat k, s.2 ++ [i]) else s
theorem rk_set {R : List Int} {i j : Nat} {k : Int} (h : j < R.length) : rk (R.set i k) j = if i = j then k else rk R j := by
  simp only [rk, Int.toNat_natCast, List.getD_eq_getElem?_getD, List.getElem?_set]
  split
  · rename_i e; subst e; simp [h]
  · rfl
theorem levs (n : Nat) (k : Int) (hk : 0 ≤ k) : ∀ (l : List Int), (∀ x ∈ l, ∃ j : Nat, j < n ∧ x = j) → ∀ (R Q : List Int), R.length = n →
    ∃ Qn, (l.foldl (lev k) (R, Q)).2 = Q ++ Qn ∧ Qn.Nodup ∧ (l.foldl (lev k) (R, Q)).1.length = n ∧ (∀ x, x ∈ Qn ↔ x ∈ l ∧ rk R x < 0) ∧ (∀ j : Nat, j < n → rk (l.foldl (lev k) (R, Q)).1 j = if rk R j < 0 ∧ (j : Int) ∈ l then k else rk R j)
  | [], _, R, Q, hR => ⟨[], by simp, List.nodup_nil, hR, by simp, by simp⟩
  | e :: l, hl, R, Q, hR => by
    obtain ⟨i, hi, rfl⟩ := hl e (by simp)
    have hl' := fun x (hx : x ∈ l) => hl x (by simp [hx])
    rw [List.foldl_cons]
    by_cases hr : rk R i < 0
    · have e1 : lev k (R, Q) (i : Int) = (R.set i k, Q ++ [(i : Int)]) := by unfold lev; rw [if_pos hr]; simp only [Int.toNat_natCast]
      rw [e1]
      obtain ⟨Qn, a1, a2, a3, a4, a5⟩ := levs n k hk l hl' (R.set i k) (Q ++ [(i : Int)]) (by simpa using hR)
      have hrs : ∀ x ∈ l, rk (R.set i k) x = if x = (i : Int) then k else rk R x := fun x hx => by
        obtain ⟨j, hj, rfl⟩ := hl' x hx
        rw [rk_set (by omega)]
        by_cases h : i = j
        · subst h; simp
        · rw [if_neg h, if_neg (by omega)]
      refine ⟨(i : Int) :: Qn, by rw [a1]; simp, ?_, a3, fun x => ?_, fun j hj => ?_⟩
      · refine List.nodup_cons.2 ⟨fun hx => ?_, a2⟩
        have := (a4 _).1 hx
        rw [hrs _ this.1, if_pos rfl] at this
        omega
      · rw [List.mem_cons, List.mem_cons, a4]
        constructor
        · rintro (h | ⟨h1, h2⟩)
          · subst h; exact ⟨.inl rfl, hr⟩
          · rw [hrs x h1] at h2
            split at h2
            · omega
            · exact ⟨.inr h1, h2⟩
        · rintro ⟨h1, h2⟩
          rcases h1 with h1 | h1
          · exact .inl h1
          · by_cases hx : x = (i : Int)
            · exact .inl hx
            · refine .inr ⟨h1, ?_⟩
              rw [hrs x h1, if_neg hx]; exact h2
      · rw [a5 j hj, rk_set (by omega)]
        by_cases h : i = j
        · subst h
          simp only [if_true, List.mem_cons, true_or, and_true]
          rw [if_pos hr, if_neg (by omega)]
        · have hne : ¬ (j : Int) = (i : Int) := by omega
          simp only [if_neg h, List.mem_cons, hne, false_or]
    · have e1 : lev k (R, Q) (i : Int) = (R, Q) := by unfold lev; rw [if_neg hr]
      rw [e1]
      obtain ⟨Qn, a1, a2, a3, a4, a5⟩ := levs n k hk l hl' R Q hR
      refine ⟨Qn, a1, a2, a3, fun x => ?_, fun j hj => ?_⟩
      · rw [a4, List.mem_cons]
        constructor
        · rintro ⟨h1, h2⟩; exact ⟨.inr h1, h2⟩
        · rintro ⟨h1, h2⟩
          rcases h1 with h1 | h1
          · subst h1; exact absurd h2 hr
          · exact ⟨h1, h2⟩
      · rw [a5 j hj]
        by_cases h : i = j
        · subst h
          simp only [hr, false_and, if_false]
        · have hne : ¬ (j : Int) = (i : Int) := by omega
          simp only [List.mem_cons, hne, false_or]
theorem nodup_moves {g : G} (hg : g.ok) {j : Nat} (hj : j < g.n) : (g.moves j).Nodup := (hg.inc j hj).imp fun h => by omega
theorem mem_predL (g : G) (q x : Int) : x ∈ predL g q ↔ ∃ j : Nat, j < g.n ∧ x = j ∧ q ∈ g.moves j := by
  simp only [predL, List.mem_map, List.mem_filter, List.mem_range, decide_eq_true_eq]
  constructor
  · rintro ⟨j, ⟨h1, h2⟩, rfl⟩; exact ⟨j, h1, rfl, h2⟩
  · rintro ⟨j, h1, rfl, h2⟩; exact ⟨j, ⟨h1, h2⟩, rfl⟩
theorem count_predL (g : G) (q : Int) {j : Nat} (hj : j < g.n) : (predL g q).count (j : Int) = if q ∈ g.moves j then 1 else 0 := by
  have hn : (predL g q).Nodup := by
    unfold predL
    refine List.Pairwise.map _ (fun a b h => ?_) (List.Pairwise.filter _ List.nodup_range)
    intro e
    exact h (by omega)
  split
  · rename_i h
    rw [hn.count, if_pos ((mem_predL g q _).2 ⟨j, hj, rfl, h⟩)]
  · rename_i h
    rw [List.count_eq_zero]
    intro hm
    obtain ⟨i, _, e, hi⟩ := (mem_predL g q _).1 hm
    have : i = j := by omega
    subst this
    exact h hi
theorem count_flat (g : G) {j : Nat} (hj : j < g.n) : ∀ Q : List Int, (Q.flatMap (predL g)).count (j : Int) = Q.countP fun q => decide (q ∈ g.moves j)
  | [] => rfl
  | q :: Q => by
    rw [List.flatMap_cons, List.count_append, count_predL g q hj, count_flat g hj Q, List.countP_cons]
    by_cases h : q ∈ g.moves j
    · simp [h]; omega
    · simp [h]
/-- What is known at level r. -/
structure St (g : G) (r : Nat) (O Q : List Int) : Prop where
  olen : O.length = g.n
  nodup : Q.Nodup
  mem : ∀ x, x ∈ Q ↔ ∃ j : Nat, j < g.n ∧ x = j ∧ rk (lvl g r) j = r
  opn : ∀ j : Nat, j < g.n → rk (lvl g r) j < 0 → O.getD j 0 = (((g.moves j).countP fun m => !(decide (0 ≤ rk (lvl g r) m) && decide (rk (lvl g r) m < r)) : Nat) : Int)
theorem count_level {g : G} (hg : g.ok) {r : Nat} {O Q : List Int} (h : St g r O Q) {j : Nat} (hj : j < g.n) : Q.countP (fun q => decide (q ∈ g.moves j)) = (g.moves j).countP fun m => decide (rk (lvl g r) m = r) := by
  rw [List.countP_eq_length_filter, List.countP_eq_length_filter]
  refine List.Perm.length_eq ((List.perm_ext_iff_of_nodup (h.nodup.filter _) ((nodup_moves hg hj).filter _)).2 fun x => ?_)
  simp only [List.mem_filter, decide_eq_true_eq]
  constructor
  · rintro ⟨h1, h2⟩
    obtain ⟨i, _, rfl, h3⟩ := (h.mem x).1 h1
    exact ⟨h2, h3⟩
  · rintro ⟨h1, h2⟩
    have := hg.mv j hj x h1
    exact ⟨(h.mem x).2 ⟨x.toNat, by omega, by omega, by rw [show ((x.toNat : Nat) : Int) = x by omega]; exact h2⟩, h1⟩
theorem count_split {g : G} (hg : g.ok) (r : Nat) {j : Nat} (hj : j < g.n) : ∀ l : List Int, (∀ m ∈ l, 0 ≤ m ∧ m < g.n) → (l.countP fun m => !(decide (0 ≤ rk (lvl g r) m) && decide (rk (lvl g r) m < r))) = (l.countP fun m => decide (rk (lvl g r) m = r)) + l.countP fun m => decide (rk (lvl g r) m < 0)
  | [], _ => rfl
  | m :: l, hl => by
    rw [List.countP_cons, List.countP_cons, List.countP_cons, count_split hg r hj l fun x hx => hl x (by simp [hx])]
    have hm := hl m (by simp)
    have hr := rk_range g r m.toNat (by omega)
    rw [show ((m.toNat : Nat) : Int) = m by omega] at hr
    by_cases h0 : rk (lvl g r) m < 0
    · have h1 : ¬ 0 ≤ rk (lvl g r) m := by omega
      have h2 : ¬ rk (lvl g r) m = r := by omega
      simp [h0, h1, h2]; omega
    · have h1 : 0 ≤ rk (lvl g r) m := by omega
      by_cases h2 : rk (lvl g r) m = r
      · have h3 : ¬ rk (lvl g r) m < (r : Int) := by omega
        have h4 : ¬ ((r : Int) < 0) := by omega
        simp [h0, h1, h2, h3, h4]; omega
      · have h3 : rk (lvl g r) m < (r : Int) := by omega
        simp [h0, h1, h2, h3]
theorem step {g : G} (hg : g.ok) {r : Nat} {O Q one : List Int} (hone : ∀ x, x ∈ one ↔ ∃ j : Nat, j < g.n ∧ x = j ∧ g.goal j = false ∧ g.owner j = 1 ∧ g.moves j = []) (h : St g r O Q) (QA : List Int) :
    ∃ Qn, (((if r = 0 then ((Q.flatMap (predL g)).foldl (ev g (lvl g r)) (O, [])).2 ++ one else ((Q.flatMap (predL g)).foldl (ev g (lvl g r)) (O, [])).2).foldl (lev ((r : Int) + 1)) (lvl g r, QA))) = (lvl g (r + 1), QA ++ Qn) ∧ St g (r + 1) ((Q.flatMap (predL g)).foldl (ev g (lvl g r)) (O, [])).1 Qn := by
  have hE : ∀ x ∈ Q.flatMap (predL g), Pos g x := fun x hx => by
    obtain ⟨q, _, hq⟩ := List.mem_flatMap.1 hx
    obtain ⟨j, hj, e, _⟩ := (mem_predL g q x).1 hq
    exact ⟨j, hj, e⟩
  have hcount : ∀ j : Nat, j < g.n → (Q.flatMap (predL g)).count (j : Int) = (g.moves j).countP fun m => decide (rk (lvl g r) m = r) := fun j hj => by rw [count_flat g hj, count_level hg h hj]
  have hmv := fun j hj => hg.mv j hj
  have hopen : ∀ j : Nat, j < g.n → rk (lvl g r) j < 0 → O.getD j 0 = (((g.moves j).countP fun m => decide (rk (lvl g r) m = r) : Nat) : Int) + ((g.moves j).countP fun m => decide (rk (lvl g r) m < 0) : Nat) := fun j hj hu => by
    rw [h.opn j hj hu, count_split hg r hj _ (hmv j hj)]; omega
  have hle : ∀ j : Nat, j < g.n → rk (lvl g r) j < 0 → ((Q.flatMap (predL g)).count (j : Int) : Int) ≤ (O, ([] : List Int)).1.getD j 0 := fun j hj hu => by
    simp only
    rw [hopen j hj hu, hcount j hj]; omega
  have hnext := fun j hj => evs_next g (lvl g r) (Q.flatMap (predL g)) hE (O, []) h.olen hle j hj
  have hop := fun j hj => evs_open g (lvl g r) (Q.flatMap (predL g)) hE (O, []) h.olen j hj
  have hol := evs_len g (lvl g r) (Q.flatMap (predL g)) (O, [])
  -- the list of those that come next
  have hposn : ∀ (E : List Int), (∀ x ∈ E, Pos g x) → ∀ s : List Int × List Int, (∀ x ∈ s.2, Pos g x) → ∀ x ∈ (E.foldl (ev g (lvl g r)) s).2, Pos g x := by
    intro E
    induction E with
    | nil => intro _ s hs; exact hs
    | cons e E ih =>
      intro hE s hs
      rw [List.foldl_cons]
      refine ih (fun x hx => hE x (by simp [hx])) _ fun x hx => ?_
      unfold ev at hx
      split at hx
      · exact hs x hx
      · simp only at hx
        split at hx
        · rcases List.mem_append.1 hx with hx | hx
          · exact hs x hx
          · rw [List.mem_singleton.1 hx]; exact hE e (by simp)
        · exact hs x hx
  generalize hs : (Q.flatMap (predL g)).foldl (ev g (lvl g r)) (O, []) = s at *
  have hpos2 : ∀ x ∈ s.2, Pos g x := by rw [← hs]; exact hposn _ hE _ (by simp)
  have hnx : ∀ x ∈ (if r = 0 then s.2 ++ one else s.2), ∃ j : Nat, j < g.n ∧ x = j := fun x hx => by
    split at hx
    · rcases List.mem_append.1 hx with hx | hx
      · exact hpos2 x hx
      · obtain ⟨j, hj, e, _⟩ := (hone x).1 hx; exact ⟨j, hj, e⟩
    · exact hpos2 x hx
  obtain ⟨Qn, a1, a2, a3, a4, a5⟩ := levs g.n ((r : Int) + 1) (by omega) _ hnx (lvl g r) QA (lvl_length g r)
  -- who comes next is who is hit
  have hhit : ∀ j : Nat, j < g.n → rk (lvl g r) j < 0 → ((j : Int) ∈ (if r = 0 then s.2 ++ one else s.2) ↔ hit g (lvl g r) j = true) := fun j hj hu => by
    have hmem : ((j : Int) ∈ Q.flatMap (predL g)) ↔ ∃ m ∈ g.moves j, rk (lvl g r) m = r := by
      rw [← List.count_pos_iff, hcount j hj, List.countP_pos_iff]
      simp only [decide_eq_true_eq]
    have hO := hopen j hj hu
    have hC := hcount j hj
    have h2 : (j : Int) ∈ s.2 ↔ ((j : Int) ∈ Q.flatMap (predL g) ∧ (g.owner j = 0 ∨ O.getD j 0 = ((Q.flatMap (predL g)).count (j : Int) : Int))) := by
      rw [hnext j hj]
      simp only [List.not_mem_nil, false_or, hu, true_and]
    have hall : O.getD j 0 = ((Q.flatMap (predL g)).count (j : Int) : Int) ↔ everyB (lvl g r) (g.moves j) = true := by
      rw [hO, hC]
      simp only [everyB, List.all_eq_true, decide_eq_true_eq]
      constructor
      · intro e m hm
        have h0 : (g.moves j).countP (fun m => decide (rk (lvl g r) m < 0)) = 0 := by omega
        rw [List.countP_eq_zero] at h0
        have := h0 m hm
        simp only [decide_eq_true_eq] at this
        omega
      · intro e
        have h0 : (g.moves j).countP (fun m => decide (rk (lvl g r) m < 0)) = 0 := by
          rw [List.countP_eq_zero]
          intro m hm
          have := e m hm
          simp only [decide_eq_true_eq]
          omega
        omega
    have hs2 : (j : Int) ∈ s.2 → hit g (lvl g r) j = true := fun hx => by
      obtain ⟨k1, k2⟩ := h2.1 hx
      simp only [hit, Bool.or_eq_true, Bool.and_eq_true, decide_eq_true_eq]
      rcases hg.own j hj with ho | ho
      · left
        refine ⟨ho, ?_⟩
        obtain ⟨m, hm, e⟩ := hmem.1 k1
        simp only [someB, List.any_eq_true, decide_eq_true_eq]
        exact ⟨m, hm, by omega⟩
      · right
        refine ⟨ho, ?_⟩
        rcases k2 with k2 | k2
        · omega
        · exact hall.1 k2
    constructor
    · intro hx
      split at hx
      · rcases List.mem_append.1 hx with hx | hx
        · exact hs2 hx
        · obtain ⟨i, _, e, _, ho, hm⟩ := (hone _).1 hx
          have : i = j := by omega
          subst this
          simp only [hit, Bool.or_eq_true, Bool.and_eq_true, decide_eq_true_eq]
          right
          exact ⟨ho, by rw [hm]; rfl⟩
      · exact hs2 hx
    · intro hh
      simp only [hit, Bool.or_eq_true, Bool.and_eq_true, decide_eq_true_eq] at hh
      have hin : (j : Int) ∈ s.2 → (j : Int) ∈ (if r = 0 then s.2 ++ one else s.2) := fun hx => by
        split
        · exact List.mem_append_left _ hx
        · exact hx
      rcases hh with ⟨ho, hh⟩ | ⟨ho, hh⟩
      · simp only [someB, List.any_eq_true, decide_eq_true_eq] at hh
        obtain ⟨m, hm, h0⟩ := hh
        exact hin (h2.2 ⟨hmem.2 ⟨m, hm, unranked0 g hg hj hu ho m hm h0⟩, .inl ho⟩)
      · by_cases hE0 : (j : Int) ∈ Q.flatMap (predL g)
        · exact hin (h2.2 ⟨hE0, .inr (hall.2 hh)⟩)
        · -- no move of rank r: then r is 0 and there are no moves
          have hno : ∀ m ∈ g.moves j, rk (lvl g r) m ≠ r := fun m hm e => hE0 (hmem.2 ⟨m, hm, e⟩)
          have hev := hh
          simp only [everyB, List.all_eq_true, decide_eq_true_eq] at hev
          have hr : r = 0 := by
            by_cases hr : r = 0
            · exact hr
            · exfalso
              obtain ⟨m, hm, hk⟩ := unranked1 g hg hj hu ho hr
              rcases hk with hk | hk
              · have := hev m hm; omega
              · exact hno m hm hk
          subst hr
          have hnil : g.moves j = [] := by
            cases hm : g.moves j with
            | nil => rfl
            | cons m l =>
              exfalso
              have hmm : m ∈ g.moves j := by rw [hm]; simp
              have h1 := hev m hmm
              have h3 := hno m hmm
              have h4 := hg.mv j hj m hmm
              have h5 := rk_range g 0 m.toNat (by omega)
              rw [show ((m.toNat : Nat) : Int) = m by omega] at h5
              rcases h5 with h5 | h5
              · omega
              · exact h3 (by omega)
          rw [if_pos rfl]
          refine List.mem_append_right _ ((hone _).2 ⟨j, hj, rfl, ?_, ho, hnil⟩)
          have := rk_init g j hj
          rw [show initR g = lvl g 0 from rfl] at this
          rw [this] at hu
          cases hgl : g.goal j with
          | false => rfl
          | true => rw [hgl] at hu; simp at hu
  have hR : ((if r = 0 then s.2 ++ one else s.2).foldl (lev ((r : Int) + 1)) (lvl g r, QA)).1 = lvl g (r + 1) := by
    apply List.ext_getElem (by rw [a3, lvl_length])
    intro j h1 h2'
    have hj : j < g.n := by rw [a3] at h1; exact h1
    have e := a5 j hj
    have e2 := rk_round g ((r : Int) + 1) (lvl g r) j (by rw [lvl_length]; exact hj)
    have e3 : rk ((if r = 0 then s.2 ++ one else s.2).foldl (lev ((r : Int) + 1)) (lvl g r, QA)).1 j = rk (lvl g (r + 1)) j := by
      rw [e, lvl, e2]
      by_cases hu : rk (lvl g r) j < 0
      · have hh := hhit j hj hu
        rw [if_neg (show ¬ 0 ≤ rk (lvl g r) j by omega)]
        by_cases hx : hit g (lvl g r) j = true
        · rw [if_pos ⟨hu, hh.2 hx⟩, if_pos hx]
        · rw [if_neg (fun hy => hx (hh.1 hy.2)), if_neg hx]
      · rw [if_neg (fun hy => hu hy.1), if_pos (by omega)]
    simpa [rk, List.getD_eq_getElem?_getD, a3, lvl_length, hj] using e3
  refine ⟨Qn, Prod.ext hR a1, ⟨hol.trans h.olen, a2, fun x => ?_, fun j hj hu => ?_⟩⟩
  · rw [a4]
    constructor
    · rintro ⟨h1, h2⟩
      obtain ⟨j, hj, rfl⟩ := hnx x h1
      refine ⟨j, hj, rfl, ?_⟩
      rw [lvl, rk_round g _ _ _ (by rw [lvl_length]; exact hj), if_neg (by omega), if_pos ((hhit j hj h2).1 h1)]
      omega
    · rintro ⟨j, hj, rfl, e⟩
      rw [lvl, rk_round g _ _ _ (by rw [lvl_length]; exact hj)] at e
      have hrr := rk_range g r j hj
      by_cases hu : 0 ≤ rk (lvl g r) j
      · rw [if_pos hu] at e; omega
      · rw [if_neg hu] at e
        by_cases hx : hit g (lvl g r) j = true
        · exact ⟨(hhit j hj (by omega)).2 hx, by omega⟩
        · rw [if_neg hx] at e; omega
  · have hu0 : rk (lvl g r) j < 0 := by
      by_cases h0 : 0 ≤ rk (lvl g r) j
      · have := rk_stay g hj h0 1; omega
      · omega
    rw [hop j hj, if_neg (by omega), hcount j hj]
    have := hopen j hj hu0
    simp only at this ⊢
    have e : (g.moves j).countP (fun m => !(decide (0 ≤ rk (lvl g (r + 1)) m) && decide (rk (lvl g (r + 1)) m < ((r + 1 : Nat) : Int)))) = (g.moves j).countP fun m => decide (rk (lvl g r) m < 0) := by
      refine List.countP_congr fun m hm => ?_
      have hmn := hg.mv j hj m hm
      obtain ⟨i, rfl⟩ : ∃ i : Nat, m = i := ⟨m.toNat, by omega⟩
      have hi : i < g.n := by omega
      have hrr := rk_range g r i hi
      have e := rk_round g ((r : Int) + 1) (lvl g r) i (by rw [lvl_length]; exact hi)
      have e' : rk (lvl g (r + 1)) i = _ := e
      simp only [Bool.not_eq_true', Bool.and_eq_false_imp, decide_eq_true_eq, decide_eq_false_iff_not]
      rw [e']
      by_cases h0 : 0 ≤ rk (lvl g r) i
      · rw [if_pos h0]
        constructor
        · intro hx; exfalso; exact hx h0 (by omega)
        · intro hx; omega
      · rw [if_neg h0]
        constructor
        · intro _; omega
        · intro _ hx hy
          split at hx <;> split at hy <;> omega
    rw [e, this]; omega
end Go.Vs.Rk
end
/- The search for ranks: its begin and its end. -/
section
set_option linter.unusedVariables false
set_option linter.unusedSimpArgs false
namespace Go.Vs.Rk
/-- How many positions have no rank. -/
def unr (g : G) (r : Nat) : Nat := (List.range g.n).countP fun j : Nat => decide (rk (lvl g r) (j : Int) < 0)
theorem unr_le (g : G) (r : Nat) : unr g r ≤ g.n := by
  have := List.countP_le_length (p := fun j : Nat => decide (rk (lvl g r) (j : Int) < 0)) (l := List.range g.n)
  simpa [unr] using this
theorem rk_mono (g : G) (r j : Nat) (hj : j < g.n) (h : rk (lvl g (r + 1)) j < 0) : rk (lvl g r) j < 0 := by
  by_cases h0 : 0 ≤ rk (lvl g r) j
  · have := rk_stay g hj h0 1; omega
  · omega
theorem countP_lt {p q : Nat → Bool} {l : List Nat} (hpq : ∀ x ∈ l, p x = true → q x = true) {a : Nat} (ha : a ∈ l) (hq : q a = true) (hp : p a = false) : l.countP p < l.countP q := by
  induction l with
  | nil => cases ha
  | cons x l ih =>
    rw [List.countP_cons, List.countP_cons]
    have hle : l.countP p ≤ l.countP q := List.countP_mono_left fun y hy h => hpq y (by simp [hy]) h
    rcases List.mem_cons.1 ha with rfl | ha
    · rw [hq, hp]; simp; omega
    · have := ih (fun y hy h => hpq y (by simp [hy]) h) ha
      have h2 := hpq x (by simp)
      cases hpx : p x with
      | false => simp; split <;> omega
      | true => rw [h2 hpx]; simp; omega
/-- A level with positions leaves fewer. -/
theorem unr_lt {g : G} {r : Nat} {O Q : List Int} (h : St g (r + 1) O Q) (hQ : Q ≠ []) : unr g (r + 1) < unr g r := by
  obtain ⟨x, hx⟩ := List.exists_mem_of_ne_nil Q hQ
  obtain ⟨j, hj, rfl, e⟩ := (h.mem x).1 hx
  refine countP_lt (a := j) (fun i hi hp => ?_) (by simpa using hj) ?_ ?_
  · simp only [decide_eq_true_eq] at hp ⊢
    exact rk_mono g r i (by simpa using hi) hp
  · simp only [decide_eq_true_eq]
    have hr := rk_range g r j hj
    by_cases h0 : 0 ≤ rk (lvl g r) j
    · have := rk_stay g hj h0 1; omega
    · omega
  · simp only [decide_eq_false_iff_not]; omega
/-- A level without positions is the last. -/
theorem lvl_end {g : G} (hg : g.ok) {r : Nat} {O Q : List Int} (h : St g r O Q) (hr : r ≠ 0) (hQ : Q = []) (hb : r ≤ g.n + 2) (hprev : r = g.n + 2 → lvl g (g.n + 2) = lvl g (g.n + 1)) : lvl g r = lvl g (g.n + 1) := by
  have hno : ∀ i, i < g.n → rk (lvl g r) i ≠ r := fun i hi e => by
    have : (i : Int) ∈ Q := (h.mem _).2 ⟨i, hi, rfl, e⟩
    rw [hQ] at this
    cases this
  by_cases hle : r = g.n + 2
  · subst hle; exact hprev rfl
  · have := stable g hg hr hno (g.n + 1 - r)
    rw [show r + (g.n + 1 - r) = g.n + 1 by omega] at this
    exact this.symm
/-- A level without positions changes nothing. -/
theorem lvl_same {g : G} {r : Nat} {O Q : List Int} (h : St g (r + 1) O Q) (hQ : Q = []) : lvl g (r + 1) = lvl g r := by
  apply List.ext_getElem (by rw [lvl_length, lvl_length])
  intro i h1 h2
  rw [lvl_length] at h1
  have e : rk (lvl g (r + 1)) i = rk (lvl g r) i := by
    have e2 : rk (lvl g (r + 1)) i = _ := rk_round g ((r : Int) + 1) (lvl g r) i (by rw [lvl_length]; exact h1)
    rw [e2]
    by_cases h0 : 0 ≤ rk (lvl g r) i
    · rw [if_pos h0]
    · rw [if_neg h0]
      by_cases hh : hit g (lvl g r) i = true
      · exfalso
        rw [if_neg h0, if_pos hh] at e2
        have : (i : Int) ∈ Q := (h.mem _).2 ⟨i, h1, rfl, by rw [e2]; omega⟩
        rw [hQ] at this
        cases this
      · rw [if_neg hh]
  simpa [rk, List.getD_eq_getElem?_getD, lvl_length, h1] using e
/-- The goals, and the first level. -/
def zeroL (g : G) : List Int := ((List.range g.n).filter fun i => g.goal i).map fun i : Nat => (i : Int)
def oneL (g : G) : List Int := ((List.range g.n).filter fun i => !g.goal i && (decide (g.owner i = 1) && decide (g.moves i = []))).map fun i : Nat => (i : Int)
theorem mem_oneL (g : G) : ∀ x, x ∈ oneL g ↔ ∃ j : Nat, j < g.n ∧ x = j ∧ g.goal j = false ∧ g.owner j = 1 ∧ g.moves j = [] := fun x => by
  simp only [oneL, List.mem_map, List.mem_filter, List.mem_range, Bool.and_eq_true, Bool.not_eq_true', decide_eq_true_eq]
  constructor
  · rintro ⟨j, ⟨h1, h2⟩, rfl⟩; exact ⟨j, h1, rfl, h2⟩
  · rintro ⟨j, h1, rfl, h2⟩; exact ⟨j, ⟨h1, h2⟩, rfl⟩
theorem mem_zeroL (g : G) : ∀ x, x ∈ zeroL g ↔ ∃ j : Nat, j < g.n ∧ x = j ∧ g.goal j = true := fun x => by
  simp only [zeroL, List.mem_map, List.mem_filter, List.mem_range]
  constructor
  · rintro ⟨j, ⟨h1, h2⟩, rfl⟩; exact ⟨j, h1, rfl, h2⟩
  · rintro ⟨j, h1, rfl, h2⟩; exact ⟨j, ⟨h1, h2⟩, rfl⟩
def openL (g : G) : List Int := (List.range g.n).map fun i => ((g.moves i).length : Int)
theorem start (g : G) : ∃ Qn, ((zeroL g).foldl (lev 0) (List.replicate g.n (-1), [])) = (lvl g 0, Qn) ∧ St g 0 (openL g) Qn := by
  obtain ⟨Qn, a1, a2, a3, a4, a5⟩ := levs g.n 0 (by omega) (zeroL g) (fun x hx => by obtain ⟨j, hj, e, _⟩ := (mem_zeroL g x).1 hx; exact ⟨j, hj, e⟩) (List.replicate g.n (-1)) [] (by simp)
  have hrep : ∀ j : Nat, j < g.n → rk (List.replicate g.n (-1)) j = -1 := fun j hj => by simp [rk, List.getD_eq_getElem?_getD, hj]
  have hgo : ∀ j : Nat, j < g.n → ((j : Int) ∈ zeroL g ↔ g.goal j = true) := fun j hj => by
    rw [mem_zeroL]
    constructor
    · rintro ⟨i, _, e, h⟩
      have : i = j := by omega
      subst this; exact h
    · intro h; exact ⟨j, hj, rfl, h⟩
  refine ⟨Qn, Prod.ext ?_ (by simpa using a1), ⟨by simp [openL], a2, fun x => ?_, fun j hj hu => ?_⟩⟩
  · apply List.ext_getElem (by rw [a3, lvl_length])
    intro j h1 h2
    have hj : j < g.n := by rw [a3] at h1; exact h1
    have e := a5 j hj
    have e3 : rk ((zeroL g).foldl (lev 0) (List.replicate g.n (-1), [])).1 j = rk (lvl g 0) j := by
      rw [e, hrep j hj, lvl, rk_init g j hj]
      by_cases hh : g.goal j = true
      · rw [if_pos ⟨by omega, (hgo j hj).2 hh⟩, if_pos hh]
      · rw [if_neg (fun hy => hh ((hgo j hj).1 hy.2)), if_neg hh]
    simpa [rk, List.getD_eq_getElem?_getD, a3, lvl_length, hj] using e3
  · rw [a4]
    constructor
    · rintro ⟨h1, _⟩
      obtain ⟨j, hj, rfl, h⟩ := (mem_zeroL g x).1 h1
      exact ⟨j, hj, rfl, by rw [lvl, rk_init g j hj, if_pos h]; rfl⟩
    · rintro ⟨j, hj, rfl, e⟩
      rw [lvl, rk_init g j hj] at e
      refine ⟨(hgo j hj).2 ?_, by rw [hrep j hj]; omega⟩
      split at e
      · assumption
      · exact absurd e (by decide)
  · have e1 : (openL g).getD j 0 = ((g.moves j).length : Int) := by simp [openL, List.getD_eq_getElem?_getD, hj]
    rw [e1]
    have e2 : ((g.moves j).countP fun m => !(decide (0 ≤ rk (lvl g 0) m) && decide (rk (lvl g 0) m < ((0 : Nat) : Int)))) = (g.moves j).length := by
      rw [List.countP_eq_length]
      intro m _
      simp only [Bool.not_eq_true', Bool.and_eq_false_imp, decide_eq_true_eq, decide_eq_false_iff_not]
      intro h; omega
    rw [e2]
end Go.Vs.Rk
end

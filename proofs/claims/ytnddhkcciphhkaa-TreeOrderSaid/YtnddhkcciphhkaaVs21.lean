/- A region that draws its order (3): any order comes to the same. -/
import Derived.Test.YtnddhkcciphhkaaVs20
set_option linter.unusedVariables false
set_option linter.unusedSimpArgs false
namespace Go.Vs
open Go

theorem Le.of_pt {A A' : Arrs} (h : ∀ id, A id = A' id ∨ ∃ a f, A id = some a ∧ A' id = some ⟨a.rows, a.g, f⟩ ∧ (a.f = true → f = true)) : Le A A' := fun id => by
  rcases h id with h | ⟨a, f, h1, h2, h3⟩
  · rw [h]; exact ⟨_root_.id, fun a h => ⟨a.f, h, _root_.id⟩⟩
  · refine ⟨fun hn => (by rw [hn] at h1; cases h1), fun a' ha => ?_⟩
    rw [h1] at ha; cases ha
    exact ⟨f, h2, h3⟩
theorem frz_comm (A : Arrs) (x y : List Nat) : frz (frz A x) y = frz (frz A y) x := by
  funext id
  simp only [frz_at]
  cases A id with
  | none => rfl
  | some a => simp only [Option.map_some]; split <;> split <;> rfl
theorem frz_out {A : Arrs} {x : List Nat} {id : Nat} (h : id ∉ x) : frz A x id = A id := by
  rw [frz_at]
  have : x.contains id = false := by rw [List.contains_eq_mem]; simpa using h
  rw [this]
  cases A id <;> rfl

section
variable {C : Ctx} {ops : Array Oper} {e : Nat → Env} {S : Nat → Store} {r : Nat → Ef} {kd : Nat → Nat} {D D' : Nat → Bool}

theorem af_agree {i : Nat} (h : ∀ j, j < i → D' j = D j) : ∀ j, j ≤ i → af S r D' j = af S r D j := by
  intro j
  induction j with
  | zero => intro _; rfl
  | succ j ih => intro hj; rw [af_succ, af_succ, h j (by omega), ih (by omega)]

theorem swap_app (hr : Run C ops e S r kd) {i j : Nat} {oi oj : Oper} (hij : i < j) (hoi : ops[i]? = some oi) (hoj : ops[j]? = some oj) (hs : swapOK ops (kd i) (kd j) oi oj = true)
    (hne : ∀ id a, r j = .st id a → (S i).length ≠ (S (i + 1)).length → id ≠ (S i).length) (B : Arrs) : Le ((r i).app ((r j).app B)) ((r j).app ((r i).app B)) := by
  obtain ⟨_, k1, k2, k3, k4⟩ := swapOK_spec hs
  have oki := hr.ok i _ hoi
  have okj := hr.ok j _ hoj
  have hjs := (Array.getElem?_eq_some_iff.1 hoj).1
  have hlen : (S (i + 1)).length ≤ (S j).length := hr.mono hij (by omega)
  cases hi : r i with
  | all B => exact absurd (oki.kindAll (by rw [hi]; rfl)) k1
  | st idi ai =>
    obtain ⟨s1, s2, _⟩ := oki.store hi
    cases hj : r j with
    | all B => exact absurd (okj.kindAll (by rw [hj]; rfl)) k2
    | st idj aj => exact absurd (okj.store hj).1 (k3 s1).2
    | new fz nid nw =>
      obtain ⟨n1, n2, n3, n4, n5⟩ := okj.new hj
      have := n3 (k3 s1).1
      subst this
      simp only [Ef.app, frz_nil]
      cases nw with
      | none => exact .refl _
      | some p =>
        obtain ⟨rows, g⟩ := p
        simp only [placeA]
        have hne' : idi ≠ nid := by rw [n1]; have := oki.len; omega
        refine .of_pt fun id => .inl ?_
        by_cases h1 : id = idi
        · subst h1; rw [upd_same, upd_ne _ _ _ hne', upd_same]
        · rw [upd_ne _ _ _ h1]
          by_cases h2 : id = nid
          · subst h2; rw [upd_same, upd_same]
          · rw [upd_ne _ _ _ h2, upd_ne _ _ _ h2, upd_ne _ _ _ h1]
  | new fzi nidi nwi =>
    obtain ⟨m1, m2, m3, m4, m5⟩ := oki.new hi
    cases hj : r j with
    | all B => exact absurd (okj.kindAll (by rw [hj]; rfl)) k2
    | st idj aj =>
      obtain ⟨s1, s2, _⟩ := okj.store hj
      have := m3 (k4 s1).1
      subst this
      simp only [Ef.app, frz_nil]
      cases nwi with
      | none => exact .refl _
      | some p =>
        obtain ⟨rows, g⟩ := p
        simp only [placeA]
        have hne' : idj ≠ nidi := by rw [m1]; exact hne _ _ hj (by have := m4 (by simp); omega)
        refine .of_pt fun id => .inl ?_
        by_cases h1 : id = idj
        · subst h1; rw [upd_same, upd_ne _ _ _ hne', upd_same]
        · rw [upd_ne _ _ _ h1]
          by_cases h2 : id = nidi
          · subst h2; rw [upd_same, upd_same]
          · rw [upd_ne _ _ _ h2, upd_ne _ _ _ h2, upd_ne _ _ _ h1]
    | new fzj nidj nwj =>
      obtain ⟨n1, n2, n3, n4, n5⟩ := okj.new hj
      have hout : nidj ∉ fzi := fun hm => by have := m2 _ hm; have := oki.len; omega
      cases nwi with
      | none =>
        cases nwj with
        | none => simp only [Ef.app, placeA]; rw [frz_comm]; exact .refl _
        | some q =>
          obtain ⟨rj, gj⟩ := q
          simp only [Ef.app, placeA]
          refine .of_pt fun id => .inl ?_
          by_cases h2 : id = nidj
          · subst h2; rw [frz_out hout, upd_same, upd_same]
          · rw [upd_ne _ _ _ h2, frz_at, upd_ne _ _ _ h2, ← frz_at, frz_comm]
      | some p =>
        obtain ⟨ri, gi⟩ := p
        have hlt : nidi < (S j).length := by have := m4 (by simp); omega
        cases nwj with
        | none =>
          simp only [Ef.app, placeA]
          refine .of_pt fun id => ?_
          by_cases h2 : id = nidi
          · subst h2
            refine .inr ⟨⟨ri, gi, false⟩, fzj.contains id, by rw [upd_same], ?_, by simp⟩
            rw [frz_at, upd_same]
            simp only [Option.map_some]
            cases fzj.contains id <;> rfl
          · refine .inl ?_
            rw [upd_ne _ _ _ h2, frz_comm, frz_at, frz_at (upd _ _ _), upd_ne _ _ _ h2]
        | some q =>
          obtain ⟨rj, gj⟩ := q
          simp only [Ef.app, placeA]
          refine .of_pt fun id => ?_
          by_cases h1 : id = nidj
          · subst h1
            refine .inl ?_
            rw [upd_ne _ _ _ (by omega), frz_out hout, upd_same, upd_same]
          · rw [upd_ne _ nidj _ h1]
            by_cases h2 : id = nidi
            · subst h2
              refine .inr ⟨⟨ri, gi, false⟩, fzj.contains id, by rw [upd_same], ?_, by simp⟩
              rw [frz_at, upd_same]
              simp only [Option.map_some]
              cases fzj.contains id <;> rfl
            · refine .inl ?_
              rw [upd_ne _ _ _ h2, frz_at, upd_ne _ _ _ h1, ← frz_at, frz_comm, frz_at, frz_at (upd _ _ _), upd_ne _ _ _ h2]

theorem af_comm (hr : Run C ops e S r kd) {i : Nat} {oi : Oper} (hoi : ops[i]? = some oi) (hD : D i = false) (hD' : ∀ j, D' j = (D j || j == i)) (hs : ∀ j oj, i < j → D j = true → ops[j]? = some oj → swapOK ops (kd i) (kd j) oi oj = true)
    (hne : ∀ j, i < j → j < ops.size → D j = true → ∀ id a, r j = .st id a → (S i).length ≠ (S (i + 1)).length → id ≠ (S i).length) :
    ∀ j, i + 1 ≤ j → j ≤ ops.size → Le ((r i).app (af S r D j)) (af S r D' j) := by
  intro j hij
  induction hij with
  | refl =>
    intro _
    rw [af_succ, af_succ, hD, hD' i]
    simp only [Bool.false_eq_true, if_false, Bool.false_or, beq_self_eq_true, if_true]
    rw [af_agree (D := D) (D' := D') (i := i) (fun j hj => by rw [hD' j, beq_eq_false_iff_ne.2 (by omega), Bool.or_false]) i (Nat.le_refl _), hD]
    simp only [Bool.false_or, if_true]
    exact .refl _
  | step hij ih =>
    rename_i m
    intro hm
    have ho : ops[m]? = some ops[m] := Array.getElem?_eq_getElem (by omega)
    have hmi : i < m := hij
    have hDm : D' m = D m := by rw [hD' m, beq_eq_false_iff_ne.2 (by omega), Bool.or_false]
    rw [af_succ, af_succ, hDm]
    by_cases hd : D m = true
    · rw [if_pos hd, if_pos hd]
      exact (swap_app hr hmi hoi ho (hs m _ hmi hd ho) (hne m hmi (by omega) hd) _).trans ((ih (by omega)).app_mono _)
    · rw [if_neg hd, if_neg hd]
      exact ih (by omega)

theorem gf_agree {i : Nat} (h : ∀ j, j < i → D' j = D j) (t : Nat) : ∀ j, j ≤ i → gf ops e r D' j t = gf ops e r D j t := by
  intro j
  induction j with
  | zero => intro _; rfl
  | succ j ih => intro hj; rw [gf_succ, gf_succ, h j (by omega), ih (by omega)]
theorem gf_step {i : Nat} {oi : Oper} (hoi : ops[i]? = some oi) (hD : D i = false) (hD' : ∀ j, D' j = (D j || j == i)) (hall : (r i).isAll = false) (hr : Run C ops e S r kd)
    (hs : ∀ j oj, i < j → D j = true → ops[j]? = some oj → swapOK ops (kd i) (kd j) oi oj = true) (t : Nat) : ∀ j, i + 1 ≤ j → j ≤ ops.size → gf ops e r D' j t = if oi.dst = some t then get (e (i + 1)) t else gf ops e r D j t := by
  intro j hij
  induction hij with
  | refl =>
    intro _
    have hd : dstOf ops i = oi.dst := by unfold dstOf; rw [hoi]; rfl
    rw [gf_succ, gf_succ, hD, hD' i, hd, hall]
    simp only [Bool.false_eq_true, if_false, hD, Bool.false_or, beq_self_eq_true, if_true, false_or]
    rw [gf_agree (D := D) (D' := D') (i := i) (fun j hj => by rw [hD' j, beq_eq_false_iff_ne.2 (by omega), Bool.or_false]) t i (Nat.le_refl _)]
  | step hij ih =>
    rename_i m
    intro hm
    have ho : ops[m]? = some ops[m] := Array.getElem?_eq_getElem (by omega)
    have hmi : i < m := hij
    have hDm : D' m = D m := by rw [hD' m, beq_eq_false_iff_ne.2 (by omega), Bool.or_false]
    have hdm : dstOf ops m = ops[m].dst := by unfold dstOf; rw [ho]; rfl
    rw [gf_succ, gf_succ, hDm, hdm, ih (by omega)]
    by_cases hd : D m = true
    · rw [if_pos hd, if_pos hd]
      obtain ⟨hap, k1, k2, _⟩ := swapOK_spec (hs m _ hmi hd ho)
      have hna : (r m).isAll = false := by
        cases hq : (r m).isAll with
        | false => rfl
        | true => exact absurd ((hr.ok m _ ho).kindAll hq) k2
      obtain ⟨_, hdd, _⟩ := Oper.apart_spec hap
      by_cases h1 : ops[m].dst = some t
      · have hnot : ¬ oi.dst = some t := fun h => hdd t h h1
        simp [h1, hnot]
      · simp [hna, h1]
    · rw [if_neg hd, if_neg hd]

/-- No array of this number. -/
def Fresh (S : Nat → Store) (r : Nat → Ef) (N : Nat) (D : Nat → Bool) (μ : Mu) : Prop :=
  ∀ id, (S 0).length ≤ id → (∀ j, j < N → D j = true → ¬ ((S j).length ≤ id ∧ id < (S (j + 1)).length)) → μ id = none ∧ af S r D N id = none
theorem Fresh.undone (hr : Run C ops e S r kd) {μ : Mu} (h : Fresh S r ops.size D μ) {j : Nat} (hj : j < ops.size) (hD : D j = false) (hne : (S j).length ≠ (S (j + 1)).length) : μ (S j).length = none ∧ af S r D ops.size (S j).length = none := by
  refine h _ (hr.mono (Nat.zero_le _) (by omega)) fun k hk hDk hc => ?_
  have h0 := hr.mono (i := j) (j := j + 1) (by omega) (by omega)
  rcases Nat.lt_trichotomy k j with hkj | rfl | hkj
  · have := hr.mono (i := k + 1) (j := j) hkj (by omega); omega
  · rw [hD] at hDk; cases hDk
  · have := hr.mono (i := j + 1) (j := k) hkj (by omega); omega
/-- Between two lengths lies an operation that makes it. -/
theorem maker (hr : Run C ops e S r kd) {id : Nat} (h0 : (S 0).length ≤ id) : ∀ m, m ≤ ops.size → id < (S m).length → ∃ j, j < m ∧ (S j).length ≤ id ∧ id < (S (j + 1)).length := by
  intro m
  induction m with
  | zero => intro _ h; omega
  | succ m ih =>
    intro hm h
    by_cases hl : id < (S m).length
    · obtain ⟨j, h1, h2⟩ := ih (by omega) hl
      exact ⟨j, by omega, h2⟩
    · exact ⟨m, by omega, by omega, h⟩
end
end Go.Vs

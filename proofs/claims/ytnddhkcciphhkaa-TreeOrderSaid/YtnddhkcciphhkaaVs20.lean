/- A region that draws its order (2): the states between. -/
import Derived.Test.YtnddhkcciphhkaaVs19
set_option linter.unusedVariables false
set_option linter.unusedSimpArgs false
namespace Go.Vs
open Go

/-- The run in the text's order: slots, store, what each operation does. -/
structure Run (C : Ctx) (ops : Array Oper) (e : Nat → Env) (S : Nat → Store) (r : Nat → Ef) (kd : Nat → Nat) : Prop where
  ok : ∀ j o, ops[j]? = some o → EfOK C ops o (e j) (S j) (e (j + 1)) (S (j + 1)) (r j) (kd j)
def dstOf (ops : Array Oper) (j : Nat) : Option Nat := (ops[j]?).bind (·.dst)

/-- The slots, when the operations D are done. -/
def gf (ops : Array Oper) (e : Nat → Env) (r : Nat → Ef) (D : Nat → Bool) : Nat → Nat → PV
  | 0, t => get (e 0) t
  | j + 1, t => if D j = true then (if (r j).isAll = true ∨ dstOf ops j = some t then get (e (j + 1)) t else gf ops e r D j t) else gf ops e r D j t
/-- The arrays. -/
def af (S : Nat → Store) (r : Nat → Ef) (D : Nat → Bool) : Nat → Arrs
  | 0 => arrs (S 0)
  | j + 1 => if D j = true then (r j).app (af S r D j) else af S r D j

section
variable {C : Ctx} {ops : Array Oper} {e : Nat → Env} {S : Nat → Store} {r : Nat → Ef} {kd : Nat → Nat} {D : Nat → Bool}

theorem Run.mono (hr : Run C ops e S r kd) {i j : Nat} (h : i ≤ j) (hj : j ≤ ops.size) : (S i).length ≤ (S j).length := by
  induction h with
  | refl => exact Nat.le_refl _
  | step h ih =>
    rename_i m
    exact Nat.le_trans (ih (by omega)) (hr.ok m ops[m] (Array.getElem?_eq_getElem (by omega))).len

theorem gf_succ (j t : Nat) : gf ops e r D (j + 1) t = if D j = true then (if (r j).isAll = true ∨ dstOf ops j = some t then get (e (j + 1)) t else gf ops e r D j t) else gf ops e r D j t := rfl
theorem af_succ (j : Nat) : af S r D (j + 1) = if D j = true then (r j).app (af S r D j) else af S r D j := rfl

/-- The slots that an operation looks at, up to it. -/
theorem gf_lo (hr : Run C ops e S r kd) {i t : Nat} (hi : i ≤ ops.size) (h : ∀ j oj, j < i → ops[j]? = some oj → D j = true ∨ ((r j).isAll = false ∧ oj.dst ≠ some t)) : ∀ j, j ≤ i → gf ops e r D j t = get (e j) t := by
  intro j
  induction j with
  | zero => intro _; rfl
  | succ j ih =>
    intro hj
    have ho : ops[j]? = some ops[j] := Array.getElem?_eq_getElem (by omega)
    have hd : dstOf ops j = ops[j].dst := by unfold dstOf; rw [ho]; rfl
    rw [gf_succ, hd]
    split
    · split
      · rfl
      · rename_i hc
        rw [ih (by omega)]
        exact ((hr.ok j _ ho).get (by simpa using fun h => hc (.inl h)) (fun h => hc (.inr h))).symm
    · rename_i hD
      rcases h j _ (by omega) ho with h1 | ⟨h1, h2⟩
      · exact absurd h1 hD
      · rw [ih (by omega)]
        exact ((hr.ok j _ ho).get h1 h2).symm
theorem gf_hi {i t : Nat} (h : ∀ j oj, i ≤ j → D j = true → ops[j]? = some oj → (r j).isAll = false ∧ oj.dst ≠ some t) : ∀ j, i ≤ j → j ≤ ops.size → gf ops e r D j t = gf ops e r D i t := by
  intro j hij
  induction hij with
  | refl => intro _; rfl
  | step hij ih =>
    rename_i m
    intro hj
    have hm : m < ops.size := by omega
    have ho : ops[m]? = some ops[m] := Array.getElem?_eq_getElem hm
    have hd : dstOf ops m = ops[m].dst := by unfold dstOf; rw [ho]; rfl
    rw [gf_succ, hd, ← ih (by omega)]
    split
    · rename_i hD
      obtain ⟨h1, h2⟩ := h m _ hij hD ho
      rw [if_neg (by simp [h1, h2])]
    · rfl
/-- All done. -/
theorem gf_full (hr : Run C ops e S r kd) (h : ∀ j, j < ops.size → D j = true) (t : Nat) : gf ops e r D ops.size t = get (e ops.size) t :=
  gf_lo hr (Nat.le_refl _) (fun j oj hj ho => .inl (h j hj)) _ (Nat.le_refl _)
theorem af_lo (hr : Run C ops e S r kd) {i : Nat} (hi : i ≤ ops.size) (h : ∀ j, j < i → D j = true) : ∀ j, j ≤ i → af S r D j = arrs (S j) := by
  intro j
  induction j with
  | zero => intro _; rfl
  | succ j ih =>
    intro hj
    rw [af_succ, if_pos (h j (by omega)), ih (by omega)]
    exact (hr.ok j ops[j] (Array.getElem?_eq_getElem (by omega))).arrs.symm
theorem af_hi {i m : Nat} (h : ∀ j, i ≤ j → j < m → D j = false) : ∀ j, i ≤ j → j ≤ m → af S r D j = af S r D i := by
  intro j hij
  induction hij with
  | refl => intro _; rfl
  | step hij ih =>
    rename_i k
    intro hj
    rw [af_succ, h k hij (by omega), ← ih (by omega)]
    simp

/-- What text order says of the arrays that an operation may read: it is so. -/
theorem sees_lo (hr : Run C ops e S r kd) {μ : Mu} {i : Nat} (hi : i ≤ ops.size) (hfr : ∀ j, j < ops.size → D j = false → (S j).length ≠ (S (j + 1)).length → μ (S j).length = none)
    (h : ∀ j oj, j < i → D j = false → ops[j]? = some oj → kd j ≠ 3 ∧ kd j ≠ 4) : ∀ j, j ≤ i → ∀ id a b, arrs (S j) id = some a → μ id = some b → ∃ f, af S r D j id = some ⟨a.rows, a.g, f⟩ := by
  intro j
  induction j with
  | zero => intro _ id a b ha _; exact ⟨a.f, ha⟩
  | succ j ih =>
    intro hj id a b ha hb
    have ho : ops[j]? = some ops[j] := Array.getElem?_eq_getElem (by omega)
    have hok := hr.ok j _ ho
    rw [hok.arrs] at ha
    rw [af_succ]
    have IH := ih (by omega) id
    by_cases hD : D j = true
    · rw [if_pos hD]
      cases hef : r j with
      | all B => rw [hef] at ha; exact ⟨a.f, ha⟩
      | st id0 a0 =>
        rw [hef] at ha
        simp only [Ef.app] at ha ⊢
        by_cases hid : id = id0
        · subst hid; rw [upd_same] at ha ⊢; cases ha; exact ⟨_, rfl⟩
        · rw [upd_ne _ _ _ hid] at ha ⊢; exact IH a b ha hb
      | new fz nid nw =>
        rw [hef] at ha
        simp only [Ef.app] at ha ⊢
        have fzc : ∀ a, frz (arrs (S j)) fz id = some a → ∃ f, frz (af S r D j) fz id = some ⟨a.rows, a.g, f⟩ := fun a ha => by
          obtain ⟨a0, k1, k2, k3⟩ := frz_some ha
          obtain ⟨f, k4⟩ := IH a0 b k1 hb
          rw [frz_at, k4, k2.1, k2.2]
          simp only [Option.map_some]
          split <;> exact ⟨_, rfl⟩
        cases nw with
        | none => exact fzc a ha
        | some p =>
          obtain ⟨rows, g⟩ := p
          simp only [placeA] at ha ⊢
          by_cases hid : id = nid
          · subst hid; rw [upd_same] at ha ⊢; cases ha; exact ⟨_, rfl⟩
          · rw [upd_ne _ _ _ hid] at ha ⊢; exact fzc a ha
    · rw [if_neg hD]
      have hD' : D j = false := by simpa using hD
      obtain ⟨h3, h4⟩ := h j _ (by omega) hD' ho
      cases hef : r j with
      | all B => exact absurd (hok.kindAll (by rw [hef]; rfl)) h4
      | st id0 a0 => exact absurd (hok.store hef).1 h3
      | new fz nid nw =>
        rw [hef] at ha
        obtain ⟨n1, n2, n3, n4, n5⟩ := hok.new hef
        simp only [Ef.app] at ha
        have fzc : ∀ a, frz (arrs (S j)) fz id = some a → ∃ f, af S r D j id = some ⟨a.rows, a.g, f⟩ := fun a ha => by
          obtain ⟨a0, k1, k2, k3⟩ := frz_some ha
          obtain ⟨f, k4⟩ := IH a0 b k1 hb
          rw [k4, k2.1, k2.2]
          exact ⟨_, rfl⟩
        cases nw with
        | none => exact fzc a ha
        | some p =>
          obtain ⟨rows, g⟩ := p
          simp only [placeA] at ha
          by_cases hid : id = nid
          · subst hid
            have := hfr j (by omega) hD' (by have := n4 (by simp); omega)
            rw [← n1, hb] at this
            cases this
          · rw [upd_ne _ _ _ hid] at ha; exact fzc a ha
theorem sees_hi (hr : Run C ops e S r kd) {i : Nat} (h : ∀ j oj, i ≤ j → D j = true → ops[j]? = some oj → kd j ≠ 3 ∧ kd j ≠ 4) {id : Nat} (hid : id < (S i).length) {rows : List (List PV)} {g : Option (Option Nat)} :
    ∀ j, i ≤ j → j ≤ ops.size → (∃ f, af S r D i id = some ⟨rows, g, f⟩) → ∃ f, af S r D j id = some ⟨rows, g, f⟩ := by
  intro j hij
  induction hij with
  | refl => intro _ h; exact h
  | step hij ih =>
    rename_i k
    intro hj h0
    obtain ⟨f, hf⟩ := ih (by omega) h0
    have ho : ops[k]? = some ops[k] := Array.getElem?_eq_getElem (by omega)
    have hok := hr.ok k _ ho
    rw [af_succ]
    split
    · rename_i hD
      obtain ⟨h3, h4⟩ := h k _ hij hD ho
      cases hef : r k with
      | all B => exact absurd (hok.kindAll (by rw [hef]; rfl)) h4
      | st id0 a0 => exact absurd (hok.store hef).1 h3
      | new fz nid nw =>
        obtain ⟨n1, n2, n3, n4, n5⟩ := hok.new hef
        have hne : id ≠ nid := by rw [n1]; have := hr.mono hij (by omega); omega
        have fzc : ∃ f', frz (af S r D k) fz id = some ⟨rows, g, f'⟩ := by
          rw [frz_at, hf]
          simp only [Option.map_some]
          split <;> exact ⟨_, rfl⟩
        cases nw with
        | none => exact fzc
        | some p =>
          obtain ⟨rows', g'⟩ := p
          simp only [Ef.app, placeA]
          rw [upd_ne _ _ _ hne]; exact fzc
    · exact ⟨f, hf⟩

/-- Where a store writes: all is as text order says. -/
theorem same_lo (hr : Run C ops e S r kd) {μ : Mu} {i : Nat} (hi : i ≤ ops.size) (hfr : ∀ j, j < ops.size → D j = false → (S j).length ≠ (S (j + 1)).length → μ (S j).length = none)
    (h : ∀ j oj, j < i → D j = false → ops[j]? = some oj → kd j ≠ 1 ∧ kd j ≠ 3 ∧ kd j ≠ 4) : ∀ j, j ≤ i → ∀ id b, μ id = some b → af S r D j id = arrs (S j) id := by
  intro j
  induction j with
  | zero => intro _ id b _; rfl
  | succ j ih =>
    intro hj id b hb
    have ho : ops[j]? = some ops[j] := Array.getElem?_eq_getElem (by omega)
    have hok := hr.ok j _ ho
    rw [hok.arrs, af_succ]
    have IH := ih (by omega) id b hb
    by_cases hD : D j = true
    · rw [if_pos hD]
      cases hef : r j with
      | all B => rfl
      | st id0 a0 =>
        simp only [Ef.app]
        by_cases hid : id = id0
        · subst hid; rw [upd_same, upd_same]
        · rw [upd_ne _ _ _ hid, upd_ne _ _ _ hid]; exact IH
      | new fz nid nw =>
        simp only [Ef.app]
        have fzc : frz (af S r D j) fz id = frz (arrs (S j)) fz id := by rw [frz_at, frz_at, IH]
        cases nw with
        | none => exact fzc
        | some p =>
          obtain ⟨rows, g⟩ := p
          simp only [placeA]
          by_cases hid : id = nid
          · subst hid; rw [upd_same, upd_same]
          · rw [upd_ne _ _ _ hid, upd_ne _ _ _ hid]; exact fzc
    · rw [if_neg hD]
      have hD' : D j = false := by simpa using hD
      obtain ⟨h1, h3, h4⟩ := h j _ (by omega) hD' ho
      cases hef : r j with
      | all B => exact absurd (hok.kindAll (by rw [hef]; rfl)) h4
      | st id0 a0 => exact absurd (hok.store hef).1 h3
      | new fz nid nw =>
        obtain ⟨n1, n2, n3, n4, n5⟩ := hok.new hef
        have := n3 h1
        subst this
        simp only [Ef.app, frz_nil]
        cases nw with
        | none => exact IH
        | some p =>
          obtain ⟨rows, g⟩ := p
          simp only [placeA]
          by_cases hid : id = nid
          · subst hid
            have := hfr j (by omega) hD' (by have := n4 (by simp); omega)
            rw [← n1, hb] at this
            cases this
          · rw [upd_ne _ _ _ hid]; exact IH
theorem same_hi (hr : Run C ops e S r kd) {i : Nat} (h : ∀ j oj, i ≤ j → D j = true → ops[j]? = some oj → kd j ≠ 1 ∧ kd j ≠ 3 ∧ kd j ≠ 4) {id : Nat} (hid : id < (S i).length) :
    ∀ j, i ≤ j → j ≤ ops.size → af S r D j id = af S r D i id := by
  intro j hij
  induction hij with
  | refl => intro _; rfl
  | step hij ih =>
    rename_i k
    intro hj
    have ho : ops[k]? = some ops[k] := Array.getElem?_eq_getElem (by omega)
    have hok := hr.ok k _ ho
    rw [af_succ, ← ih (by omega)]
    split
    · rename_i hD
      obtain ⟨h1, h3, h4⟩ := h k _ hij hD ho
      cases hef : r k with
      | all B => exact absurd (hok.kindAll (by rw [hef]; rfl)) h4
      | st id0 a0 => exact absurd (hok.store hef).1 h3
      | new fz nid nw =>
        obtain ⟨n1, n2, n3, n4, n5⟩ := hok.new hef
        have := n3 h1
        subst this
        have hne : id ≠ nid := by rw [n1]; have := hr.mono hij (by omega); omega
        simp only [Ef.app, frz_nil]
        cases nw with
        | none => rfl
        | some p =>
          obtain ⟨rows', g'⟩ := p
          simp only [placeA]
          rw [upd_ne _ _ _ hne]
    · rfl

/-- What a later store has written is there. -/
theorem st_there (hr : Run C ops e S r kd) {i : Nat} (h : ∀ j, i ≤ j → j < ops.size → D j = true → (r j).isAll = false) : ∀ j, i ≤ j → j ≤ ops.size → ∀ k id a, i ≤ k → k < j → D k = true → r k = .st id a → ∃ a', af S r D j id = some a' := by
  intro j hij
  induction hij with
  | refl => intro _ k id a h1 h2; omega
  | step hij ih =>
    rename_i m
    intro hj k id a h1 h2 h3 h4
    have keep : ∀ A : Arrs, (∃ a', A id = some a') → ∀ ef : Ef, ef.isAll = false → ∃ a', ef.app A id = some a' := by
      rintro A ⟨a', ha⟩ ef hef
      cases ef with
      | all B => cases hef
      | st id0 a0 =>
        simp only [Ef.app]
        by_cases hid : id = id0
        · subst hid; rw [upd_same]; exact ⟨_, rfl⟩
        · rw [upd_ne _ _ _ hid]; exact ⟨_, ha⟩
      | new fz nid nw =>
        have hf : ∃ a', frz A fz id = some a' := by rw [frz_at, ha]; exact ⟨_, rfl⟩
        cases nw with
        | none => exact hf
        | some p =>
          obtain ⟨rows, g⟩ := p
          simp only [Ef.app, placeA]
          by_cases hid : id = nid
          · subst hid; rw [upd_same]; exact ⟨_, rfl⟩
          · rw [upd_ne _ _ _ hid]; exact hf
    rw [af_succ]
    by_cases hk : k = m
    · subst hk
      rw [if_pos h3, h4]
      simp only [Ef.app, upd_same]
      exact ⟨_, rfl⟩
    · have := ih (by omega) k id a h1 (by omega) h3 h4
      split
      · rename_i hD
        exact keep _ this _ (h m hij (by omega) hD)
      · exact this
end
end Go.Vs

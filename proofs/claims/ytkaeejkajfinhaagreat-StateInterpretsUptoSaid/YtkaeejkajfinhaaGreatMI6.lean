
import Derived.Test.YtkaeejkajfinhaaGreatMI5
section
set_option linter.unusedVariables false
set_option linter.unusedSimpArgs false
namespace Go.Vs
open Go
structure Run (C : Ctx) (ops : Array Oper) (e : Nat → Env) (S : Nat → Store) (r : Nat → Ef) (kd : Nat → Nat) : Prop where
  ok : ∀ j o, ops[j]? = some o → EfOK C ops o (e j) (S j) (e (j + 1)) (S (j + 1)) (r j) (kd j)
def dstOf (ops : Array Oper) (j : Nat) : Option Nat := (ops[j]?).bind (·.dst)
def gf (ops : Array Oper) (e : Nat → Env) (r : Nat → Ef) (D : Nat → Bool) : Nat → Nat → PV
  | 0, t => get (e 0) t
  | j + 1, t => if D j = true then (if (r j).isAll = true ∨ dstOf ops j = some t then get (e (j + 1)) t else gf ops e r D j t) else gf ops e r D j t
def af (S : Nat → Store) (r : Nat → Ef) (D : Nat → Bool) : Nat → Arrs
  | 0 => arrs (S 0)
  | j + 1 => if D j = true then (r j).app (af S r D j) else af S r D j
section
variable {C : Ctx} {ops : Array Oper} {e : Nat → Env} {S : Nat → Store} {r : Nat → Ef} {kd : Nat → Nat} {D : Nat → Bool}
theorem Run.mono (hr : Run C ops e S r kd) {i j : Nat} (h : i ≤ j) (hj : j ≤ ops.size) : (S i).length ≤ (S j).length := by
  induction h with
  | refl => exact Nat.le_refl _
  | step h ih =>
    rename_i m
    exact Nat.le_trans (ih (by omega)) (hr.ok m ops[m] (Array.getElem?_eq_getElem (by omega))).len
theorem gf_succ (j t : Nat) : gf ops e r D (j + 1) t = if D j = true then (if (r j).isAll = true ∨ dstOf ops j = some t then get (e (j + 1)) t else gf ops e r D j t) else gf ops e r D j t := rfl
theorem af_succ (j : Nat) : af S r D (j + 1) = if D j = true then (r j).app (af S r D j) else af S r D j := rfl
theorem gf_lo (hr : Run C ops e S r kd) {i t : Nat} (hi : i ≤ ops.size) (h : ∀ j oj, j < i → ops[j]? = some oj → D j = true ∨ ((r j).isAll = false ∧ oj.dst ≠ some t)) : ∀ j, j ≤ i → gf ops e r D j t = get (e j) t := by
  intro j
  induction j with
  | zero => intro _; rfl
  | succ j ih =>
    intro hj
    have ho : ops[j]? = some ops[j] := Array.getElem?_eq_getElem (by omega)
    have hd : dstOf ops j = ops[j].dst := by unfold dstOf; rw [ho]; rfl
    rw [gf_succ, hd]
    split
    · split
      · rfl
      · rename_i hc
        rw [ih (by omega)]
        exact ((hr.ok j _ ho).get (by simpa using fun h => hc (.inl h)) (fun h => hc (.inr h))).symm
    · rename_i hD
      rcases h j _ (by omega) ho with h1 | ⟨h1, h2⟩
      · exact absurd h1 hD
      · rw [ih (by omega)]
        exact ((hr.ok j _ ho).get h1 h2).symm
theorem gf_hi {i t : Nat} (h : ∀ j oj, i ≤ j → D j = true → ops[j]? = some oj → (r j).isAll = false ∧ oj.dst ≠ some t) : ∀ j, i ≤ j → j ≤ ops.size → gf ops e r D j t = gf ops e r D i t := by
  intro j hij
  induction hij with
  | refl => intro _; rfl
  | step hij ih =>
    rename_i m
    intro hj
    have hm : m < ops.size := by omega
    have ho : ops[m]? = some ops[m] := Array.getElem?_eq_getElem hm
    have hd : dstOf ops m = ops[m].dst := by unfold dstOf; rw [ho]; rfl
    rw [gf_succ, hd, ← ih (by omega)]
    split
    · rename_i hD
      obtain ⟨h1, h2⟩ := h m _ hij hD ho
      rw [if_neg (by simp [h1, h2])]
    · rfl
theorem gf_full (hr : Run C ops e S r kd) (h : ∀ j, j < ops.size → D j = true) (t : Nat) : gf ops e r D ops.size t = get (e ops.size) t :=
  gf_lo hr (Nat.le_refl _) (fun j oj hj ho => .inl (h j hj)) _ (Nat.le_refl _)
theorem af_lo (hr : Run C ops e S r kd) {i : Nat} (hi : i ≤ ops.size) (h : ∀ j, j < i → D j = true) : ∀ j, j ≤ i → af S r D j = arrs (S j) := by
  intro j
  induction j with
  | zero => intro _; rfl
  | succ j ih =>
    intro hj
    rw [af_succ, if_pos (h j (by omega)), ih (by omega)]
    exact (hr.ok j ops[j] (Array.getElem?_eq_getElem (by omega))).arrs.symm
theorem af_hi {i m : Nat} (h : ∀ j, i ≤ j → j < m → D j = false) : ∀ j, i ≤ j → j ≤ m → af S r D j = af S r D i := by
  intro j hij
  induction hij with
  | refl => intro _; rfl
  | step hij ih =>
    rename_i k
    intro hj
    rw [af_succ, h k hij (by omega), ← ih (by omega)]
    simp
theorem sees_lo (hr : Run C ops e S r kd) {μ : Mu} {i : Nat} (hi : i ≤ ops.size) (hfr : ∀ j, j < ops.size → D j = false → (S j).length ≠ (S (j + 1)).length → μ (S j).length = none)
    {id : Nat} (h : ∀ j oj, j < i → D j = false → ops[j]? = some oj → (kd j ≠ 3 ∧ kd j ≠ 4 ∧ kd j ≠ 5 ∧ kd j ≠ 6) ∨ (touch oj (e j) ≠ 0 ∧ (kd j = 1 ∨ kd j = 3) ∧ touch oj (e j) ≠ id + 1)) : ∀ j, j ≤ i → ∀ a b, arrs (S j) id = some a → μ id = some b → ∃ f, af S r D j id = some ⟨a.rows, a.g, f⟩ := by
  intro j
  induction j with
  | zero => intro _ a b ha _; exact ⟨a.f, ha⟩
  | succ j ih =>
    intro hj a b ha hb
    have ho : ops[j]? = some ops[j] := Array.getElem?_eq_getElem (by omega)
    have hok := hr.ok j _ ho
    rw [hok.arrs] at ha
    rw [af_succ]
    have IH := ih (by omega)
    by_cases hD : D j = true
    · rw [if_pos hD]
      cases hef : r j with
      | all B => rw [hef] at ha; exact ⟨a.f, ha⟩
      | call lo B =>
        rw [hef] at ha
        simp only [Ef.app, over] at ha ⊢
        by_cases hc : lo ≤ id ∧ id < B.length
        · rw [if_pos hc] at ha ⊢; exact ⟨a.f, ha⟩
        · rw [if_neg hc] at ha ⊢; exact IH a b ha hb
      | st id0 a0 =>
        rw [hef] at ha
        simp only [Ef.app] at ha ⊢
        by_cases hid : id = id0
        · subst hid; rw [upd_same] at ha ⊢; cases ha; exact ⟨_, rfl⟩
        · rw [upd_ne _ _ _ hid] at ha ⊢; exact IH a b ha hb
      | new fz nid nw =>
        rw [hef] at ha
        simp only [Ef.app] at ha ⊢
        have fzc : ∀ a, frz (arrs (S j)) fz id = some a → ∃ f, frz (af S r D j) fz id = some ⟨a.rows, a.g, f⟩ := fun a ha => by
          obtain ⟨a0, k1, k2, k3⟩ := frz_some ha
          obtain ⟨f, k4⟩ := IH a0 b k1 hb
          rw [frz_at, k4, k2.1, k2.2]
          simp only [Option.map_some]
          split <;> exact ⟨_, rfl⟩
        cases nw with
        | none => exact fzc a ha
        | some p =>
          obtain ⟨rows, g⟩ := p
          simp only [placeA] at ha ⊢
          by_cases hid : id = nid
          · subst hid; rw [upd_same] at ha ⊢; cases ha; exact ⟨_, rfl⟩
          · rw [upd_ne _ _ _ hid] at ha ⊢; exact fzc a ha
    · rw [if_neg hD]
      have hD' : D j = false := by simpa using hD
      rcases h j _ (by omega) hD' ho with ⟨h3, h4, h5, h6⟩ | ⟨h3, h4, h5⟩
      case inr =>
        rcases hok.touched h3 h4 with ⟨nid, q1, _⟩ | ⟨id0, a0, q1, q2⟩
        · rw [q1] at ha
          simp only [Ef.app, frz_nil, placeA] at ha
          exact IH a b ha hb
        · rw [q1] at ha
          simp only [Ef.app] at ha
          rw [upd_ne _ _ _ (by omega)] at ha
          exact IH a b ha hb
      cases hef : r j with
      | all B => exact absurd (hok.kindAll (by rw [hef]; rfl)) h4
      | st id0 a0 => exact absurd (hok.store hef).1 h3
      | call lo B =>
        obtain ⟨_, _, hk⟩ := hok.calls (by rw [hef]; rfl)
        omega
      | new fz nid nw =>
        rw [hef] at ha
        obtain ⟨n1, n2, n3, n4, n5⟩ := hok.new hef
        simp only [Ef.app] at ha
        have fzc : ∀ a, frz (arrs (S j)) fz id = some a → ∃ f, af S r D j id = some ⟨a.rows, a.g, f⟩ := fun a ha => by
          obtain ⟨a0, k1, k2, k3⟩ := frz_some ha
          obtain ⟨f, k4⟩ := IH a0 b k1 hb
          rw [k4, k2.1, k2.2]
          exact ⟨_, rfl⟩
        cases nw with
        | none => exact fzc a ha
        | some p =>
          obtain ⟨rows, g⟩ := p
          simp only [placeA] at ha
          by_cases hid : id = nid
          · subst hid
            have := hfr j (by omega) hD' (by have := n4 (by simp); omega)
            rw [← n1, hb] at this
            cases this
          · rw [upd_ne _ _ _ hid] at ha; exact fzc a ha
theorem sees_hi (hr : Run C ops e S r kd) {i : Nat} {id : Nat} (h : ∀ j oj, i ≤ j → D j = true → ops[j]? = some oj → (kd j ≠ 3 ∧ kd j ≠ 4 ∧ kd j ≠ 5) ∨ (touch oj (e j) ≠ 0 ∧ (kd j = 1 ∨ kd j = 3) ∧ touch oj (e j) ≠ id + 1)) (hid : id < (S i).length) {rows : List (List PV)} {g : Option (Option Nat)} :
    ∀ j, i ≤ j → j ≤ ops.size → (∃ f, af S r D i id = some ⟨rows, g, f⟩) → ∃ f, af S r D j id = some ⟨rows, g, f⟩ := by
  intro j hij
  induction hij with
  | refl => intro _ h; exact h
  | step hij ih =>
    rename_i k
    intro hj h0
    obtain ⟨f, hf⟩ := ih (by omega) h0
    have ho : ops[k]? = some ops[k] := Array.getElem?_eq_getElem (by omega)
    have hok := hr.ok k _ ho
    rw [af_succ]
    split
    · rename_i hD
      rcases h k _ hij hD ho with ⟨h3, h4, h5⟩ | ⟨h3, h4, h5⟩
      case inr =>
        rcases hok.touched h3 h4 with ⟨nid, q1, _⟩ | ⟨id0, a0, q1, q2⟩
        · rw [q1]
          simp only [Ef.app, frz_nil, placeA]
          exact ⟨f, hf⟩
        · rw [q1]
          simp only [Ef.app]
          rw [upd_ne _ _ _ (by omega)]
          exact ⟨f, hf⟩
      cases hef : r k with
      | all B => exact absurd (hok.kindAll (by rw [hef]; rfl)) h4
      | st id0 a0 => exact absurd (hok.store hef).1 h3
      | call lo B =>
        obtain ⟨lo', e1, hk⟩ := hok.calls (by rw [hef]; rfl)
        rw [hef] at e1
        cases e1
        rcases hk with hk | ⟨_, hlo, _⟩
        · omega
        · have := hr.mono hij (by omega)
          simp only [Ef.app, over]
          rw [if_neg (by omega)]
          exact ⟨f, hf⟩
      | new fz nid nw =>
        obtain ⟨n1, n2, n3, n4, n5⟩ := hok.new hef
        have hne : id ≠ nid := by rw [n1]; have := hr.mono hij (by omega); omega
        have fzc : ∃ f', frz (af S r D k) fz id = some ⟨rows, g, f'⟩ := by
          rw [frz_at, hf]
          simp only [Option.map_some]
          split <;> exact ⟨_, rfl⟩
        cases nw with
        | none => exact fzc
        | some p =>
          obtain ⟨rows', g'⟩ := p
          simp only [Ef.app, placeA]
          rw [upd_ne _ _ _ hne]; exact fzc
    · exact ⟨f, hf⟩
theorem same_lo (hr : Run C ops e S r kd) {μ : Mu} {i : Nat} (hi : i ≤ ops.size) (hfr : ∀ j, j < ops.size → D j = false → (S j).length ≠ (S (j + 1)).length → μ (S j).length = none)
    {id : Nat} (h : ∀ j oj, j < i → D j = false → ops[j]? = some oj → (kd j ≠ 1 ∧ kd j ≠ 3 ∧ kd j ≠ 4 ∧ kd j ≠ 5 ∧ kd j ≠ 6) ∨ (touch oj (e j) ≠ 0 ∧ (kd j = 1 ∨ kd j = 3) ∧ touch oj (e j) ≠ id + 1)) : ∀ j, j ≤ i → ∀ b, μ id = some b → af S r D j id = arrs (S j) id := by
  intro j
  induction j with
  | zero => intro _ b _; rfl
  | succ j ih =>
    intro hj b hb
    have ho : ops[j]? = some ops[j] := Array.getElem?_eq_getElem (by omega)
    have hok := hr.ok j _ ho
    rw [hok.arrs, af_succ]
    have IH := ih (by omega) b hb
    by_cases hD : D j = true
    · rw [if_pos hD]
      cases hef : r j with
      | all B => rfl
      | call lo B =>
        simp only [Ef.app, over]
        by_cases hc : lo ≤ id ∧ id < B.length
        · rw [if_pos hc, if_pos hc]
        · rw [if_neg hc, if_neg hc]; exact IH
      | st id0 a0 =>
        simp only [Ef.app]
        by_cases hid : id = id0
        · subst hid; rw [upd_same, upd_same]
        · rw [upd_ne _ _ _ hid, upd_ne _ _ _ hid]; exact IH
      | new fz nid nw =>
        simp only [Ef.app]
        have fzc : frz (af S r D j) fz id = frz (arrs (S j)) fz id := by rw [frz_at, frz_at, IH]
        cases nw with
        | none => exact fzc
        | some p =>
          obtain ⟨rows, g⟩ := p
          simp only [placeA]
          by_cases hid : id = nid
          · subst hid; rw [upd_same, upd_same]
          · rw [upd_ne _ _ _ hid, upd_ne _ _ _ hid]; exact fzc
    · rw [if_neg hD]
      have hD' : D j = false := by simpa using hD
      rcases h j _ (by omega) hD' ho with ⟨h1, h3, h4, h5, h6⟩ | ⟨h3, h4, h5⟩
      case inr =>
        rcases hok.touched h3 h4 with ⟨nid, q1, _⟩ | ⟨id0, a0, q1, q2⟩
        · rw [q1]
          simp only [Ef.app, frz_nil, placeA]
          exact IH
        · rw [q1]
          simp only [Ef.app]
          rw [upd_ne _ _ _ (by omega)]
          exact IH
      cases hef : r j with
      | all B => exact absurd (hok.kindAll (by rw [hef]; rfl)) h4
      | st id0 a0 => exact absurd (hok.store hef).1 h3
      | call lo B =>
        obtain ⟨_, _, hk⟩ := hok.calls (by rw [hef]; rfl)
        omega
      | new fz nid nw =>
        obtain ⟨n1, n2, n3, n4, n5⟩ := hok.new hef
        have := n3 h1
        subst this
        simp only [Ef.app, frz_nil]
        cases nw with
        | none => exact IH
        | some p =>
          obtain ⟨rows, g⟩ := p
          simp only [placeA]
          by_cases hid : id = nid
          · subst hid
            have := hfr j (by omega) hD' (by have := n4 (by simp); omega)
            rw [← n1, hb] at this
            cases this
          · rw [upd_ne _ _ _ hid]; exact IH
theorem same_hi (hr : Run C ops e S r kd) {i : Nat} {id : Nat} (h : ∀ j oj, i ≤ j → D j = true → ops[j]? = some oj → (kd j ≠ 1 ∧ kd j ≠ 3 ∧ kd j ≠ 4 ∧ kd j ≠ 5 ∧ kd j ≠ 6) ∨ (touch oj (e j) ≠ 0 ∧ (kd j = 1 ∨ kd j = 3) ∧ touch oj (e j) ≠ id + 1)) (hid : id < (S i).length) :
    ∀ j, i ≤ j → j ≤ ops.size → af S r D j id = af S r D i id := by
  intro j hij
  induction hij with
  | refl => intro _; rfl
  | step hij ih =>
    rename_i k
    intro hj
    have ho : ops[k]? = some ops[k] := Array.getElem?_eq_getElem (by omega)
    have hok := hr.ok k _ ho
    rw [af_succ, ← ih (by omega)]
    split
    · rename_i hD
      rcases h k _ hij hD ho with ⟨h1, h3, h4, h5, h6⟩ | ⟨h3, h4, h5⟩
      case inr =>
        rcases hok.touched h3 h4 with ⟨nid, q1, _⟩ | ⟨id0, a0, q1, q2⟩
        · rw [q1]
          simp only [Ef.app, frz_nil, placeA]
        · rw [q1]
          simp only [Ef.app]
          rw [upd_ne _ _ _ (by omega)]
      cases hef : r k with
      | all B => exact absurd (hok.kindAll (by rw [hef]; rfl)) h4
      | st id0 a0 => exact absurd (hok.store hef).1 h3
      | call lo B =>
        obtain ⟨_, _, hk⟩ := hok.calls (by rw [hef]; rfl)
        omega
      | new fz nid nw =>
        obtain ⟨n1, n2, n3, n4, n5⟩ := hok.new hef
        have := n3 h1
        subst this
        have hne : id ≠ nid := by rw [n1]; have := hr.mono hij (by omega); omega
        simp only [Ef.app, frz_nil]
        cases nw with
        | none => rfl
        | some p =>
          obtain ⟨rows', g'⟩ := p
          simp only [placeA]
          rw [upd_ne _ _ _ hne]
    · rfl
theorem st_there (hr : Run C ops e S r kd) {i : Nat} (h : ∀ j, i ≤ j → j < ops.size → D j = true → (r j).isAll = false ∧ (r j).isCall = false) : ∀ j, i ≤ j → j ≤ ops.size → ∀ k id a, i ≤ k → k < j → D k = true → r k = .st id a → ∃ a', af S r D j id = some a' := by
  intro j hij
  induction hij with
  | refl => intro _ k id a h1 h2; omega
  | step hij ih =>
    rename_i m
    intro hj k id a h1 h2 h3 h4
    have keep : ∀ A : Arrs, (∃ a', A id = some a') → ∀ ef : Ef, ef.isAll = false ∧ ef.isCall = false → ∃ a', ef.app A id = some a' := by
      rintro A ⟨a', ha⟩ ef ⟨hef, hec⟩
      cases ef with
      | all B => cases hef
      | call lo B => cases hec
      | st id0 a0 =>
        simp only [Ef.app]
        by_cases hid : id = id0
        · subst hid; rw [upd_same]; exact ⟨_, rfl⟩
        · rw [upd_ne _ _ _ hid]; exact ⟨_, ha⟩
      | new fz nid nw =>
        have hf : ∃ a', frz A fz id = some a' := by rw [frz_at, ha]; exact ⟨_, rfl⟩
        cases nw with
        | none => exact hf
        | some p =>
          obtain ⟨rows, g⟩ := p
          simp only [Ef.app, placeA]
          by_cases hid : id = nid
          · subst hid; rw [upd_same]; exact ⟨_, rfl⟩
          · rw [upd_ne _ _ _ hid]; exact hf
    rw [af_succ]
    by_cases hk : k = m
    · subst hk
      rw [if_pos h3, h4]
      simp only [Ef.app, upd_same]
      exact ⟨_, rfl⟩
    · have := ih (by omega) k id a h1 (by omega) h3 h4
      split
      · rename_i hD
        exact keep _ this _ (h m hij (by omega) hD)
      · exact this
end
end Go.Vs
end
section
set_option linter.unusedVariables false
set_option linter.unusedSimpArgs false
namespace Go.Vs
open Go
theorem Le.of_pt {A A' : Arrs} (h : ∀ id, A id = A' id ∨ ∃ a f, A id = some a ∧ A' id = some ⟨a.rows, a.g, f⟩ ∧ (a.f = true → f = true)) : Le A A' := fun id => by
  rcases h id with h | ⟨a, f, h1, h2, h3⟩
  · rw [h]; exact ⟨_root_.id, fun a h => ⟨a.f, h, _root_.id⟩⟩
  · refine ⟨fun hn => (by rw [hn] at h1; cases h1), fun a' ha => ?_⟩
    rw [h1] at ha; cases ha
    exact ⟨f, h2, h3⟩
theorem frz_comm (A : Arrs) (x y : List Nat) : frz (frz A x) y = frz (frz A y) x := by
  funext id
  simp only [frz_at]
  cases A id with
  | none => rfl
  | some a => simp only [Option.map_some]; split <;> split <;> rfl
theorem frz_out {A : Arrs} {x : List Nat} {id : Nat} (h : id ∉ x) : frz A x id = A id := by
  rw [frz_at]
  have : x.contains id = false := by rw [List.contains_eq_mem]; simpa using h
  rw [this]
  cases A id <;> rfl
section
variable {C : Ctx} {ops : Array Oper} {e : Nat → Env} {S : Nat → Store} {r : Nat → Ef} {kd : Nat → Nat} {D D' : Nat → Bool}
theorem af_agree {i : Nat} (h : ∀ j, j < i → D' j = D j) : ∀ j, j ≤ i → af S r D' j = af S r D j := by
  intro j
  induction j with
  | zero => intro _; rfl
  | succ j ih => intro hj; rw [af_succ, af_succ, h j (by omega), ih (by omega)]
theorem swap_app (hr : Run C ops e S r kd) {i j : Nat} {oi oj : Oper} (hij : i < j) (hoi : ops[i]? = some oi) (hoj : ops[j]? = some oj) (hs : Sw ops kd e i j oi oj)
    (hne : ∀ id a, r j = .st id a → (S i).length ≠ (S (i + 1)).length → id ≠ (S i).length) (B : Arrs) : Le ((r i).app ((r j).app B)) ((r j).app ((r i).app B)) := by
  have oki := hr.ok i _ hoi
  have okj := hr.ok j _ hoj
  rcases hs with hs | ⟨_, f1, f2, f3, f4, f5⟩
  case inr =>
    rcases oki.touched f3 f1 with ⟨nid, q1, _⟩ | ⟨id0, a0, q1, q2⟩
    · rw [q1]
      simp only [Ef.app, frz_nil, placeA]
      exact .refl _
    · rcases okj.touched f4 f2 with ⟨nid, p1, _⟩ | ⟨id1, a1, p1, p2⟩
      · rw [p1]
        simp only [Ef.app, frz_nil, placeA]
        exact .refl _
      · rw [q1, p1]
        simp only [Ef.app]
        have hne : id0 ≠ id1 := by omega
        refine .of_pt fun id => .inl ?_
        by_cases h1 : id = id0
        · subst h1; rw [upd_same, upd_ne _ _ _ hne, upd_same]
        · rw [upd_ne _ _ _ h1]
          by_cases h2 : id = id1
          · subst h2; rw [upd_same, upd_same]
          · rw [upd_ne _ _ _ h2, upd_ne _ _ _ h2, upd_ne _ _ _ h1]
  obtain ⟨_, k1, k2, k3, k4, k5, k6, k7⟩ := swapOK_spec hs
  have hjs := (Array.getElem?_eq_some_iff.1 hoj).1
  have hlen : (S (i + 1)).length ≤ (S j).length := hr.mono hij (by omega)
  by_cases hcj : (r j).isCall = true
  · obtain ⟨loj, ej, hkj⟩ := okj.calls hcj
    have quiet : ∃ nid, r i = .new [] nid none := by
      have h0 : kd i = 0 ∨ (kd i = 1 ∧ isLoad oi = true) := by
        rcases hkj with hkj | hkj
        · exact .inl (k6 hkj.1)
        · exact k7 hkj.1
      rcases h0 with h0 | ⟨_, h0⟩
      · cases hi : r i with
        | all B => exact absurd (oki.kindAll (by rw [hi]; rfl)) k1
        | st id a => have := (oki.store hi).1; omega
        | call lo B =>
          obtain ⟨_, _, hk⟩ := oki.calls (by rw [hi]; rfl)
          omega
        | new fz nid nw =>
          obtain ⟨m1, m2, m3, m4, m5⟩ := oki.new hi
          have e1 := m3 (by omega)
          have e2 := m5 (.inr (.inr h0))
          subst e1 e2
          exact ⟨nid, rfl⟩
      · obtain ⟨nid, e1, _⟩ := oki.load h0
        exact ⟨nid, e1⟩
    obtain ⟨nid, ei⟩ := quiet
    rw [ei]
    simp only [Ef.app, frz_nil, placeA]
    exact .refl _
  cases hi : r i with
  | call lo B0 =>
    obtain ⟨lo', e1, hk⟩ := oki.calls (by rw [hi]; rfl)
    rw [hi] at e1
    cases e1
    have h2 : kd j = 2 := k5 (by omega)
    cases hj : r j with
    | all B => exact absurd (okj.kindAll (by rw [hj]; rfl)) k2
    | st idj aj => have := (okj.store hj).1; omega
    | call lo2 B2 => exact absurd (by rw [hj]; rfl) hcj
    | new fz nid nw =>
      obtain ⟨n1, n2, n3, n4, n5⟩ := okj.new hj
      have := n3 (by omega)
      subst this
      simp only [Ef.app, frz_nil]
      cases nw with
      | none => exact .refl _
      | some p =>
        obtain ⟨rows, g⟩ := p
        simp only [placeA]
        refine .of_pt fun id => .inl ?_
        unfold over
        by_cases h2 : id = nid
        · subst h2
          rw [upd_same, if_neg (by omega), upd_same]
        · rw [upd_ne _ _ _ h2, upd_ne _ _ _ h2]
  | all B => exact absurd (oki.kindAll (by rw [hi]; rfl)) k1
  | st idi ai =>
    obtain ⟨s1, s2, _⟩ := oki.store hi
    cases hj : r j with
    | all B => exact absurd (okj.kindAll (by rw [hj]; rfl)) k2
    | st idj aj => exact absurd (okj.store hj).1 (k3 s1).2
    | call lo B => exact absurd (by rw [hj]; rfl) hcj
    | new fz nid nw =>
      obtain ⟨n1, n2, n3, n4, n5⟩ := okj.new hj
      have := n3 (k3 s1).1
      subst this
      simp only [Ef.app, frz_nil]
      cases nw with
      | none => exact .refl _
      | some p =>
        obtain ⟨rows, g⟩ := p
        simp only [placeA]
        have hne' : idi ≠ nid := by rw [n1]; have := oki.len; omega
        refine .of_pt fun id => .inl ?_
        by_cases h1 : id = idi
        · subst h1; rw [upd_same, upd_ne _ _ _ hne', upd_same]
        · rw [upd_ne _ _ _ h1]
          by_cases h2 : id = nid
          · subst h2; rw [upd_same, upd_same]
          · rw [upd_ne _ _ _ h2, upd_ne _ _ _ h2, upd_ne _ _ _ h1]
  | new fzi nidi nwi =>
    obtain ⟨m1, m2, m3, m4, m5⟩ := oki.new hi
    cases hj : r j with
    | all B => exact absurd (okj.kindAll (by rw [hj]; rfl)) k2
    | call lo B => exact absurd (by rw [hj]; rfl) hcj
    | st idj aj =>
      obtain ⟨s1, s2, _⟩ := okj.store hj
      have := m3 (k4 s1).1
      subst this
      simp only [Ef.app, frz_nil]
      cases nwi with
      | none => exact .refl _
      | some p =>
        obtain ⟨rows, g⟩ := p
        simp only [placeA]
        have hne' : idj ≠ nidi := by rw [m1]; exact hne _ _ hj (by have := m4 (by simp); omega)
        refine .of_pt fun id => .inl ?_
        by_cases h1 : id = idj
        · subst h1; rw [upd_same, upd_ne _ _ _ hne', upd_same]
        · rw [upd_ne _ _ _ h1]
          by_cases h2 : id = nidi
          · subst h2; rw [upd_same, upd_same]
          · rw [upd_ne _ _ _ h2, upd_ne _ _ _ h2, upd_ne _ _ _ h1]
    | new fzj nidj nwj =>
      obtain ⟨n1, n2, n3, n4, n5⟩ := okj.new hj
      have hout : nidj ∉ fzi := fun hm => by have := m2 _ hm; have := oki.len; omega
      cases nwi with
      | none =>
        cases nwj with
        | none => simp only [Ef.app, placeA]; rw [frz_comm]; exact .refl _
        | some q =>
          obtain ⟨rj, gj⟩ := q
          simp only [Ef.app, placeA]
          refine .of_pt fun id => .inl ?_
          by_cases h2 : id = nidj
          · subst h2; rw [frz_out hout, upd_same, upd_same]
          · rw [upd_ne _ _ _ h2, frz_at, upd_ne _ _ _ h2, ← frz_at, frz_comm]
      | some p =>
        obtain ⟨ri, gi⟩ := p
        have hlt : nidi < (S j).length := by have := m4 (by simp); omega
        cases nwj with
        | none =>
          simp only [Ef.app, placeA]
          refine .of_pt fun id => ?_
          by_cases h2 : id = nidi
          · subst h2
            refine .inr ⟨⟨ri, gi, false⟩, fzj.contains id, by rw [upd_same], ?_, by simp⟩
            rw [frz_at, upd_same]
            simp only [Option.map_some]
            cases fzj.contains id <;> rfl
          · refine .inl ?_
            rw [upd_ne _ _ _ h2, frz_comm, frz_at, frz_at (upd _ _ _), upd_ne _ _ _ h2]
        | some q =>
          obtain ⟨rj, gj⟩ := q
          simp only [Ef.app, placeA]
          refine .of_pt fun id => ?_
          by_cases h1 : id = nidj
          · subst h1
            refine .inl ?_
            rw [upd_ne _ _ _ (by omega), frz_out hout, upd_same, upd_same]
          · rw [upd_ne _ nidj _ h1]
            by_cases h2 : id = nidi
            · subst h2
              refine .inr ⟨⟨ri, gi, false⟩, fzj.contains id, by rw [upd_same], ?_, by simp⟩
              rw [frz_at, upd_same]
              simp only [Option.map_some]
              cases fzj.contains id <;> rfl
            · refine .inl ?_
              rw [upd_ne _ _ _ h2, frz_at, upd_ne _ _ _ h1, ← frz_at, frz_comm, frz_at, frz_at (upd _ _ _), upd_ne _ _ _ h2]
theorem af_comm (hr : Run C ops e S r kd) {i : Nat} {oi : Oper} (hoi : ops[i]? = some oi) (hD : D i = false) (hD' : ∀ j, D' j = (D j || j == i)) (hs : ∀ j oj, i < j → D j = true → ops[j]? = some oj → Sw ops kd e i j oi oj)
    (hne : ∀ j, i < j → j < ops.size → D j = true → ∀ id a, r j = .st id a → (S i).length ≠ (S (i + 1)).length → id ≠ (S i).length) :
    ∀ j, i + 1 ≤ j → j ≤ ops.size → Le ((r i).app (af S r D j)) (af S r D' j) := by
  intro j hij
  induction hij with
  | refl =>
    intro _
    rw [af_succ, af_succ, hD, hD' i]
    simp only [Bool.false_eq_true, if_false, Bool.false_or, beq_self_eq_true, if_true]
    rw [af_agree (D := D) (D' := D') (i := i) (fun j hj => by rw [hD' j, beq_eq_false_iff_ne.2 (by omega), Bool.or_false]) i (Nat.le_refl _), hD]
    simp only [Bool.false_or, if_true]
    exact .refl _
  | step hij ih =>
    rename_i m
    intro hm
    have ho : ops[m]? = some ops[m] := Array.getElem?_eq_getElem (by omega)
    have hmi : i < m := hij
    have hDm : D' m = D m := by rw [hD' m, beq_eq_false_iff_ne.2 (by omega), Bool.or_false]
    rw [af_succ, af_succ, hDm]
    by_cases hd : D m = true
    · rw [if_pos hd, if_pos hd]
      exact (swap_app hr hmi hoi ho (hs m _ hmi hd ho) (hne m hmi (by omega) hd) _).trans ((ih (by omega)).app_mono _)
    · rw [if_neg hd, if_neg hd]
      exact ih (by omega)
theorem gf_agree {i : Nat} (h : ∀ j, j < i → D' j = D j) (t : Nat) : ∀ j, j ≤ i → gf ops e r D' j t = gf ops e r D j t := by
  intro j
  induction j with
  | zero => intro _; rfl
  | succ j ih => intro hj; rw [gf_succ, gf_succ, h j (by omega), ih (by omega)]
theorem gf_step {i : Nat} {oi : Oper} (hoi : ops[i]? = some oi) (hD : D i = false) (hD' : ∀ j, D' j = (D j || j == i)) (hall : (r i).isAll = false) (hr : Run C ops e S r kd)
    (hs : ∀ j oj, i < j → D j = true → ops[j]? = some oj → Sw ops kd e i j oi oj) (t : Nat) : ∀ j, i + 1 ≤ j → j ≤ ops.size → gf ops e r D' j t = if oi.dst = some t then get (e (i + 1)) t else gf ops e r D j t := by
  intro j hij
  induction hij with
  | refl =>
    intro _
    have hd : dstOf ops i = oi.dst := by unfold dstOf; rw [hoi]; rfl
    rw [gf_succ, gf_succ, hD, hD' i, hd, hall]
    simp only [Bool.false_eq_true, if_false, hD, Bool.false_or, beq_self_eq_true, if_true, false_or]
    rw [gf_agree (D := D) (D' := D') (i := i) (fun j hj => by rw [hD' j, beq_eq_false_iff_ne.2 (by omega), Bool.or_false]) t i (Nat.le_refl _)]
  | step hij ih =>
    rename_i m
    intro hm
    have ho : ops[m]? = some ops[m] := Array.getElem?_eq_getElem (by omega)
    have hmi : i < m := hij
    have hDm : D' m = D m := by rw [hD' m, beq_eq_false_iff_ne.2 (by omega), Bool.or_false]
    have hdm : dstOf ops m = ops[m].dst := by unfold dstOf; rw [ho]; rfl
    rw [gf_succ, gf_succ, hDm, hdm, ih (by omega)]
    by_cases hd : D m = true
    · rw [if_pos hd, if_pos hd]
      obtain ⟨hap, k1, k2⟩ := (hs m _ hmi hd ho).basic
      have hna : (r m).isAll = false := by
        cases hq : (r m).isAll with
        | false => rfl
        | true => exact absurd ((hr.ok m _ ho).kindAll hq) k2
      obtain ⟨_, hdd, _⟩ := Oper.apart_spec hap
      by_cases h1 : ops[m].dst = some t
      · have hnot : ¬ oi.dst = some t := fun h => hdd t h h1
        simp [h1, hnot]
      · simp [hna, h1]
    · rw [if_neg hd, if_neg hd]
def Fresh (S : Nat → Store) (r : Nat → Ef) (N : Nat) (D : Nat → Bool) (μ : Mu) : Prop :=
  ∀ id, (S 0).length ≤ id → (∀ j, j < N → D j = true → ¬ ((S j).length ≤ id ∧ id < (S (j + 1)).length)) → μ id = none ∧ af S r D N id = none
theorem Fresh.undone (hr : Run C ops e S r kd) {μ : Mu} (h : Fresh S r ops.size D μ) {j : Nat} (hj : j < ops.size) (hD : D j = false) (hne : (S j).length ≠ (S (j + 1)).length) : μ (S j).length = none ∧ af S r D ops.size (S j).length = none := by
  refine h _ (hr.mono (Nat.zero_le _) (by omega)) fun k hk hDk hc => ?_
  have h0 := hr.mono (i := j) (j := j + 1) (by omega) (by omega)
  rcases Nat.lt_trichotomy k j with hkj | rfl | hkj
  · have := hr.mono (i := k + 1) (j := j) hkj (by omega); omega
  · rw [hD] at hDk; cases hDk
  · have := hr.mono (i := j + 1) (j := k) hkj (by omega); omega
theorem maker (hr : Run C ops e S r kd) {id : Nat} (h0 : (S 0).length ≤ id) : ∀ m, m ≤ ops.size → id < (S m).length → ∃ j, j < m ∧ (S j).length ≤ id ∧ id < (S (j + 1)).length := by
  intro m
  induction m with
  | zero => intro _ h; omega
  | succ m ih =>
    intro hm h
    by_cases hl : id < (S m).length
    · obtain ⟨j, h1, h2⟩ := ih (by omega) hl
      exact ⟨j, by omega, h2⟩
    · exact ⟨m, by omega, by omega, h⟩
end
end Go.Vs
end

/- Calls: what the machine's run comes to. -/
import Derived.Test.YtnddhkcciphhkaaVs23
set_option linter.unusedVariables false
set_option linter.unusedSimpArgs false
namespace Go.Vs
open Go

def resOne (tmps : Array Value) : ResultVar → Sem Value
  | .tmp t => pure (tmps.getD t Go.undef)
  | .cell a t => do loadVar t (← asAddr (tmps.getD a Go.undef))
theorem results_eq (fn : Func) (tmps : Array Value) : results fn tmps = (do let vs ← fn.results.mapM (resOne tmps); pure (if h : vs.size = 1 then vs[0] else .tuple vs)) := by
  unfold results
  have : (fun x : ResultVar => match x with
    | .tmp t => (pure (tmps.getD t Go.undef) : Sem Value)
    | .cell a t => do loadVar t (← asAddr (tmps.getD a Go.undef))) = resOne tmps := by funext r; cases r <;> rfl
  rw [← this]
  rfl

section
variable {P : Program} {w : World} {X : Nat → Prop} {μ : Mu} {av : Nat → Prop} {S : Store}

theorem result_sound (hS : SR w X (arrs S) S.length μ) {e : Env} {tmps : Array Value} (hE : ER w (Av X (arrs S) μ) μ e tmps) (r : ResultVar) {pv : PV} (h : evResult P e S r = some pv) :
    ∃ v, (resOne tmps r).run P w = .ok v w ∧ VR w (Av X (arrs S) μ) μ pv v := by
  cases r with
  | tmp t =>
    simp only [evResult, Option.some.injEq] at h
    subst h
    exact ⟨_, by simp [resOne], hE t⟩
  | cell a t =>
    simp only [evResult] at h
    obtain ⟨v, h1, h2⟩ := load_sound hS (Sees.refl S μ) (hE a) h
    refine ⟨v, ?_, h2⟩
    have hp : ∃ ad, tmps.getD a Go.undef = .pointer (some ad) := by
      have := hE a
      generalize hg : get e a = pv' at this h
      generalize tmps.getD a Go.undef = v' at this
      cases pv' <;> simp only [evLoad, reduceCtorEq] at h
      case cp row => cases this with | fr q => cases q; exact ⟨_, rfl⟩
      case mp id i off =>
        cases this with
        | fr q => cases q
        | mp _ _ _ b hb => exact ⟨_, rfl⟩
    obtain ⟨ad, had⟩ := hp
    rw [had] at h1
    simp only [resOne]
    rw [had]
    simp only [Instr.loadAt, Instr.sureAddr, Sem.run_bind, Sem.run_pure, Result.andThen_ok] at h1
    simp only [asAddr, Sem.run_bind, Sem.run_pure, Result.andThen_ok]
    exact h1

theorem results_list (hS : SR w X (arrs S) S.length μ) {e : Env} {tmps : Array Value} (hE : ER w (Av X (arrs S) μ) μ e tmps) : ∀ (rs : List ResultVar) {pvs : List PV}, mapO (evResult P e S) rs = some pvs →
    ∃ vs : List Value, (rs.mapM (resOne tmps)).run P w = .ok vs w ∧ pvs.length = vs.length ∧
      ∀ (j : Nat) (pv : PV) (v : Value), pvs[j]? = some pv → vs[j]? = some v → VR w (Av X (arrs S) μ) μ pv v
  | [], pvs, h => by
    simp only [mapO, Option.some.injEq] at h
    subst h
    exact ⟨[], by simp, rfl, by simp⟩
  | r :: rs, pvs, h => by
    simp only [mapO] at h
    obtain ⟨pv, h1, h⟩ := bind_some h
    obtain ⟨l, h2, rfl⟩ := map_some h
    obtain ⟨v, k1, k2⟩ := result_sound hS hE r h1
    obtain ⟨vs, k3, k4, k5⟩ := results_list hS hE rs h2
    refine ⟨v :: vs, ?_, by simp [k4], fun j pv' v' hp hv => ?_⟩
    · rw [List.mapM_cons]
      simp only [Sem.run_bind, k1, Result.andThen_ok, k3, Sem.run_pure]
    · cases j with
      | zero => simp at hp hv; subst hp; subst hv; exact k2
      | succ j => simp at hp hv; exact k5 j pv' v' hp hv

theorem results_sound (hS : SR w X (arrs S) S.length μ) {e : Env} {tmps : Array Value} (hE : ER w (Av X (arrs S) μ) μ e tmps) {fn : Func} {pv : PV} (h : evResults P fn e S = some pv) :
    ∃ v, (results fn tmps).run P w = .ok v w ∧ VR w (Av X (arrs S) μ) μ pv v := by
  unfold evResults at h
  obtain ⟨pvs, h1, rfl⟩ := map_some h
  obtain ⟨vs, k1, k2, k3⟩ := results_list hS hE _ h1
  have hrun : (results fn tmps).run P w = .ok (if h : vs.toArray.size = 1 then vs.toArray[0] else .tuple vs.toArray) w := by
    rw [results_eq, Array.mapM_eq_mapM_toList]
    simp only [Sem.run_bind, map_eq_pure_bind, k1, Result.andThen_ok, Sem.run_pure]
  refine ⟨_, hrun, ?_⟩
  clear hrun h1 k1
  match pvs, vs, k2, k3 with
  | [], [], _, _ => exact .tup _ _ rfl (by simp)
  | [p], [v], _, k3 => exact k3 0 p v rfl rfl
  | p :: q :: l, v :: u :: m, k2, k3 =>
    rw [dif_neg (by simp)]
    exact .tup _ _ (by simpa using k2) (fun j pv v hp hv => k3 j pv v hp (by simpa using hv))

theorem get_zip (args : List PV) (m t : Nat) : get (((List.range' m args.length).zip args)) t = if m ≤ t then (args[t - m]?).getD .undef else .undef := by
  induction args generalizing m with
  | nil => simp [get]
  | cons x l ih =>
    simp only [List.length_cons, List.range'_succ, List.zip_cons_cons, get]
    by_cases h : m = t
    · subst h; simp
    · rw [if_neg h, ih]
      by_cases hl : m + 1 ≤ t
      · rw [if_pos hl, if_pos (by omega), show t - m = (t - (m + 1)) + 1 by omega, List.getElem?_cons_succ]
      · rw [if_neg hl, if_neg (by omega)]

theorem SR.empty {Y : Nat → Prop} (hY : ∀ b, Y b → b < w.heap.size) : SR w Y (arrs []) 0 noMu :=
  ⟨fun id _ => ⟨rfl, by simp [arrs]⟩, fun id a ha => by simp [arrs] at ha, fun id a ha => by simp [arrs] at ha, fun id a ha => by simp [arrs] at ha, fun id id' a a' b b' h1 => by simp [arrs] at h1, fun id a b h1 => by simp [arrs] at h1, hY⟩

theorem cp_of_cr {cr : CallR} (h : CROK P cr) : CPOK P (fun g as => (cr g as []).bind fun (r, S) => fzPV S r) := by
  intro f args r hr
  obtain ⟨⟨q, S⟩, h1, h2⟩ := bind_some hr
  obtain ⟨fn, c, e1, e2, e3, e4⟩ := h f args [] q S h1
  refine ⟨fn, c, e1, e2, e3, fun w Y vs hY hn hrel => ?_⟩
  have hmut : ∀ b, ¬ Mut (arrs []) noMu b := by rintro b ⟨id, rows, g, k, h1, _⟩; simp [arrs] at h1
  refine Calls.mono (e4 w Y noMu vs (SR.empty hY) hn fun j pv v hp hv => (hrel j pv v hp hv).mono (Keeps.less fun b hb => hb.resolve_right (hmut b)) fun _ _ _ h => h) ?_
  rintro e w' ⟨v, μ', rfl, k1, k2, k3⟩
  refine ⟨v, rfl, ⟨k2.os, k2.tape, k2.output, k2.size, fun b hb => k2.keep b hb (hmut b)⟩, ?_⟩
  exact (fzPV_sound k1 (Sees.refl S μ') h2 k3 (fun _ h => h)).mono (Keeps.less fun b hb => .inl hb) fun _ _ _ h => h

theorem callF_sound {H : Hints} (hm : P.follows .mixedOrders = true) : ∀ k, CROK P (callF P H k) := by
  intro k
  induction k with
  | zero => intro f args S r S' h; cases h
  | succ k ih =>
    intro f args S r S' h
    simp only [callF] at h
    cases hf : P.funcs[f]? with
    | none => rw [hf] at h; cases h
    | some fn =>
      rw [hf] at h
      simp only at h
      cases hbd : fn.body with
      | none => rw [hbd] at h; cases h
      | some c =>
        rw [hbd] at h
        simp only at h
        split at h
        case isFalse => cases h
        rename_i hc
        obtain ⟨c1, c2, c3⟩ := hc
        obtain ⟨⟨x, e', S1⟩, h1, h2⟩ := bind_some h
        refine ⟨fn, c, rfl, hbd, c2, fun w X μ vs hS hn hrel => ?_⟩
        have hsz : (vs ++ Array.replicate (fn.ntmps - vs.size) Go.undef).size = fn.ntmps := by simp; omega
        have hN : Now S.length fn.ntmps X w (arrs S) μ ((List.range args.length).zip args) S { tmps := vs ++ Array.replicate (fn.ntmps - vs.size) Go.undef, defers := [] } w := by
          refine ⟨μ, hS, fun t => ?_, Nat.le_refl _, rfl, hsz, Tr.refl _ _ _ _⟩
          rw [List.range_eq_range', get_zip, if_pos (Nat.zero_le _), Nat.sub_zero]
          cases hp : args[t]? with
          | none => exact .undef _
          | some pv =>
            have hlt := (List.getElem?_eq_some_iff.1 hp).1
            have hv : vs[t]? = some (vs[t]'(by omega)) := Array.getElem?_eq_getElem _
            have : (vs ++ Array.replicate (fn.ntmps - vs.size) Go.undef).getD t Go.undef = vs[t]'(by omega) := by
              rw [Array.getD_eq_getD_getElem?, Array.getElem?_append_left (by omega), hv]; rfl
            simp only [this, Option.getD_some]
            exact hrel t pv _ hp hv
        refine calls_of_wp hf hbd ?_
        have fin : ∀ (y : Vs.X), x = y → (∀ id, y ≠ .exit id) → ∃ v, evResults P fn e' S1 = some v ∧ r = v ∧ S' = S1 := fun y hy hne => by
          subst hy
          cases x with
          | exit id => exact absurd rfl (hne id)
          | normal =>
            obtain ⟨v, k1, k2⟩ := map_some h2
            simp only [Prod.mk.injEq] at k2
            exact ⟨v, k1, k2.1, k2.2⟩
          | ret =>
            obtain ⟨v, k1, k2⟩ := map_some h2
            simp only [Prod.mk.injEq] at k2
            exact ⟨v, k1, k2.1, k2.2⟩
        refine exec_sound (C := { P, H, cp := fun g as => (callF P H k g as []).bind fun (r, S) => fzPV S r, cr := callF P H k, base := S.length, h := H.of f }) hm (cp_of_cr ih) ih rfl c 0 c3 h1 hN fun a' w' hN' => ?_
        obtain ⟨μ', j1, j2, j3, j4, j5, j6⟩ := hN'
        have post : ∀ y, x = y → (∀ id, y ≠ .exit id) → a'.defers = [] ∧ ∃ v, (results fn a'.tmps).run P w' = .ok v w' ∧ ∃ v' μ', Ending.returned v = .returned v' ∧ SR w' X (arrs S') S'.length μ' ∧ Tr S.length w (arrs S) μ w' (arrs S') μ' ∧ VR w' (Av X (arrs S') μ') μ' r v' := fun y hy hne => by
          obtain ⟨v, k1, rfl, rfl⟩ := fin y hy hne
          obtain ⟨u, q1, q2⟩ := results_sound j1 j2 k1
          exact ⟨j4, u, q1, u, μ', rfl, j1, j6, q2⟩
        cases x with
        | normal => exact post _ rfl (by simp)
        | ret => exact post _ rfl (by simp)
        | exit id => cases h2

theorem callP_sound {H : Hints} (hm : P.follows .mixedOrders = true) (k : Nat) : CPOK P (callP P H k) := cp_of_cr (callF_sound hm k)
end
end Go.Vs

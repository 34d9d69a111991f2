/- Each operation that reads at most: what the machine's run comes to (3). -/
import Derived.Test.YtnddhkcciphhkaaVs5
import Derived.Laws.Bits
set_option linter.unusedVariables false
set_option linter.unusedSimpArgs false
namespace Go.Vs
open Go

section
variable {P : Program} {A : Arrs} {w : World} {X : Nat → Prop} {S : Store} {n : Nat} {μ : Mu} {av : Nat → Prop}

theorem fieldAddr_sound {t : TypeId} {f : Nat} {x pv : PV} {v : Value} (hv : VR w av μ x v) (h : evFieldAddr (tyi P t) f x = some pv) :
    ∃ z, (Instr.fieldAt t v f).run P w = .ok z w ∧ VR w av μ pv z := by
  have key : ∀ (a : Addr) (o k : Nat) (g : Bool), (∃ fs, (tyi P t).d = .struct fs ∧ fs[f]? = some (o, k, g)) → k ≠ 0 → (Instr.fieldAt t (.pointer (some a)) f).run P w = .ok (.pointer (some (a.add o))) w := by
    intro a o k g ⟨fs, hd, hf⟩ hk
    obtain ⟨gs, hu, rfl⟩ := tyi_struct hd
    rw [List.getElem?_map] at hf
    cases hg : gs.toList[f]? with
    | none => rw [hg] at hf; simp at hf
    | some fl =>
      rw [hg] at hf
      simp at hf
      obtain ⟨rfl, rfl, rfl⟩ := hf
      rw [Array.getElem?_toList] at hg
      obtain ⟨d, i, hd2, hi, hs⟩ := sizeK_ne hk
      · have hne : i.size ≠ 0 := by rw [hs]; exact hk
        simp [Instr.fieldAt, run_underlying hu, hg, Instr.sureAddr, fieldPlace, run_sizeOf' hi, hne]
  cases x <;> simp only [evFieldAddr, reduceCtorEq] at h
  case cp row =>
    cases hd : (tyi P t).d <;> simp only [hd, reduceCtorEq] at h
    rename_i fs
    cases hf : fs[f]? with
    | none => rw [hf] at h; simp at h
    | some q =>
      obtain ⟨o, k, g⟩ := q
      rw [hf] at h
      simp only at h
      split at h
      · cases h
      · rename_i hk
        simp at h; subst h
        cases hv with | fr hv =>
        cases hv with | cp _ ad c hc hr =>
        refine ⟨_, key ad o k g ⟨fs, hd, hf⟩ hk, .fr (.cp _ _ (fun j => c (o + j)) (fun j pv hj => ?_) (fun j pv hj => ?_))⟩
        · rw [List.getElem?_drop] at hj
          have := hc _ pv hj
          rw [add_add, add_block]; exact this
        · rw [List.getElem?_drop] at hj; exact hr _ pv hj
  case mp id i off =>
    cases hd : (tyi P t).d <;> simp only [hd, reduceCtorEq] at h
    rename_i fs
    cases hf : fs[f]? with
    | none => rw [hf] at h; simp at h
    | some q =>
      obtain ⟨o, k, g⟩ := q
      rw [hf] at h
      simp only at h
      split at h
      · cases h
      · rename_i hk
        simp at h; subst h
        cases hv with
        | fr hv => cases hv
        | mp _ _ _ b hb =>
        refine ⟨_, key _ o k g ⟨fs, hd, hf⟩ hk, ?_⟩
        rw [add_plain, Nat.add_assoc]
        exact .mp id i (off + o) b hb

theorem field_sound {t : TypeId} {f : Nat} {x pv : PV} {v : Value} (hv : VR w av μ x v) (h : evField (tyi P t) f x = some pv) :
    ∃ z, (Instr.field t v f).run P w = .ok z w ∧ VR w av μ pv z := by
  cases x <;> simp only [evField, reduceCtorEq] at h
  case agg cells =>
    cases hd : (tyi P t).d <;> simp only [hd, reduceCtorEq] at h
    rename_i fs
    cases hf : fs[f]? with
    | none => rw [hf] at h; simp at h
    | some q =>
      obtain ⟨o, k, g⟩ := q
      rw [hf] at h
      simp only at h
      obtain ⟨gs, hu, rfl⟩ := tyi_struct hd
      rw [List.getElem?_map] at hf
      cases hg : gs.toList[f]? with
      | none => rw [hg] at hf; simp at hf
      | some fl =>
        rw [hg] at hf
        simp at hf
        obtain ⟨rfl, rfl, rfl⟩ := hf
        rw [Array.getElem?_toList] at hg
        cases hv with
        | fr hv => cases hv
        | agg _ cs hn hfl hr =>
        simp only [Instr.field, Sem.run_bind, run_underlying hu, Result.andThen_ok, hg, asAgg, Sem.run_pure, Go.part]
        split at h
        · cases h
        rename_i hk
        obtain ⟨d2, i3, hd2, hi3, hs3⟩ := sizeK_ne hk
        by_cases ha : isAggB P fl.type = true
        · rw [if_pos ha] at h
          split at h
          · rename_i hle
            simp at h; subst h
            simp only [Sem.run_bind, run_isAgg hd2, ha, Result.andThen_ok, if_true, run_sizeOf' hi3, Sem.run_pure]
            refine ⟨_, rfl, .agg _ _ ?_ (fun j v hv => ?_) (fun j pv v hp hv => ?_)⟩
            · simp; omega
            · rw [Array.getElem?_extract] at hv
              split at hv
              · exact hfl _ v hv
              · cases hv
            · rw [Array.getElem?_extract] at hv
              split at hv
              · rw [List.getElem?_take_of_lt (by omega), List.getElem?_drop] at hp
                exact hr _ pv v hp hv
              · cases hv
          · cases h
        · rw [if_neg ha] at h
          have hj : fl.offset < cs.size := by
            have := (List.getElem?_eq_some_iff.1 h).1
            omega
          have hc := Array.getElem?_eq_getElem hj
          simp only [Sem.run_bind, run_isAgg hd2, ha, Result.andThen_ok, if_false, Bool.false_eq_true, hc, Sem.run_pure]
          exact ⟨_, rfl, hr _ pv _ h hc⟩

/-! ### Cuts -/
theorem bound_sound {d m y : Nat} {x : Option PV} {v : Option Value} (hx : x = none ↔ v = none) (hv : ∀ p u, x = some p → v = some u → VR w av μ p u) (h : bound d x = some m) :
    (v = none ∧ m = d) ∨ ∃ k, v = some (.int k m) := by
  cases x with
  | none => simp [bound] at h; exact .inl ⟨hx.1 rfl, h.symm⟩
  | some p =>
    cases v with
    | none => simp at hx
    | some u =>
      have := hv p u rfl rfl
      cases p <;> simp only [bound, reduceCtorEq] at h
      rename_i k z
      obtain rfl := this.int_inv
      split at h
      · simp at h; exact .inr ⟨k, by congr 2; omega⟩
      · cases h
theorem sliceBound_run {m y : Nat} {k : IntKind} {code : BoundsCode} (h : m ≤ y) : (Instr.sliceBound (.int k m) y code).run P w = .ok m w := by
  simp [Instr.sliceBound, asIntOf, h]
theorem sliceBounds_run {isS : Bool} {len cap l h m : Nat} {lo hi mx : Option Value} (hl : (lo = none ∧ l = 0) ∨ ∃ k, lo = some (.int k l)) (hh : (hi = none ∧ h = len) ∨ ∃ k, hi = some (.int k h))
    (hm : (mx = none ∧ m = cap) ∨ ((∃ k, mx = some (.int k m)) ∧ hi ≠ none)) (h1 : l ≤ h) (h2 : h ≤ m) (h3 : m ≤ cap) (hc : mx = none → h ≤ cap) :
    (Instr.sliceBounds isS len cap lo hi mx).run P w = .ok (l, h, m) w := by
  rcases hm with ⟨rfl, rfl⟩ | ⟨⟨km, rfl⟩, hne⟩
  · rcases hh with ⟨rfl, rfl⟩ | ⟨kh, rfl⟩ <;> rcases hl with ⟨rfl, rfl⟩ | ⟨kl, rfl⟩ <;>
      simp [Instr.sliceBounds, sliceBound_run h1, sliceBound_run h2, h1, h2]
  · rcases hh with ⟨rfl, rfl⟩ | ⟨kh, rfl⟩
    · exact absurd rfl hne
    · rcases hl with ⟨rfl, rfl⟩ | ⟨kl, rfl⟩ <;>
      simp [Instr.sliceBounds, sliceBound_run h1, sliceBound_run h2, sliceBound_run h3]

theorem slice_sound (hS : SR w X A n μ) (hSA : Sees S A μ) {t : TypeId} (hk : isSlice (tyi P t) = true → (tyi P (elemTy (tyi P t))).known = true) {x pv : PV} {v : Value} {lo hi mx : Option PV} {lo' hi' mx' : Option Value}
    (hv : VR w (Av X (A) μ) μ x v) (e1 : lo = none ↔ lo' = none) (r1 : ∀ p u, lo = some p → lo' = some u → VR w (Av X (A) μ) μ p u)
    (e2 : hi = none ↔ hi' = none) (r2 : ∀ p u, hi = some p → hi' = some u → VR w (Av X (A) μ) μ p u)
    (e3 : mx = none ↔ mx' = none) (r3 : ∀ p u, mx = some p → mx' = some u → VR w (Av X (A) μ) μ p u)
    (h : evSlice (tyi P t) (tyi P (elemTy (tyi P t))).size S x lo hi mx = some pv) :
    ∃ z, (Instr.sliceAt t v lo' hi' mx').run P w = .ok z w ∧ VR w (Av X (A) μ) μ pv z := by
  unfold evSlice at h
  split at h
  · rename_i s hd
    have ht := tyi_str hd
    obtain rfl := hv.str_inv
    cases mx with
    | some m => cases h
    | none =>
      obtain rfl : mx' = none := e3.1 rfl
      simp only at h
      cases hl : bound 0 lo with
      | none => rw [hl] at h; simp at h
      | some l =>
        cases hh : bound s.size hi with
        | none => rw [hl, hh] at h; simp at h
        | some m =>
          rw [hl, hh] at h
          simp only [Option.bind_some] at h
          split at h
          · rename_i hc
            simp at h; subst h
            have b1 := bound_sound e1 r1 hl (y := 0)
            have b2 := bound_sound e2 r2 hh (y := 0)
            have := sliceBounds_run (P := P) (w := w) (isS := false) (len := s.size) (cap := s.size) (m := s.size) b1 b2 (.inl ⟨rfl, rfl⟩) hc.1 hc.2 (Nat.le_refl _) (fun _ => hc.2)
            exact ⟨_, by simp [Instr.sliceAt, Instr.slice, run_underlying ht, this], .s⟩
          · cases h
  · rename_i el rows ex hd
    have ht := tyi_slice hd
    have hel : elemTy (tyi P t) = el := by simp [elemTy, hd]
    have hkn := hk (by simp [isSlice, hd])
    rw [hel] at h hkn
    obtain ⟨d3, i3, hd3, hi3, hs3, _⟩ := tyi_known hkn
    cases hl : bound 0 lo with
    | none => rw [hl] at h; simp at h
    | some l =>
    cases hh : bound rows.length hi with
    | none => rw [hl, hh] at h; simp at h
    | some hgh =>
    cases hm : bound hgh mx with
    | none => rw [hl, hh] at h; simp [hm] at h
    | some m =>
    rw [hl, hh] at h
    simp only [Option.bind_some, hm] at h
    split at h
    · rename_i hc
      obtain ⟨hc1, hc2, rfl, hok, hmx⟩ := hc
      simp at h; subst h
      cases hv with | fr hv =>
      cases hv with | sl _ _ a cap ad sz c hcap hex ha had hsz hcell hr =>
      have b1 := bound_sound e1 r1 hl (y := 0)
      have b2 := bound_sound e2 r2 hh (y := 0)
      have b3 := bound_sound e3 r3 hm (y := 0)
      obtain ⟨M, hM, hMc⟩ : ∃ M, (Instr.sliceBounds true rows.length cap lo' hi' mx').run P w = .ok (l, m, M) w ∧ m ≤ M ∧ M ≤ cap ∧ (mx.isSome = true → M = m) ∧ (mx = none → M = cap) := by
        cases mx with
        | none =>
          obtain rfl : mx' = none := e3.1 rfl
          exact ⟨cap, sliceBounds_run b1 b2 (.inl ⟨rfl, rfl⟩) hc1 (by omega) (Nat.le_refl _) (fun _ => by omega), by omega, Nat.le_refl _, by simp, fun _ => rfl⟩
        | some q =>
          have hne : mx' ≠ none := fun h => by cases (e3.2 h)
          have hhi : hi' ≠ none := fun h => by simp [e2.2 h] at hmx
          rcases b3 with ⟨h', _⟩ | h'
          · exact absurd h' hne
          · exact ⟨m, sliceBounds_run b1 b2 (.inr ⟨h', hhi⟩) hc1 (Nat.le_refl _) (by omega) (fun h => absurd h hne), Nat.le_refl _, by omega, fun _ => rfl, by simp⟩
      obtain ⟨hM1, hM2, hM3, hM4⟩ := hMc
      have hlen' : ((rows.take m).drop l).length = m - l := by simp; omega
      refine ⟨.slice (if M = l then a else a.map (·.add (l * i3.size))) (m - l) (M - l), by simp [Instr.sliceAt, Instr.slice, run_underlying ht, hM, run_sizeOf' hi3], ?_⟩
      rw [← hlen']
      refine .fr (.sl _ _ _ (M - l) (ad.add (l * sz)) sz (fun i j => c (l + i) j) (by rw [hlen']; omega) (fun hx => ?_) (fun hx => ?_) (fun hx => ?_) (fun r hr' => ?_) (fun i row j pv h1 h2 => ?_) (fun i row j pv h1 h2 => ?_))
      · rw [hlen']
        simp only [Bool.or_eq_true, Bool.and_eq_true] at hx
        rcases hx with hx | ⟨hx1, hx2⟩
        · rw [hM3 hx]
        · have hhi : hi = none := by simpa using hx2
          have hmn : mx = none := by
            cases mx with
            | none => rfl
            | some q => simp [hhi] at hmx
          rw [hM4 hmn, hex hx1]
          subst hhi
          simp [bound] at hh; omega
      · split at hx
        · omega
        · cases a with
          | none => have := ha rfl; omega
          | some q => simp at hx
      · have hlt : l < m := by
          rcases Nat.lt_or_ge l m with h' | h'
          · exact h'
          · exfalso; apply hx; rw [List.drop_eq_nil_iff]; simp; omega
        have hrne : rows ≠ [] := by intro h0; subst h0; simp at hc2; omega
        have hrow : rows[l]? = some (rows.getD l []) := by simp [List.getD, List.getElem?_eq_getElem (show l < rows.length by omega)]
        have hszq : sz = i3.size := by rw [← hsz _ (List.mem_of_getElem? hrow), hs3]; exact rowsOK_spec hok _ (List.mem_of_getElem? hrow)
        rw [if_neg (by omega), had hrne, hszq]; rfl
      · exact hsz r (List.mem_of_mem_take (List.mem_of_mem_drop hr'))
      · rw [List.getElem?_drop, List.getElem?_take] at h1
        split at h1
        · have := hcell _ row j pv h1 h2
          rw [add_add, add_block, ← Nat.add_assoc, ← Nat.add_mul]
          exact this
        · cases h1
      · rw [List.getElem?_drop, List.getElem?_take] at h1
        split at h1
        · exact hr _ row j pv h1 h2
        · cases h1
    · cases h
  · rename_i el id off len ex hd
    have ht := tyi_slice hd
    have hel : elemTy (tyi P t) = el := by simp [elemTy, hd]
    have hkn := hk (by simp [isSlice, hd])
    rw [hel] at h hkn
    obtain ⟨d3, i3, hd3, hi3, hs3, _⟩ := tyi_known hkn
    cases hrows : rowsAt S id with
    | none => rw [hrows] at h; simp at h
    | some rows =>
    rw [hrows] at h
    cases hl : bound 0 lo with
    | none => rw [hl] at h; simp at h
    | some l =>
    cases hh : bound len hi with
    | none => rw [hl, hh] at h; simp at h
    | some hgh =>
    cases hm : bound hgh mx with
    | none => rw [hl, hh] at h; simp [hm] at h
    | some m =>
    rw [hl, hh] at h
    simp only [Option.bind_some, hm] at h
    split at h
    · rename_i hc
      obtain ⟨hc1, hc2, rfl, hok, hin, hmx⟩ := hc
      simp at h; subst h
      have b1 := bound_sound e1 r1 hl (y := 0)
      have b2 := bound_sound e2 r2 hh (y := 0)
      have b3 := bound_sound e3 r3 hm (y := 0)
      have step : ∀ cap a, len ≤ cap → ∃ M, (Instr.sliceAt t (.slice a len cap) lo' hi' mx').run P w = .ok (.slice (if M = l then a else a.map (·.add (l * i3.size))) (m - l) (M - l)) w ∧ m ≤ M ∧ M ≤ cap ∧ (mx.isSome = true → M = m) ∧ (mx = none → M = cap) := by
        intro cap a hcap
        obtain ⟨M, hM, hMc⟩ : ∃ M, (Instr.sliceBounds true len cap lo' hi' mx').run P w = .ok (l, m, M) w ∧ m ≤ M ∧ M ≤ cap ∧ (mx.isSome = true → M = m) ∧ (mx = none → M = cap) := by
          cases mx with
          | none =>
            obtain rfl : mx' = none := e3.1 rfl
            exact ⟨cap, sliceBounds_run b1 b2 (.inl ⟨rfl, rfl⟩) hc1 (by omega) (Nat.le_refl _) (fun _ => by omega), by omega, Nat.le_refl _, by simp, fun _ => rfl⟩
          | some q =>
            have hne : mx' ≠ none := fun h => by cases (e3.2 h)
            have hhi : hi' ≠ none := fun h => by simp [e2.2 h] at hmx
            rcases b3 with ⟨h', _⟩ | h'
            · exact absurd h' hne
            · exact ⟨m, sliceBounds_run b1 b2 (.inr ⟨h', hhi⟩) hc1 (Nat.le_refl _) (by omega) (fun h => absurd h hne), Nat.le_refl _, by omega, fun _ => rfl, by simp⟩
        exact ⟨M, by simp [Instr.sliceAt, Instr.slice, run_underlying ht, hM, run_sizeOf' hi3], hMc⟩
      cases hv with
      | fr hv => cases hv
      | mslNil _ _ a =>
        obtain ⟨M, hrun, hM1, hM2, hM3, hM4⟩ := step 0 a (Nat.le_refl _)
        obtain rfl : M = 0 := by omega
        obtain rfl : l = 0 := by omega
        obtain rfl : m = 0 := by omega
        exact ⟨_, hrun, by simpa using VR.mslNil id _ a⟩
      | msl _ _ _ _ ad cap b hb hlen htot hex had =>
        obtain ⟨M, hrun, hM1, hM2, hM3, hM4⟩ := step cap (some ad) hlen
        obtain ⟨g, f, ha⟩ := rowsAt_some hSA hrows hb
        have hszq : 0 < l → b.sz = i3.size := fun hl0 => by
          have hlt : off < rows.length := by omega
          have hrow : rows[off]? = some (rows.getD off []) := by simp [List.getD, List.getElem?_eq_getElem hlt]
          obtain ⟨h1, _⟩ := hS.row ha hb hrow
          rw [← h1, hs3]; exact rowsOK_spec hok _ (List.mem_of_getElem? hrow)
        refine ⟨_, hrun, ?_⟩
        have hle : (off + l + (M - l)) * b.sz ≤ b.tot := Nat.le_trans (Nat.mul_le_mul_right _ (by omega)) htot
        have hexx : (mx.isSome || (ex && hi.isNone)) = true → M - l = m - l := fun hx => by
          simp only [Bool.or_eq_true, Bool.and_eq_true] at hx
          rcases hx with hx | ⟨hx1, hx2⟩
          · rw [hM3 hx]
          · have hhi : hi = none := by simpa using hx2
            have hmn : mx = none := by
              cases mx with
              | none => rfl
              | some q => simp [hhi] at hmx
            rw [hM4 hmn, hex hx1]
            subst hhi
            simp [bound] at hh; omega
        by_cases hML : M = l
        · rw [if_pos hML]
          exact .msl id (off + l) (m - l) _ ad (M - l) b hb (by omega) hle hexx (fun h0 => by omega)
        · rw [if_neg hML]
          refine .msl id (off + l) (m - l) _ _ (M - l) b hb (by omega) hle hexx (fun h0 => ?_)
          show ad.add (l * i3.size) = _
          rw [had (by omega), add_plain]
          rcases Nat.eq_zero_or_pos l with rfl | hl0
          · simp
          · rw [hszq hl0, Nat.add_mul]
    · cases h
  · cases h
end
end Go.Vs

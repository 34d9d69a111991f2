import Derived.Laws.Bits
import Derived.Test.YtkaeejkajfinhaaGreatMI0
section
set_option linter.unusedVariables false
set_option linter.unusedSimpArgs false
namespace Go.Vs
open Go
def Sees (S : Store) (A : Arrs) (μ : Mu) : Prop := ∀ id a b, arrs S id = some a → μ id = some b → ∃ f, A id = some ⟨a.rows, a.g, f⟩
theorem Sees.refl (S : Store) (μ : Mu) : Sees S (arrs S) μ := fun id a b h _ => ⟨a.f, h⟩
theorem rowsAt_arrs {S : Store} {id : Nat} {rows : List (List PV)} (h : rowsAt S id = some rows) : ∃ g f, arrs S id = some ⟨rows, g, f⟩ := by
  unfold rowsAt at h
  unfold arrs
  split at h
  · rename_i r g f hh
    simp at h; subst h
    exact ⟨g, f, by first | rw [hh] | rfl⟩
  · cases h
theorem rowsAt_some {S : Store} {A : Arrs} {μ : Mu} (hA : Sees S A μ) {id : Nat} {rows : List (List PV)} (h : rowsAt S id = some rows) {b : Blk} (hb : μ id = some b) : ∃ g f, A id = some ⟨rows, g, f⟩ := by
  obtain ⟨g, f, h⟩ := rowsAt_arrs h
  obtain ⟨f', h'⟩ := hA id _ b h hb
  exact ⟨g, f', h'⟩
section
variable {P : Program} {A : Arrs} {w : World} {X : Nat → Prop} {S : Store} {n : Nat} {μ : Mu}
theorem SR.row {A : Arrs} (hS : SR w X A n μ) {id : Nat} {a : Arr} (ha : A id = some a) {b : Blk} (hb : μ id = some b) {i : Nat} {row : List PV} (hi : a.rows[i]? = some row) :
    row.length = b.sz ∧ ∀ j pv, row[j]? = some pv → ∃ u, w.cell? ⟨b.b, i * b.sz + j, none⟩ = some u ∧ flat u = true ∧ VR w (Av X A μ) μ pv u := by
  obtain ⟨c, el, hh, hc, htot, hsz, hcell⟩ := hS.blk id a ha b hb
  refine ⟨hsz row (List.mem_of_getElem? hi), fun j pv hj => ?_⟩
  obtain ⟨u, h1, h2, h3⟩ := hcell i row j pv hi hj
  exact ⟨u, by simp [World.cell?, hh, h1], h2, h3⟩
theorem part_sound {av : Nat → Prop} {t : TypeId} {ad : Addr} {row : List PV} {pv : PV} (hrow : ∀ j pv, row[j]? = some pv → ∃ u, w.cell? (ad.add j) = some u ∧ flat u = true ∧ VR w av μ pv u)
    (h : part (tyi P t) row = some pv) : ∃ u, (loadVar t ad).run P w = .ok u w ∧ VR w av μ pv u := by
  unfold part at h
  split at h
  · cases h
  · rename_i hk
    obtain ⟨d, i, hd, hi, hs, _⟩ := tyi_known (P := P) (t := t) (by simpa using hk)
    rw [isAgg_eq] at h
    simp only [loadVar, Sem.run_bind, run_isAgg hd, Result.andThen_ok]
    by_cases ha : isAggB P t = true
    · rw [if_pos ha] at h ⊢
      split at h
      · rename_i hle
        simp at h; subst h
        have hf : ∀ j, j < i.size → w.cell? (ad.add j) = some ((w.cell? (ad.add j)).getD undef) := fun j hj => by
          obtain ⟨u, hu, _⟩ := hrow j (row[j]'(by omega)) (List.getElem?_eq_getElem (by omega))
          rw [hu]; rfl
        simp only [Sem.run_bind, run_sizeOf' hi, Result.andThen_ok, run_loadCells w ad i.size (fun j => (w.cell? (ad.add j)).getD undef) hf, Sem.run_pure]
        refine ⟨_, rfl, .agg _ _ (by simp; omega) (fun j v hv => ?_) (fun j pv v hp hv => ?_)⟩
        · simp only [List.getElem?_toArray, List.getElem?_map] at hv
          by_cases hj : j < i.size
          · rw [List.getElem?_range hj] at hv
            simp at hv
            obtain ⟨u, hu, hfl, _⟩ := hrow j (row[j]'(by omega)) (List.getElem?_eq_getElem (by omega))
            rw [hu] at hv; simp at hv; subst hv; exact hfl
          · rw [List.getElem?_eq_none (by simpa using hj)] at hv; simp at hv
        · simp only [List.getElem?_toArray, List.getElem?_map] at hv
          by_cases hj : j < i.size
          · rw [List.getElem?_range hj] at hv
            simp at hv
            rw [List.getElem?_take_of_lt (by omega)] at hp
            obtain ⟨u, hu, hfl, hr⟩ := hrow j pv hp
            rw [hu] at hv; simp at hv; subst hv; exact hr
          · rw [List.getElem?_eq_none (by simpa using hj)] at hv; simp at hv
      · cases h
    · rw [if_neg ha] at h ⊢
      cases row with
      | nil => simp at h
      | cons p r =>
        simp at h; subst h
        obtain ⟨u, hu, _, hr⟩ := hrow 0 p rfl
        have h0 : ad.add 0 = ad := by simp [Addr.add]
        rw [h0] at hu
        exact ⟨u, by simp [run_load, hu], hr⟩
theorem load_sound (hS : SR w X A n μ) (hSA : Sees S A μ) {t : TypeId} {x pv : PV} {v : Value} (hv : VR w (Av X (A) μ) μ x v) (h : evLoad (tyi P t) S x = some pv) :
    ∃ u, (Instr.loadAt t v).run P w = .ok u w ∧ VR w (Av X (A) μ) μ pv u := by
  cases x <;> simp only [evLoad, reduceCtorEq] at h
  case cp row =>
    cases hv with | fr hf =>
    cases hf with | cp _ ad c hc hr =>
    simp only [Instr.loadAt, Instr.sureAddr, Sem.run_bind, Sem.run_pure, Result.andThen_ok]
    exact part_sound (fun j pv hj => ⟨c j, (hc j pv hj).1, FR.flat _ _ (hr j pv hj), .fr (hr j pv hj)⟩) h
  case mp id i off =>
    cases hv with
    | fr hf => cases hf
    | mp _ _ _ b hb =>
    cases hr : rowsAt S id with
    | none => rw [hr] at h; simp at h
    | some rows =>
      rw [hr] at h
      simp only [Option.bind_some] at h
      split at h
      · rename_i hi
        obtain ⟨g, f, ha⟩ := rowsAt_some hSA hr hb
        obtain ⟨hlen, hcell⟩ := hS.row ha hb (i := i) (row := rows.getD i []) (by simp [List.getD, List.getElem?_eq_getElem hi])
        simp only [Instr.loadAt, Instr.sureAddr, Sem.run_bind, Sem.run_pure, Result.andThen_ok]
        refine part_sound (fun j pv hj => ?_) h
        rw [List.getElem?_drop] at hj
        obtain ⟨u, h1, h2, h3⟩ := hcell (off + j) pv hj
        exact ⟨u, by rw [add_plain, Nat.add_assoc]; exact h1, h2, h3⟩
      · cases h
theorem rowsOK_spec {k : Nat} {rows : List (List PV)} (h : rowsOK k rows = true) : ∀ r ∈ rows, r.length = k := by
  intro r hr
  unfold rowsOK at h
  rw [List.all_eq_true] at h
  simpa using h r hr
theorem indexAddr_sound (hS : SR w X A n μ) (hSA : Sees S A μ) {t el : TypeId} (ht : P.underlying t = some (.slice el)) (hel : (tyi P el).known = true) {x i pv : PV} {v u : Value}
    (hv : VR w (Av X (A) μ) μ x v) (hu : VR w (Av X (A) μ) μ i u) (h : evIndexAddr (tyi P el).size S x i = some pv) :
    ∃ z, (Instr.indexAt t v u).run P w = .ok z w ∧ VR w (Av X (A) μ) μ pv z := by
  obtain ⟨de, ie, hde, hie, hse, _⟩ := tyi_known hel
  cases x <;> simp only [evIndexAddr, reduceCtorEq] at h
  case sl rows ex =>
    cases i <;> simp only [reduceCtorEq] at h
    rename_i k m
    obtain rfl := hu.int_inv
    split at h
    · rename_i hm
      split at h
      · rename_i hlen
        simp at h; subst h
        cases hv with | fr hf =>
        cases hf with | sl _ _ a cap ad sz c hcap hex ha had hsz hc hr =>
        have hne : rows ≠ [] := by intro h0; subst h0; simp at hm; omega
        have := had hne
        subst this
        have hmn : m.toNat < rows.length := by omega
        have hrow : rows[m.toNat]? = some (rows.getD m.toNat []) := by simp [List.getD, List.getElem?_eq_getElem hmn]
        have hsz' : sz = (tyi P el).size := by rw [← hsz _ (List.mem_of_getElem? hrow)]; exact hlen
        simp only [Instr.indexAt, asIntOf, Sem.run_bind, Sem.run_pure, Result.andThen_ok, run_underlying ht, run_sizeOf' hie]
        rw [if_pos (by omega)]
        simp only [Sem.run_bind, run_sizeOf' hie, Result.andThen_ok, Sem.run_pure]
        refine ⟨_, rfl, .fr (.cp _ _ (fun j => c m.toNat j) (fun j pv hj => ?_) (fun j pv hj => hr _ _ _ _ hrow hj))⟩
        have := hc m.toNat _ j pv hrow hj
        rw [add_add, add_block, hse, ← hsz']
        exact this
      · cases h
    · cases h
  case msl id off len ex =>
    cases i <;> simp only [reduceCtorEq] at h
    rename_i k m
    obtain rfl := hu.int_inv
    split at h
    · rename_i hm
      cases hr : rowsAt S id with
      | none => rw [hr] at h; simp at h
      | some rows =>
        rw [hr] at h
        simp only [Option.bind_some] at h
        split at h
        · rename_i hok
          simp at h; subst h
          cases hv with
          | fr hf => cases hf
          | mslNil => omega
          | msl _ _ _ _ ad cap b hb hlen htot hex had =>
          obtain ⟨g, f, ha⟩ := rowsAt_some hSA hr hb
          have had' := had (by omega)
          subst had'
          have hlt : off + m.toNat < rows.length := by omega
          obtain ⟨hlen', _⟩ := hS.row ha hb (i := off + m.toNat) (row := rows.getD (off + m.toNat) []) (by simp [List.getD, List.getElem?_eq_getElem hlt])
          have hsz : b.sz = (tyi P el).size := by
            rw [← hlen']
            exact rowsOK_spec hok.1 _ (by simp [List.getD, List.getElem?_eq_getElem hlt])
          simp only [Instr.indexAt, asIntOf, Sem.run_bind, Sem.run_pure, Result.andThen_ok, run_underlying ht]
          rw [if_pos (by omega)]
          simp only [Sem.run_bind, run_sizeOf' hie, Result.andThen_ok, Sem.run_pure, add_plain]
          refine ⟨_, rfl, ?_⟩
          have := VR.mp (w := w) (av := Av X (A) μ) (μ := μ) id (off + m.toNat) 0 b hb
          rw [Nat.add_zero, Nat.add_mul] at this
          rw [hse, ← hsz]
          exact this
        · cases h
    · cases h
end
end Go.Vs
end
section
set_option linter.unusedVariables false
set_option linter.unusedSimpArgs false
namespace Go.Vs
open Go
section
variable {P : Program} {A : Arrs} {w : World} {X : Nat → Prop} {S : Store} {n : Nat} {μ : Mu} {av : Nat → Prop}
theorem fieldAddr_sound {t : TypeId} {f : Nat} {x pv : PV} {v : Value} (hv : VR w av μ x v) (h : evFieldAddr (tyi P t) f x = some pv) :
    ∃ z, (Instr.fieldAt t v f).run P w = .ok z w ∧ VR w av μ pv z := by
  have key : ∀ (a : Addr) (o k : Nat) (g : Bool), (∃ fs, (tyi P t).d = .struct fs ∧ fs[f]? = some (o, k, g)) → k ≠ 0 → (Instr.fieldAt t (.pointer (some a)) f).run P w = .ok (.pointer (some (a.add o))) w := by
    intro a o k g ⟨fs, hd, hf⟩ hk
    obtain ⟨gs, hu, rfl⟩ := tyi_struct hd
    rw [List.getElem?_map] at hf
    cases hg : gs.toList[f]? with
    | none => rw [hg] at hf; simp at hf
    | some fl =>
      rw [hg] at hf
      simp at hf
      obtain ⟨rfl, rfl, rfl⟩ := hf
      rw [Array.getElem?_toList] at hg
      obtain ⟨d, i, hd2, hi, hs⟩ := sizeK_ne hk
      · have hne : i.size ≠ 0 := by rw [hs]; exact hk
        simp [Instr.fieldAt, run_underlying hu, hg, Instr.sureAddr, fieldPlace, run_sizeOf' hi, hne]
  cases x <;> simp only [evFieldAddr, reduceCtorEq] at h
  case cp row =>
    cases hd : (tyi P t).d <;> simp only [hd, reduceCtorEq] at h
    rename_i fs
    cases hf : fs[f]? with
    | none => rw [hf] at h; simp at h
    | some q =>
      obtain ⟨o, k, g⟩ := q
      rw [hf] at h
      simp only at h
      split at h
      · cases h
      · rename_i hk
        simp at h; subst h
        cases hv with | fr hv =>
        cases hv with | cp _ ad c hc hr =>
        refine ⟨_, key ad o k g ⟨fs, hd, hf⟩ hk, .fr (.cp _ _ (fun j => c (o + j)) (fun j pv hj => ?_) (fun j pv hj => ?_))⟩
        · rw [List.getElem?_drop] at hj
          have := hc _ pv hj
          rw [add_add, add_block]; exact this
        · rw [List.getElem?_drop] at hj; exact hr _ pv hj
  case mp id i off =>
    cases hd : (tyi P t).d <;> simp only [hd, reduceCtorEq] at h
    rename_i fs
    cases hf : fs[f]? with
    | none => rw [hf] at h; simp at h
    | some q =>
      obtain ⟨o, k, g⟩ := q
      rw [hf] at h
      simp only at h
      split at h
      · cases h
      · rename_i hk
        simp at h; subst h
        cases hv with
        | fr hv => cases hv
        | mp _ _ _ b hb =>
        refine ⟨_, key _ o k g ⟨fs, hd, hf⟩ hk, ?_⟩
        rw [add_plain, Nat.add_assoc]
        exact .mp id i (off + o) b hb
theorem field_sound {t : TypeId} {f : Nat} {x pv : PV} {v : Value} (hv : VR w av μ x v) (h : evField (tyi P t) f x = some pv) :
    ∃ z, (Instr.field t v f).run P w = .ok z w ∧ VR w av μ pv z := by
  cases x <;> simp only [evField, reduceCtorEq] at h
  case agg cells =>
    cases hd : (tyi P t).d <;> simp only [hd, reduceCtorEq] at h
    rename_i fs
    cases hf : fs[f]? with
    | none => rw [hf] at h; simp at h
    | some q =>
      obtain ⟨o, k, g⟩ := q
      rw [hf] at h
      simp only at h
      obtain ⟨gs, hu, rfl⟩ := tyi_struct hd
      rw [List.getElem?_map] at hf
      cases hg : gs.toList[f]? with
      | none => rw [hg] at hf; simp at hf
      | some fl =>
        rw [hg] at hf
        simp at hf
        obtain ⟨rfl, rfl, rfl⟩ := hf
        rw [Array.getElem?_toList] at hg
        cases hv with
        | fr hv => cases hv
        | agg _ cs hn hfl hr =>
        simp only [Instr.field, Sem.run_bind, run_underlying hu, Result.andThen_ok, hg, asAgg, Sem.run_pure, Go.part]
        split at h
        · cases h
        rename_i hk
        obtain ⟨d2, i3, hd2, hi3, hs3⟩ := sizeK_ne hk
        by_cases ha : isAggB P fl.type = true
        · rw [if_pos ha] at h
          split at h
          · rename_i hle
            simp at h; subst h
            simp only [Sem.run_bind, run_isAgg hd2, ha, Result.andThen_ok, if_true, run_sizeOf' hi3, Sem.run_pure]
            refine ⟨_, rfl, .agg _ _ ?_ (fun j v hv => ?_) (fun j pv v hp hv => ?_)⟩
            · simp; omega
            · rw [Array.getElem?_extract] at hv
              split at hv
              · exact hfl _ v hv
              · cases hv
            · rw [Array.getElem?_extract] at hv
              split at hv
              · rw [List.getElem?_take_of_lt (by omega), List.getElem?_drop] at hp
                exact hr _ pv v hp hv
              · cases hv
          · cases h
        · rw [if_neg ha] at h
          have hj : fl.offset < cs.size := by
            have := (List.getElem?_eq_some_iff.1 h).1
            omega
          have hc := Array.getElem?_eq_getElem hj
          simp only [Sem.run_bind, run_isAgg hd2, ha, Result.andThen_ok, if_false, Bool.false_eq_true, hc, Sem.run_pure]
          exact ⟨_, rfl, hr _ pv _ h hc⟩
theorem bound_sound {d m y : Nat} {x : Option PV} {v : Option Value} (hx : x = none ↔ v = none) (hv : ∀ p u, x = some p → v = some u → VR w av μ p u) (h : bound d x = some m) :
    (v = none ∧ m = d) ∨ ∃ k, v = some (.int k m) := by
  cases x with
  | none => simp [bound] at h; exact .inl ⟨hx.1 rfl, h.symm⟩
  | some p =>
    cases v with
    | none => simp at hx
    | some u =>
      have := hv p u rfl rfl
      cases p <;> simp only [bound, reduceCtorEq] at h
      rename_i k z
      obtain rfl := this.int_inv
      split at h
      · simp at h; exact .inr ⟨k, by congr 2; omega⟩
      · cases h
theorem sliceBound_run {m y : Nat} {k : IntKind} {code : BoundsCode} (h : m ≤ y) : (Instr.sliceBound (.int k m) y code).run P w = .ok m w := by
  simp [Instr.sliceBound, asIntOf, h]
theorem sliceBounds_run {isS : Bool} {len cap l h m : Nat} {lo hi mx : Option Value} (hl : (lo = none ∧ l = 0) ∨ ∃ k, lo = some (.int k l)) (hh : (hi = none ∧ h = len) ∨ ∃ k, hi = some (.int k h))
    (hm : (mx = none ∧ m = cap) ∨ ((∃ k, mx = some (.int k m)) ∧ hi ≠ none)) (h1 : l ≤ h) (h2 : h ≤ m) (h3 : m ≤ cap) (hc : mx = none → h ≤ cap) :
    (Instr.sliceBounds isS len cap lo hi mx).run P w = .ok (l, h, m) w := by
  rcases hm with ⟨rfl, rfl⟩ | ⟨⟨km, rfl⟩, hne⟩
  · rcases hh with ⟨rfl, rfl⟩ | ⟨kh, rfl⟩ <;> rcases hl with ⟨rfl, rfl⟩ | ⟨kl, rfl⟩ <;>
      simp [Instr.sliceBounds, sliceBound_run h1, sliceBound_run h2, h1, h2]
  · rcases hh with ⟨rfl, rfl⟩ | ⟨kh, rfl⟩
    · exact absurd rfl hne
    · rcases hl with ⟨rfl, rfl⟩ | ⟨kl, rfl⟩ <;>
      simp [Instr.sliceBounds, sliceBound_run h1, sliceBound_run h2, sliceBound_run h3]
theorem slice_sound (hS : SR w X A n μ) (hSA : Sees S A μ) {t : TypeId} (hk : isSlice (tyi P t) = true → (tyi P (elemTy (tyi P t))).known = true) {x pv : PV} {v : Value} {lo hi mx : Option PV} {lo' hi' mx' : Option Value}
    (hv : VR w (Av X (A) μ) μ x v) (e1 : lo = none ↔ lo' = none) (r1 : ∀ p u, lo = some p → lo' = some u → VR w (Av X (A) μ) μ p u)
    (e2 : hi = none ↔ hi' = none) (r2 : ∀ p u, hi = some p → hi' = some u → VR w (Av X (A) μ) μ p u)
    (e3 : mx = none ↔ mx' = none) (r3 : ∀ p u, mx = some p → mx' = some u → VR w (Av X (A) μ) μ p u)
    (h : evSlice (tyi P t) (tyi P (elemTy (tyi P t))).size S x lo hi mx = some pv) :
    ∃ z, (Instr.sliceAt t v lo' hi' mx').run P w = .ok z w ∧ VR w (Av X (A) μ) μ pv z := by
  unfold evSlice at h
  split at h
  · rename_i s hd
    have ht := tyi_str hd
    obtain rfl := hv.str_inv
    cases mx with
    | some m => cases h
    | none =>
      obtain rfl : mx' = none := e3.1 rfl
      simp only at h
      cases hl : bound 0 lo with
      | none => rw [hl] at h; simp at h
      | some l =>
        cases hh : bound s.size hi with
        | none => rw [hl, hh] at h; simp at h
        | some m =>
          rw [hl, hh] at h
          simp only [Option.bind_some] at h
          split at h
          · rename_i hc
            simp at h; subst h
            have b1 := bound_sound e1 r1 hl (y := 0)
            have b2 := bound_sound e2 r2 hh (y := 0)
            have := sliceBounds_run (P := P) (w := w) (isS := false) (len := s.size) (cap := s.size) (m := s.size) b1 b2 (.inl ⟨rfl, rfl⟩) hc.1 hc.2 (Nat.le_refl _) (fun _ => hc.2)
            exact ⟨_, by simp [Instr.sliceAt, Instr.slice, run_underlying ht, this], .s⟩
          · cases h
  · rename_i el rows ex hd
    have ht := tyi_slice hd
    have hel : elemTy (tyi P t) = el := by simp [elemTy, hd]
    have hkn := hk (by simp [isSlice, hd])
    rw [hel] at h hkn
    obtain ⟨d3, i3, hd3, hi3, hs3, _⟩ := tyi_known hkn
    cases hl : bound 0 lo with
    | none => rw [hl] at h; simp at h
    | some l =>
    cases hh : bound rows.length hi with
    | none => rw [hl, hh] at h; simp at h
    | some hgh =>
    cases hm : bound hgh mx with
    | none => rw [hl, hh] at h; simp [hm] at h
    | some m =>
    rw [hl, hh] at h
    simp only [Option.bind_some, hm] at h
    split at h
    · rename_i hc
      obtain ⟨hc1, hc2, rfl, hok, hmx⟩ := hc
      simp at h; subst h
      cases hv with | fr hv =>
      cases hv with | sl _ _ a cap ad sz c hcap hex ha had hsz hcell hr =>
      have b1 := bound_sound e1 r1 hl (y := 0)
      have b2 := bound_sound e2 r2 hh (y := 0)
      have b3 := bound_sound e3 r3 hm (y := 0)
      obtain ⟨M, hM, hMc⟩ : ∃ M, (Instr.sliceBounds true rows.length cap lo' hi' mx').run P w = .ok (l, m, M) w ∧ m ≤ M ∧ M ≤ cap ∧ (mx.isSome = true → M = m) ∧ (mx = none → M = cap) := by
        cases mx with
        | none =>
          obtain rfl : mx' = none := e3.1 rfl
          exact ⟨cap, sliceBounds_run b1 b2 (.inl ⟨rfl, rfl⟩) hc1 (by omega) (Nat.le_refl _) (fun _ => by omega), by omega, Nat.le_refl _, by simp, fun _ => rfl⟩
        | some q =>
          have hne : mx' ≠ none := fun h => by cases (e3.2 h)
          have hhi : hi' ≠ none := fun h => by simp [e2.2 h] at hmx
          rcases b3 with ⟨h', _⟩ | h'
          · exact absurd h' hne
          · exact ⟨m, sliceBounds_run b1 b2 (.inr ⟨h', hhi⟩) hc1 (Nat.le_refl _) (by omega) (fun h => absurd h hne), Nat.le_refl _, by omega, fun _ => rfl, by simp⟩
      obtain ⟨hM1, hM2, hM3, hM4⟩ := hMc
      have hlen' : ((rows.take m).drop l).length = m - l := by simp; omega
      refine ⟨.slice (if M = l then a else a.map (·.add (l * i3.size))) (m - l) (M - l), by simp [Instr.sliceAt, Instr.slice, run_underlying ht, hM, run_sizeOf' hi3], ?_⟩
      rw [← hlen']
      refine .fr (.sl _ _ _ (M - l) (ad.add (l * sz)) sz (fun i j => c (l + i) j) (by rw [hlen']; omega) (fun hx => ?_) (fun hx => ?_) (fun hx => ?_) (fun r hr' => ?_) (fun i row j pv h1 h2 => ?_) (fun i row j pv h1 h2 => ?_))
      · rw [hlen']
        simp only [Bool.or_eq_true, Bool.and_eq_true] at hx
        rcases hx with hx | ⟨hx1, hx2⟩
        · rw [hM3 hx]
        · have hhi : hi = none := by simpa using hx2
          have hmn : mx = none := by
            cases mx with
            | none => rfl
            | some q => simp [hhi] at hmx
          rw [hM4 hmn, hex hx1]
          subst hhi
          simp [bound] at hh; omega
      · split at hx
        · omega
        · cases a with
          | none => have := ha rfl; omega
          | some q => simp at hx
      · have hlt : l < m := by
          rcases Nat.lt_or_ge l m with h' | h'
          · exact h'
          · exfalso; apply hx; rw [List.drop_eq_nil_iff]; simp; omega
        have hrne : rows ≠ [] := by intro h0; subst h0; simp at hc2; omega
        have hrow : rows[l]? = some (rows.getD l []) := by simp [List.getD, List.getElem?_eq_getElem (show l < rows.length by omega)]
        have hszq : sz = i3.size := by rw [← hsz _ (List.mem_of_getElem? hrow), hs3]; exact rowsOK_spec hok _ (List.mem_of_getElem? hrow)
        rw [if_neg (by omega), had hrne, hszq]; rfl
      · exact hsz r (List.mem_of_mem_take (List.mem_of_mem_drop hr'))
      · rw [List.getElem?_drop, List.getElem?_take] at h1
        split at h1
        · have := hcell _ row j pv h1 h2
          rw [add_add, add_block, ← Nat.add_assoc, ← Nat.add_mul]
          exact this
        · cases h1
      · rw [List.getElem?_drop, List.getElem?_take] at h1
        split at h1
        · exact hr _ row j pv h1 h2
        · cases h1
    · cases h
  · rename_i el id off len ex hd
    have ht := tyi_slice hd
    have hel : elemTy (tyi P t) = el := by simp [elemTy, hd]
    have hkn := hk (by simp [isSlice, hd])
    rw [hel] at h hkn
    obtain ⟨d3, i3, hd3, hi3, hs3, _⟩ := tyi_known hkn
    cases hrows : rowsAt S id with
    | none => rw [hrows] at h; simp at h
    | some rows =>
    rw [hrows] at h
    cases hl : bound 0 lo with
    | none => rw [hl] at h; simp at h
    | some l =>
    cases hh : bound len hi with
    | none => rw [hl, hh] at h; simp at h
    | some hgh =>
    cases hm : bound hgh mx with
    | none => rw [hl, hh] at h; simp [hm] at h
    | some m =>
    rw [hl, hh] at h
    simp only [Option.bind_some, hm] at h
    split at h
    · rename_i hc
      obtain ⟨hc1, hc2, rfl, hok, hin, hmx⟩ := hc
      simp at h; subst h
      have b1 := bound_sound e1 r1 hl (y := 0)
      have b2 := bound_sound e2 r2 hh (y := 0)
      have b3 := bound_sound e3 r3 hm (y := 0)
      have step : ∀ cap a, len ≤ cap → ∃ M, (Instr.sliceAt t (.slice a len cap) lo' hi' mx').run P w = .ok (.slice (if M = l then a else a.map (·.add (l * i3.size))) (m - l) (M - l)) w ∧ m ≤ M ∧ M ≤ cap ∧ (mx.isSome = true → M = m) ∧ (mx = none → M = cap) := by
        intro cap a hcap
        obtain ⟨M, hM, hMc⟩ : ∃ M, (Instr.sliceBounds true len cap lo' hi' mx').run P w = .ok (l, m, M) w ∧ m ≤ M ∧ M ≤ cap ∧ (mx.isSome = true → M = m) ∧ (mx = none → M = cap) := by
          cases mx with
          | none =>
            obtain rfl : mx' = none := e3.1 rfl
            exact ⟨cap, sliceBounds_run b1 b2 (.inl ⟨rfl, rfl⟩) hc1 (by omega) (Nat.le_refl _) (fun _ => by omega), by omega, Nat.le_refl _, by simp, fun _ => rfl⟩
          | some q =>
            have hne : mx' ≠ none := fun h => by cases (e3.2 h)
            have hhi : hi' ≠ none := fun h => by simp [e2.2 h] at hmx
            rcases b3 with ⟨h', _⟩ | h'
            · exact absurd h' hne
            · exact ⟨m, sliceBounds_run b1 b2 (.inr ⟨h', hhi⟩) hc1 (Nat.le_refl _) (by omega) (fun h => absurd h hne), Nat.le_refl _, by omega, fun _ => rfl, by simp⟩
        exact ⟨M, by simp [Instr.sliceAt, Instr.slice, run_underlying ht, hM, run_sizeOf' hi3], hMc⟩
      cases hv with
      | fr hv => cases hv
      | mslNil _ _ a =>
        obtain ⟨M, hrun, hM1, hM2, hM3, hM4⟩ := step 0 a (Nat.le_refl _)
        obtain rfl : M = 0 := by omega
        obtain rfl : l = 0 := by omega
        obtain rfl : m = 0 := by omega
        exact ⟨_, hrun, by simpa using VR.mslNil id _ a⟩
      | msl _ _ _ _ ad cap b hb hlen htot hex had =>
        obtain ⟨M, hrun, hM1, hM2, hM3, hM4⟩ := step cap (some ad) hlen
        obtain ⟨g, f, ha⟩ := rowsAt_some hSA hrows hb
        have hszq : 0 < l → b.sz = i3.size := fun hl0 => by
          have hlt : off < rows.length := by omega
          have hrow : rows[off]? = some (rows.getD off []) := by simp [List.getD, List.getElem?_eq_getElem hlt]
          obtain ⟨h1, _⟩ := hS.row ha hb hrow
          rw [← h1, hs3]; exact rowsOK_spec hok _ (List.mem_of_getElem? hrow)
        refine ⟨_, hrun, ?_⟩
        have hle : (off + l + (M - l)) * b.sz ≤ b.tot := Nat.le_trans (Nat.mul_le_mul_right _ (by omega)) htot
        have hexx : (mx.isSome || (ex && hi.isNone)) = true → M - l = m - l := fun hx => by
          simp only [Bool.or_eq_true, Bool.and_eq_true] at hx
          rcases hx with hx | ⟨hx1, hx2⟩
          · rw [hM3 hx]
          · have hhi : hi = none := by simpa using hx2
            have hmn : mx = none := by
              cases mx with
              | none => rfl
              | some q => simp [hhi] at hmx
            rw [hM4 hmn, hex hx1]
            subst hhi
            simp [bound] at hh; omega
        by_cases hML : M = l
        · rw [if_pos hML]
          exact .msl id (off + l) (m - l) _ ad (M - l) b hb (by omega) hle hexx (fun h0 => by omega)
        · rw [if_neg hML]
          refine .msl id (off + l) (m - l) _ _ (M - l) b hb (by omega) hle hexx (fun h0 => ?_)
          show ad.add (l * i3.size) = _
          rw [had (by omega), add_plain]
          rcases Nat.eq_zero_or_pos l with rfl | hl0
          · simp
          · rw [hszq hl0, Nat.add_mul]
    · cases h
  · cases h
end
end Go.Vs
end
section
set_option linter.unusedVariables false
set_option linter.unusedSimpArgs false
namespace Go.Vs
open Go
section
variable {P : Program} {w : World} {X : Nat → Prop} {S : Store} {n : Nat} {μ : Mu} {av : Nat → Prop}
theorem index_sound {t : TypeId} {x i pv : PV} {v u : Value} (hv : VR w av μ x v) (hu : VR w av μ i u) {esz : Nat} {eagg : Bool}
    (he : ∀ len el, (tyi P t).d = .array len el → (tyi P el).known = true ∧ esz = (tyi P el).size ∧ eagg = (tyi P el).isAgg)
    (h : evIndex (tyi P t) esz eagg x i = some pv) : ∃ z, (Instr.index t v u).run P w = .ok z w ∧ VR w av μ pv z := by
  cases x <;> simp only [evIndex, reduceCtorEq] at h
  case str s =>
    cases i <;> simp only [reduceCtorEq] at h
    rename_i k m
    obtain rfl := hv.str_inv
    obtain rfl := hu.int_inv
    cases hd : (tyi P t).d <;> simp only [hd, reduceCtorEq] at h
    have ht := tyi_str hd
    split at h
    · rename_i hm
      cases h
      have hlt : m.toNat < s.size := by omega
      have hb : s[m.toNat]? = some (s.data.toList.getD m.toNat 0) := by
        rw [show s[m.toNat]? = some (s[m.toNat]'hlt) from by simp [hlt]]
        congr 1
        rw [List.getD, List.getElem?_eq_getElem (by simpa using hlt)]
        rfl
      refine ⟨.int .u8 (s.data.toList.getD m.toNat 0).toNat, ?_, .i⟩
      simp only [Instr.index, asIntOf, Sem.run_bind, Sem.run_pure, Result.andThen_ok, run_underlying ht, if_pos hm.1, hb]
    · cases h
  case agg cs =>
    cases i <;> simp only [reduceCtorEq] at h
    rename_i k m
    obtain rfl := hu.int_inv
    cases hd : (tyi P t).d <;> simp only [hd, reduceCtorEq] at h
    rename_i len el
    obtain ⟨hk, rfl, rfl⟩ := he len el hd
    have ht := tyi_array hd
    obtain ⟨d2, i2, hd2, hi2, hs2, _⟩ := tyi_known hk
    cases hv with
    | fr hv => cases hv
    | agg _ us hn hfl hr =>
    split at h
    · rename_i hm
      rw [isAgg_eq] at h
      by_cases ha : isAggB P el = true
      · rw [if_pos ha] at h
        split at h
        · rename_i hle
          simp at h; subst h
          refine ⟨.agg (us.extract (m.toNat * i2.size) (m.toNat * i2.size + i2.size)), ?_, .agg _ _ ?_ (fun j v hv => ?_) (fun j pv v hp hv => ?_)⟩
          · simp only [Instr.index, asIntOf, Sem.run_bind, Sem.run_pure, Result.andThen_ok, run_underlying ht, if_pos hm, run_sizeOf' hi2, Go.part, run_isAgg hd2, ha, if_true]
          · simp [hs2]
            rw [Nat.add_mul] at hle
            omega
          · rw [Array.getElem?_extract] at hv
            split at hv
            · exact hfl _ v hv
            · cases hv
          · rw [Array.getElem?_extract] at hv
            split at hv
            · rename_i hj
              rw [List.getElem?_take_of_lt (by rw [← hs2]; omega), List.getElem?_drop, ← hs2] at hp
              exact hr _ pv v hp hv
            · cases hv
        · cases h
      · rw [if_neg ha] at h
        have hj : m.toNat * (tyi P el).size < us.size := by
          have := (List.getElem?_eq_some_iff.1 h).1
          omega
        have hc := Array.getElem?_eq_getElem hj
        refine ⟨_, ?_, hr _ pv _ h hc⟩
        simp only [Instr.index, asIntOf, Sem.run_bind, Sem.run_pure, Result.andThen_ok, run_underlying ht, if_pos hm, run_sizeOf' hi2, Go.part, run_isAgg hd2, ha, if_false, Bool.false_eq_true, hs2, hc]
    · cases h
theorem intOp_sound {op : BinOp} {k : IntKind} {a b : Int} {pv : PV} (hop : op ≠ .shl ∧ op ≠ .shr) (h : intOp op k a b = some pv) (t : TypeId) :
    ∃ z, (binOp op t (.int k a) (.int k b)).run P w = .ok z w ∧ VR w av μ pv z := by
  cases op <;> simp only [intOp, reduceCtorEq, Option.some.injEq] at h <;> try (exact absurd rfl hop.1) <;> try (exact absurd rfl hop.2)
  case quo =>
    split at h
    · cases h
    · rename_i hb; simp at h; subst h
      exact ⟨_, by simp [binOp, Op.intDiv, hb], .i⟩
  case rem =>
    split at h
    · cases h
    · rename_i hb; simp at h; subst h
      exact ⟨_, by simp [binOp, Op.intDiv, hb], .i⟩
  all_goals subst h
  case add => exact ⟨_, by simp [binOp, Op.intArith], .i⟩
  case sub => exact ⟨_, by simp [binOp, Op.intArith], .i⟩
  case mul => exact ⟨_, by simp [binOp, Op.intArith], .i⟩
  case and => exact ⟨_, by simp [binOp, Op.intBits], .i⟩
  case or => exact ⟨_, by simp [binOp, Op.intBits], .i⟩
  case xor => exact ⟨_, by simp [binOp, Op.intBits], .i⟩
  case andNot => exact ⟨_, by simp [binOp, Op.intBits], .i⟩
  case eql => exact ⟨.bool (a == b), by simp [binOp, Op.intCmp], by rw [show (a == b) = decide (a = b) from rfl]; exact .b⟩
  case neq => exact ⟨.bool (a != b), by simp [binOp, Op.intCmp], by rw [show (a != b) = !decide (a = b) from rfl]; exact .b⟩
  case lss => exact ⟨_, by simp [binOp, Op.intCmp], .b⟩
  case leq => exact ⟨_, by simp [binOp, Op.intCmp], .b⟩
  case gtr => exact ⟨_, by simp [binOp, Op.intCmp], .b⟩
  case geq => exact ⟨_, by simp [binOp, Op.intCmp], .b⟩
theorem shiftOp_sound {op : BinOp} {k k' : IntKind} {a b : Int} {pv : PV} (hop : op = .shl ∨ op = .shr) (h : shiftOp op k a b = some pv) (t : TypeId) :
    ∃ z, (binOp op t (.int k a) (.int k' b)).run P w = .ok z w ∧ VR w av μ pv z := by
  unfold shiftOp at h
  split at h
  · cases h
  · rename_i hb
    rcases hop with rfl | rfl
    · simp at h; subst h
      exact ⟨_, by simp [binOp, Op.shift, hb], .i⟩
    · simp at h; subst h
      exact ⟨_, by simp [binOp, Op.shift, hb], .i⟩
theorem strOp_sound {op : BinOp} {a b : ByteArray} {pv : PV} (h : strOp op a b = some pv) (t : TypeId) :
    ∃ z, (binOp op t (.string a) (.string b)).run P w = .ok z w ∧ VR w av μ pv z := by
  cases op <;> simp only [strOp, reduceCtorEq, Option.some.injEq] at h
  case add =>
    split at h
    · rename_i hle; simp at h; subst h
      refine ⟨.string (a ++ b), ?_, .s⟩
      have : ¬ (((a.size + b.size : Nat) : Int) > IntKind.i64.max) := by simp only [IntKind.max, IntKind.signed, IntKind.bits]; omega
      simp only [binOp, Op.stringOp, if_neg this]; rfl
    · cases h
  all_goals subst h
  case eql => exact ⟨_, by simp [binOp, Op.stringOp], .b⟩
  case neq => exact ⟨_, by simp [binOp, Op.stringOp], .b⟩
  case lss => exact ⟨_, by simp [binOp, Op.stringOp], .b⟩
  case leq => exact ⟨_, by simp [binOp, Op.stringOp], .b⟩
  case gtr => exact ⟨_, by simp [binOp, Op.stringOp], .b⟩
  case geq => exact ⟨_, by simp [binOp, Op.stringOp], .b⟩
theorem equalIn_bool {t : TypeId} (ht : P.underlying t = some .bool) (d : Nat) (a b : Bool) : (Op.equalIn (d + 1) t (.bool a) (.bool b)).run P w = .ok (a == b) w := by
  simp [Op.equalIn, run_underlying ht]
theorem eql_bool {t : TypeId} (ht : P.underlying t = some .bool) (a b : Bool) : (binOp .eql t (.bool a) (.bool b)).run P w = .ok (.bool (a == b)) w := by
  have h : (Op.equal t (.bool a) (.bool b)).run P w = .ok (a == b) w := equalIn_bool ht 9999 a b
  show (Op.equal t (.bool a) (.bool b) >>= fun r => pure (Value.bool r) : Sem Value).run P w = _
  rw [Sem.run_bind, h]; rfl
theorem neq_bool {t : TypeId} (ht : P.underlying t = some .bool) (a b : Bool) : (binOp .neq t (.bool a) (.bool b)).run P w = .ok (.bool (!(a == b))) w := by
  have h : (Op.equal t (.bool a) (.bool b)).run P w = .ok (a == b) w := equalIn_bool ht 9999 a b
  show (Op.equal t (.bool a) (.bool b) >>= fun r => pure (Value.bool (!r)) : Sem Value).run P w = _
  rw [Sem.run_bind, h]; rfl
theorem evBin_sound {op : BinOp} {t : TypeId} {x y pv : PV} {v u : Value} (xo yo : Operand) (hv : VR w av μ x v) (hu : VR w av μ y u) (h : evBin op (tyi P t) x y = some pv) :
    ∃ z, (do eqGuard op t xo yo v u; binOp op t v u : Sem Value).run P w = .ok z w ∧ VR w av μ pv z := by
  have guard : ∀ v u : Value, (v.oneCell' = true) → (v ≠ .nilIface) → (eqGuard op t xo yo v u).run P w = .ok () w := by
    intro v u h1 h2
    unfold eqGuard
    cases v with
    | nilIface => exact absurd rfl h2
    | agg cs => simp [Value.oneCell'] at h1
    | _ => cases op <;> rfl
  cases x <;> simp only [evBin, reduceCtorEq] at h
  case int k a =>
    cases y <;> simp only [reduceCtorEq] at h
    rename_i k' b
    obtain rfl := hv.int_inv
    obtain rfl := hu.int_inv
    rw [Sem.run_bind, guard _ _ rfl (by simp), Result.andThen_ok]
    split at h
    · exact shiftOp_sound (.inl rfl) h t
    · exact shiftOp_sound (.inr rfl) h t
    · rename_i h1 h2
      split at h
      · rename_i hk; subst hk; exact intOp_sound ⟨h1, h2⟩ h t
      · cases h
  case bool a =>
    cases y <;> simp only [reduceCtorEq] at h
    rename_i b
    obtain rfl := hv.bool_inv
    obtain rfl := hu.bool_inv
    cases hd : (tyi P t).d <;> simp only [hd, reduceCtorEq] at h
    have ht := tyi_bool hd
    rw [Sem.run_bind, guard _ _ rfl (by simp), Result.andThen_ok]
    split at h
    · cases h; exact ⟨_, eql_bool ht a b, .b⟩
    · cases h; exact ⟨_, neq_bool ht a b, .b⟩
    · cases h
  case str a =>
    cases y <;> simp only [reduceCtorEq] at h
    rename_i b
    obtain rfl := hv.str_inv
    obtain rfl := hu.str_inv
    rw [Sem.run_bind, guard _ _ rfl (by simp), Result.andThen_ok]
    exact strOp_sound h t
theorem nilTest_some {op : BinOp} {d : TD} {y : Operand} {v : PV} (h : nilTest op d y = some v) : ∃ e, d = .slice e ∧ y = .const (.slice none 0 0) ∧ nilRes op = some v := by
  unfold nilTest at h
  split at h
  · rename_i e; exact ⟨e, rfl, rfl, h⟩
  · cases h
theorem equal_nil {t e : TypeId} (hd : (tyi P t).d = .slice e) (ad : Addr) (n c : Nat) : (Op.equal t (.slice (some ad) n c) (.slice none 0 0)).run P w = .ok false w := by
  unfold Op.equal
  rw [show Op.maxDepth = 9999 + 1 from rfl]
  generalize 9999 = d
  rw [Op.equalIn, Sem.run_bind, run_underlying (tyi_slice hd), Result.andThen_ok]
  rfl
theorem evBinO_sound {op : BinOp} {t : TypeId} {x y pv : PV} {v u : Value} (xo yo : Operand) (hv : VR w av μ x v) (hu : VR w av μ y u) (hc : ∀ c, yo = .const c → u = c) (h : evBinO op (tyi P t) yo x y = some pv) :
    ∃ z, (do eqGuard op t xo yo v u; binOp op t v u : Sem Value).run P w = .ok z w ∧ VR w av μ pv z := by
  have guard : ∀ v u : Value, (v.oneCell' = true) → (v ≠ .nilIface) → (eqGuard op t xo yo v u).run P w = .ok () w := by
    intro v u h1 h2
    unfold eqGuard
    cases v with
    | nilIface => exact absurd rfl h2
    | agg cs => simp [Value.oneCell'] at h1
    | _ => cases op <;> rfl
  unfold evBinO at h
  split at h
  · rename_i b hn
    cases h
    have key : ∀ {e : TypeId} {ad : Addr} {n c : Nat}, (tyi P t).d = .slice e → v = .slice (some ad) n c → u = .slice none 0 0 → nilRes op = some pv → ∃ z, (do eqGuard op t xo yo v u; binOp op t v u : Sem Value).run P w = .ok z w ∧ VR w av μ pv z := by
      intro e ad n c hd hv hu h
      subst hv hu
      rw [Sem.run_bind, guard _ _ rfl (by simp), Result.andThen_ok]
      cases op <;> simp only [nilRes, reduceCtorEq, Option.some.injEq] at h
      · subst h
        exact ⟨.bool false, by simp only [binOp, Sem.run_bind, equal_nil hd, Result.andThen_ok, Sem.run_pure], .b⟩
      · subst h
        exact ⟨.bool true, by simp only [binOp, Sem.run_bind, equal_nil hd, Result.andThen_ok, Sem.run_pure, Bool.not_false], .b⟩
    cases x
    case sl rows ex =>
      cases rows with
      | nil => cases hn
      | cons r rows =>
        obtain ⟨e, hd, hy, ho⟩ := nilTest_some hn
        have hu' := hc _ hy
        cases hv with | fr hv =>
        cases hv with | sl _ _ a cap ad sz c hcap hex ha had =>
        have := had (by simp)
        subst this
        exact key hd rfl hu' ho
    case msl id off len ex =>
      cases len with
      | zero => cases hn
      | succ len =>
        obtain ⟨e, hd, hy, ho⟩ := nilTest_some hn
        have hu' := hc _ hy
        cases hv with
        | fr hv => cases hv
        | msl _ _ _ _ ad cap b => exact key hd rfl hu' ho
    all_goals cases hn
  · exact evBin_sound xo yo hv hu h
theorem evUn_sound {op : UnOp} {x pv : PV} {v : Value} (hv : VR w av μ x v) (h : evUn op x = some pv) : ∃ z, (Op.unary op v).run P w = .ok z w ∧ VR w av μ pv z := by
  cases x <;> simp only [evUn, reduceCtorEq] at h
  case int k a =>
    obtain rfl := hv.int_inv
    cases op <;> simp only [reduceCtorEq, Option.some.injEq] at h <;> subst h
    · exact ⟨_, by simp [Op.unary, Op.intArith], .i⟩
    · exact ⟨_, by simp [Op.unary, Op.intBits], .i⟩
  case bool b =>
    obtain rfl := hv.bool_inv
    cases op <;> simp only [reduceCtorEq, Option.some.injEq] at h
    subst h
    exact ⟨_, by simp [Op.unary], .b⟩
theorem evLen_sound {t : TypeId} {x pv : PV} {v : Value} (ty : TypeId) (hv : VR w av μ x v) (h : evLen (tyi P t) x = some pv) :
    ∃ z, (Builtin.len_ #[t] ty #[v]).run P w = .ok z w ∧ VR w av μ pv z := by
  cases x <;> simp only [evLen, reduceCtorEq] at h
  case str s =>
    obtain rfl := hv.str_inv
    cases hq : (tyi P t).d <;> simp only [hq, reduceCtorEq, Option.some.injEq] at h
    subst h
    exact ⟨_, by simp [Builtin.len_, run_underlying (tyi_str hq), goInt], .i⟩
  case sl rows ex =>
    cases hv with | fr hv =>
    cases hv with | sl _ _ a cap ad sz c hcap hex ha had hsz hc hr =>
    cases hq : (tyi P t).d <;> simp only [hq, reduceCtorEq, Option.some.injEq] at h
    subst h
    exact ⟨_, by simp [Builtin.len_, run_underlying (tyi_slice hq), goInt], .i⟩
  case msl id off len ex =>
    cases hq : (tyi P t).d <;> simp only [hq, reduceCtorEq, Option.some.injEq] at h
    subst h
    cases hv with
    | fr hv => cases hv
    | msl => exact ⟨_, by simp [Builtin.len_, run_underlying (tyi_slice hq), goInt], .i⟩
    | mslNil => exact ⟨_, by simp [Builtin.len_, run_underlying (tyi_slice hq), goInt], .i⟩
end
end Go.Vs
end

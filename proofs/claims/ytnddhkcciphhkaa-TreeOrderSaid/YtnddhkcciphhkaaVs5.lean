/- Each operation that reads at most: what the machine's run comes to (2). -/
import Derived.Test.YtnddhkcciphhkaaVs4
set_option linter.unusedVariables false
set_option linter.unusedSimpArgs false
namespace Go.Vs
open Go

/-- What the store says of arrays that lie somewhere is so. -/
def Sees (S : Store) (A : Arrs) (μ : Mu) : Prop := ∀ id a b, arrs S id = some a → μ id = some b → ∃ f, A id = some ⟨a.rows, a.g, f⟩
theorem Sees.refl (S : Store) (μ : Mu) : Sees S (arrs S) μ := fun id a b h _ => ⟨a.f, h⟩
theorem rowsAt_arrs {S : Store} {id : Nat} {rows : List (List PV)} (h : rowsAt S id = some rows) : ∃ g f, arrs S id = some ⟨rows, g, f⟩ := by
  unfold rowsAt at h
  unfold arrs
  split at h
  · rename_i r g f hh
    simp at h; subst h
    exact ⟨g, f, by rw [hh]⟩
  · cases h
theorem rowsAt_some {S : Store} {A : Arrs} {μ : Mu} (hA : Sees S A μ) {id : Nat} {rows : List (List PV)} (h : rowsAt S id = some rows) {b : Blk} (hb : μ id = some b) : ∃ g f, A id = some ⟨rows, g, f⟩ := by
  obtain ⟨g, f, h⟩ := rowsAt_arrs h
  obtain ⟨f', h'⟩ := hA id _ b h hb
  exact ⟨g, f', h'⟩

section
variable {P : Program} {A : Arrs} {w : World} {X : Nat → Prop} {S : Store} {n : Nat} {μ : Mu}

/-- The cells of row i of an array, in memory. -/
theorem SR.row {A : Arrs} (hS : SR w X A n μ) {id : Nat} {a : Arr} (ha : A id = some a) {b : Blk} (hb : μ id = some b) {i : Nat} {row : List PV} (hi : a.rows[i]? = some row) :
    row.length = b.sz ∧ ∀ j pv, row[j]? = some pv → ∃ u, w.cell? ⟨b.b, i * b.sz + j, none⟩ = some u ∧ flat u = true ∧ VR w (Av X A μ) μ pv u := by
  obtain ⟨c, el, hh, hc, htot, hsz, hcell⟩ := hS.blk id a ha b hb
  refine ⟨hsz row (List.mem_of_getElem? hi), fun j pv hj => ?_⟩
  obtain ⟨u, h1, h2, h3⟩ := hcell i row j pv hi hj
  exact ⟨u, by simp [World.cell?, hh, h1], h2, h3⟩

theorem part_sound {av : Nat → Prop} {t : TypeId} {ad : Addr} {row : List PV} {pv : PV} (hrow : ∀ j pv, row[j]? = some pv → ∃ u, w.cell? (ad.add j) = some u ∧ flat u = true ∧ VR w av μ pv u)
    (h : part (tyi P t) row = some pv) : ∃ u, (loadVar t ad).run P w = .ok u w ∧ VR w av μ pv u := by
  unfold part at h
  split at h
  · cases h
  · rename_i hk
    obtain ⟨d, i, hd, hi, hs, _⟩ := tyi_known (P := P) (t := t) (by simpa using hk)
    rw [isAgg_eq] at h
    simp only [loadVar, Sem.run_bind, run_isAgg hd, Result.andThen_ok]
    by_cases ha : isAggB P t = true
    · rw [if_pos ha] at h ⊢
      split at h
      · rename_i hle
        simp at h; subst h
        have hf : ∀ j, j < i.size → w.cell? (ad.add j) = some ((w.cell? (ad.add j)).getD undef) := fun j hj => by
          obtain ⟨u, hu, _⟩ := hrow j (row[j]'(by omega)) (List.getElem?_eq_getElem (by omega))
          rw [hu]; rfl
        simp only [Sem.run_bind, run_sizeOf' hi, Result.andThen_ok, run_loadCells w ad i.size (fun j => (w.cell? (ad.add j)).getD undef) hf, Sem.run_pure]
        refine ⟨_, rfl, .agg _ _ (by simp; omega) (fun j v hv => ?_) (fun j pv v hp hv => ?_)⟩
        · simp only [List.getElem?_toArray, List.getElem?_map] at hv
          by_cases hj : j < i.size
          · rw [List.getElem?_range hj] at hv
            simp at hv
            obtain ⟨u, hu, hfl, _⟩ := hrow j (row[j]'(by omega)) (List.getElem?_eq_getElem (by omega))
            rw [hu] at hv; simp at hv; subst hv; exact hfl
          · rw [List.getElem?_eq_none (by simpa using hj)] at hv; simp at hv
        · simp only [List.getElem?_toArray, List.getElem?_map] at hv
          by_cases hj : j < i.size
          · rw [List.getElem?_range hj] at hv
            simp at hv
            rw [List.getElem?_take_of_lt (by omega)] at hp
            obtain ⟨u, hu, hfl, hr⟩ := hrow j pv hp
            rw [hu] at hv; simp at hv; subst hv; exact hr
          · rw [List.getElem?_eq_none (by simpa using hj)] at hv; simp at hv
      · cases h
    · rw [if_neg ha] at h ⊢
      cases row with
      | nil => simp at h
      | cons p r =>
        simp at h; subst h
        obtain ⟨u, hu, _, hr⟩ := hrow 0 p rfl
        have h0 : ad.add 0 = ad := by simp [Addr.add]
        rw [h0] at hu
        exact ⟨u, by simp [run_load, hu], hr⟩

theorem load_sound (hS : SR w X A n μ) (hSA : Sees S A μ) {t : TypeId} {x pv : PV} {v : Value} (hv : VR w (Av X (A) μ) μ x v) (h : evLoad (tyi P t) S x = some pv) :
    ∃ u, (Instr.loadAt t v).run P w = .ok u w ∧ VR w (Av X (A) μ) μ pv u := by
  cases x <;> simp only [evLoad, reduceCtorEq] at h
  case cp row =>
    cases hv with | fr hf =>
    cases hf with | cp _ ad c hc hr =>
    simp only [Instr.loadAt, Instr.sureAddr, Sem.run_bind, Sem.run_pure, Result.andThen_ok]
    exact part_sound (fun j pv hj => ⟨c j, (hc j pv hj).1, FR.flat _ _ (hr j pv hj), .fr (hr j pv hj)⟩) h
  case mp id i off =>
    cases hv with
    | fr hf => cases hf
    | mp _ _ _ b hb =>
    cases hr : rowsAt S id with
    | none => rw [hr] at h; simp at h
    | some rows =>
      rw [hr] at h
      simp only [Option.bind_some] at h
      split at h
      · rename_i hi
        obtain ⟨g, f, ha⟩ := rowsAt_some hSA hr hb
        obtain ⟨hlen, hcell⟩ := hS.row ha hb (i := i) (row := rows.getD i []) (by simp [List.getD, List.getElem?_eq_getElem hi])
        simp only [Instr.loadAt, Instr.sureAddr, Sem.run_bind, Sem.run_pure, Result.andThen_ok]
        refine part_sound (fun j pv hj => ?_) h
        rw [List.getElem?_drop] at hj
        obtain ⟨u, h1, h2, h3⟩ := hcell (off + j) pv hj
        exact ⟨u, by rw [add_plain, Nat.add_assoc]; exact h1, h2, h3⟩
      · cases h

theorem rowsOK_spec {k : Nat} {rows : List (List PV)} (h : rowsOK k rows = true) : ∀ r ∈ rows, r.length = k := by
  intro r hr
  unfold rowsOK at h
  rw [List.all_eq_true] at h
  simpa using h r hr

theorem indexAddr_sound (hS : SR w X A n μ) (hSA : Sees S A μ) {t el : TypeId} (ht : P.underlying t = some (.slice el)) (hel : (tyi P el).known = true) {x i pv : PV} {v u : Value}
    (hv : VR w (Av X (A) μ) μ x v) (hu : VR w (Av X (A) μ) μ i u) (h : evIndexAddr (tyi P el).size S x i = some pv) :
    ∃ z, (Instr.indexAt t v u).run P w = .ok z w ∧ VR w (Av X (A) μ) μ pv z := by
  obtain ⟨de, ie, hde, hie, hse, _⟩ := tyi_known hel
  cases x <;> simp only [evIndexAddr, reduceCtorEq] at h
  case sl rows ex =>
    cases i <;> simp only [reduceCtorEq] at h
    rename_i k m
    obtain rfl := hu.int_inv
    split at h
    · rename_i hm
      split at h
      · rename_i hlen
        simp at h; subst h
        cases hv with | fr hf =>
        cases hf with | sl _ _ a cap ad sz c hcap hex ha had hsz hc hr =>
        have hne : rows ≠ [] := by intro h0; subst h0; simp at hm; omega
        have := had hne
        subst this
        have hmn : m.toNat < rows.length := by omega
        have hrow : rows[m.toNat]? = some (rows.getD m.toNat []) := by simp [List.getD, List.getElem?_eq_getElem hmn]
        have hsz' : sz = (tyi P el).size := by rw [← hsz _ (List.mem_of_getElem? hrow)]; exact hlen
        simp only [Instr.indexAt, asIntOf, Sem.run_bind, Sem.run_pure, Result.andThen_ok, run_underlying ht, run_sizeOf' hie]
        rw [if_pos (by omega)]
        simp only [Sem.run_bind, run_sizeOf' hie, Result.andThen_ok, Sem.run_pure]
        refine ⟨_, rfl, .fr (.cp _ _ (fun j => c m.toNat j) (fun j pv hj => ?_) (fun j pv hj => hr _ _ _ _ hrow hj))⟩
        have := hc m.toNat _ j pv hrow hj
        rw [add_add, add_block, hse, ← hsz']
        exact this
      · cases h
    · cases h
  case msl id off len ex =>
    cases i <;> simp only [reduceCtorEq] at h
    rename_i k m
    obtain rfl := hu.int_inv
    split at h
    · rename_i hm
      cases hr : rowsAt S id with
      | none => rw [hr] at h; simp at h
      | some rows =>
        rw [hr] at h
        simp only [Option.bind_some] at h
        split at h
        · rename_i hok
          simp at h; subst h
          cases hv with
          | fr hf => cases hf
          | mslNil => omega
          | msl _ _ _ _ ad cap b hb hlen htot hex had =>
          obtain ⟨g, f, ha⟩ := rowsAt_some hSA hr hb
          have had' := had (by omega)
          subst had'
          have hlt : off + m.toNat < rows.length := by omega
          obtain ⟨hlen', _⟩ := hS.row ha hb (i := off + m.toNat) (row := rows.getD (off + m.toNat) []) (by simp [List.getD, List.getElem?_eq_getElem hlt])
          have hsz : b.sz = (tyi P el).size := by
            rw [← hlen']
            exact rowsOK_spec hok.1 _ (by simp [List.getD, List.getElem?_eq_getElem hlt])
          simp only [Instr.indexAt, asIntOf, Sem.run_bind, Sem.run_pure, Result.andThen_ok, run_underlying ht]
          rw [if_pos (by omega)]
          simp only [Sem.run_bind, run_sizeOf' hie, Result.andThen_ok, Sem.run_pure, add_plain]
          refine ⟨_, rfl, ?_⟩
          have := VR.mp (w := w) (av := Av X (A) μ) (μ := μ) id (off + m.toNat) 0 b hb
          rw [Nat.add_zero, Nat.add_mul] at this
          rw [hse, ← hsz]
          exact this
        · cases h
    · cases h
end
end Go.Vs

/- Operations that make memory: what the machine's run comes to (2). -/
import Derived.Test.YtnddhkcciphhkaaVs9
set_option linter.unusedVariables false
set_option linter.unusedSimpArgs false
namespace Go.Vs
open Go

section
variable {P : Program} {w : World} {X : Nat → Prop} {A : Arrs} {n : Nat} {μ : Mu} {av : Nat → Prop}

theorem places_ok {gs : List Field} (h : ∀ f ∈ gs, sizeK P f.type ≠ 0) : gs.mapM (fun f => (P.info? f.type).map fun i => (f.offset, i.size)) = some (gs.map fun f => (f.offset, sizeK P f.type)) := by
  induction gs with
  | nil => rfl
  | cons f r ih =>
    obtain ⟨d, i, _, hi, hs⟩ := sizeK_ne (h f (by simp))
    simp [List.mapM_cons, hi, ih (fun g hg => h g (by simp [hg])), hs]

theorem build_sound {t : TypeId} {fs : List (Nat × Nat × Bool)} (hd : (tyi P t).d = .struct fs) {z : List PV} (hz : (tyi P t).zero = some z) (hc : z.all PV.cell = true) (hfs : (fs.all fun x => decide (x.2.1 ≠ 0)) = true)
    {ρ : Operand → PV} {σ : Operand → Value} (hρ : ∀ x, VR w av μ (ρ x) (σ x)) {parts : Array (Nat × Operand)} {cs : List PV} (h : fillAll fs ρ z parts.toList = some cs) :
    ∃ u, (Instr.build t (parts.map fun (i, x) => (i, σ x))).run P w = .ok u w ∧ VR w av μ (.agg cs) u := by
  obtain ⟨gs, hu, rfl⟩ := tyi_struct hd
  obtain ⟨i, v, hi, hzv, rfl⟩ := zero_spec hz
  obtain ⟨h1, h2, h3⟩ := cells_rel (w := w) (av := av) (μ := μ) (ofConst_sound v) hc
  have hgs : ∀ f ∈ gs.toList, sizeK P f.type ≠ 0 := fun f hf => by
    rw [List.all_eq_true] at hfs
    have := hfs _ (List.mem_map.2 ⟨f, hf, rfl⟩)
    simpa using this
  obtain ⟨us', k1, k2, k3, k4⟩ := fillAll_sound hρ (fun i => (gs.toList.map fun f => (f.offset, sizeK P f.type)).toArray[i]?) (fun i o k g hf => by
    rw [List.getElem?_map] at hf
    cases hg : gs.toList[i]? with
    | none => rw [hg] at hf; cases hf
    | some f => rw [hg] at hf; simp at hf; obtain ⟨rfl, rfl, rfl⟩ := hf; simp only [List.getElem?_toArray, List.getElem?_map, hg, Option.map_some]) parts.toList _ v.cells cs h h1 h2 h3
  refine ⟨.agg us', run_build w t _ us' ?_, .agg _ _ k2 k4 k3⟩
  unfold Program.built
  simp only [hi, hu, hzv, places_ok hgs]
  rw [← k1, Array.toList_map]

theorem flatMap_get {α : Type} {s : Nat} {vs : List α} {f : α → List Value} (h : ∀ v ∈ vs, (f v).length = s) {i j : Nat} {v : α} (hi : vs[i]? = some v) (hj : j < s) : (vs.flatMap f)[i * s + j]? = (f v)[j]? := by
  induction vs generalizing i with
  | nil => simp at hi
  | cons x r ih =>
    have hx := h x (by simp)
    simp only [List.flatMap_cons]
    cases i with
    | zero => simp at hi; subst hi; rw [List.getElem?_append_left (by omega)]; simp
    | succ i =>
      simp at hi
      rw [List.getElem?_append_right (by rw [hx, Nat.add_mul]; omega), hx, show (i + 1) * s + j - s = i * s + j by rw [Nat.add_mul]; omega]
      exact ih (fun v hv => h v (by simp [hv])) hi
theorem flatMap_len {α : Type} {s : Nat} {vs : List α} {f : α → List Value} (h : ∀ v ∈ vs, (f v).length = s) : (vs.flatMap f).length = vs.length * s := by
  induction vs with
  | nil => simp
  | cons x r ih =>
    simp only [List.flatMap_cons, List.length_append, h x (by simp), ih (fun v hv => h v (by simp [hv])), List.length_cons, Nat.add_mul]; omega
theorem zipIdx_of_fst {α : Type} {l : List (Nat × α)} (h : l.map (·.1) = List.range l.length) : l = ((l.map (·.2)).zipIdx 0).map fun x => (x.2, x.1) := by
  apply List.ext_getElem?
  intro i
  simp only [List.getElem?_map, List.getElem?_zipIdx]
  cases hi : l[i]? with
  | none => simp
  | some x =>
    have := congrArg (fun m => m[i]?) h
    simp only [List.getElem?_map, hi, Option.map_some] at this
    have hl := (List.getElem?_eq_some_iff.1 hi).1
    rw [List.getElem?_range hl] at this
    simp at this
    simp [← this]

theorem buildSlice_sound (hS : SR w X A n μ) {nid n' : Nat} (hA : A nid = none) (hμ : μ nid = none) (hn : nid < n') (hnn : n ≤ n') {base : Nat} (hb : base ≤ nid) {t el : TypeId} {len : Nat} {parts : Array (Nat × Operand)}
    {ρ : Operand → PV} {σ : Operand → Value} (hρ : ∀ x, VR w (Av X A μ) μ (ρ x) (σ x)) (hd : (tyi P t).d = .slice el)
    (h : parts.toList.map (·.1) = List.range len ∧ rowsOK (tyi P el).size (parts.toList.map fun x => (ρ x.2).cells) = true ∧ ((parts.toList.map fun x => (ρ x.2).cells).all fun r => r.all PV.cell) = true ∧ len * (tyi P el).size ≤ 16777216 ∧ 0 < (tyi P el).size ∧ (tyi P el).zero.isSome = true) :
    ∃ v w' μ', (Instr.buildSlice t len (parts.map fun (i, x) => (i, σ x))).run P w = .ok v w' ∧
      SR w' X (upd A nid ⟨parts.toList.map fun x => (ρ x.2).cells, some (some (tyi P el).size), false⟩) n' μ' ∧ Tr base w A μ w' (upd A nid ⟨parts.toList.map fun x => (ρ x.2).cells, some (some (tyi P el).size), false⟩) μ' ∧ (∀ i, i ≠ nid → μ' i = μ i) ∧
      VR w' (Av X (upd A nid ⟨parts.toList.map fun x => (ρ x.2).cells, some (some (tyi P el).size), false⟩) μ') μ' (.msl nid 0 len true) v := by
  obtain ⟨h1, h2, h3, h4, h5, h6⟩ := h
  obtain ⟨ie, z, hie, hz⟩ := zero_isSome h6
  have hs := (info_size hie).1
  have hlen : parts.toList.length = len := by have := congrArg List.length h1; simpa using this
  have hrow : ∀ x ∈ parts.toList, (ρ x.2).cells.length = ie.size ∧ (ρ x.2).cells.all PV.cell = true := fun x hx => by
    rw [hs]
    refine ⟨rowsOK_spec h2 _ (List.mem_map.2 ⟨x, hx, rfl⟩), ?_⟩
    rw [List.all_eq_true] at h3
    exact h3 _ (List.mem_map.2 ⟨x, hx, rfl⟩)
  have hsz : ∀ x ∈ parts.toList, (σ x.2).cells.size = ie.size := fun x hx => by rw [← (cells_rel (hρ x.2) (hrow x hx).2).1, (hrow x hx).1]
  have hvs : (parts.map fun (i, x) => (i, σ x)).toList = ((parts.toList.map fun x => σ x.2).zipIdx 0).map fun x => (x.2, x.1) := by
    rw [Array.toList_map]
    have := zipIdx_of_fst (l := parts.toList.map fun (i, x) => (i, σ x)) (by simp only [List.map_map, List.length_map, hlen, ← h1]; rfl)
    rw [this]; simp only [List.map_map]; rfl
  have hpos : ∀ k, k < len * ie.size → True := fun _ _ => trivial
  by_cases hl0 : len = 0
  · -- nothing in it
    subst hl0
    have hp : parts = #[] := by
      apply Array.eq_empty_of_size_eq_zero
      rw [← Array.length_toList]; exact hlen
    subst hp
    obtain ⟨k1, k2, k3⟩ := hS.new hA hμ hn hnn (rows := []) (g := some (some (tyi P el).size)) (cells := #[]) (el := el) (sz := (tyi P el).size) (by simp) (by simp) (by simp) (by simp) hb
    refine ⟨.slice (some ⟨w.heap.size, 0, none⟩) 0 0, _, _, ?_, k1, k2, k3, .mslNil _ _ _⟩
    have hu := tyi_slice hd
    simp [Instr.buildSlice, run_underlying hu, run_sizeOf' hie, Instr.fill, newRow, Array.range_zero']
  · have hf := Great.fill_whole (s := ie.size) (by omega) (parts.toList.map fun x => σ x.2) ((Array.range (len * ie.size)).map (z.cells[· % z.cells.size]!)) (fun v hv => by
      obtain ⟨x, hx, rfl⟩ := List.mem_map.1 hv; exact hsz x hx) (by simp [hlen])
    have hrun := run_buildSlice w t el len (parts.map fun (i, x) => (i, σ x)) _ ie z (tyi_slice hd) hie hz (by rw [hs]; omega) (by rw [hs]; exact Nat.ne_of_gt (Nat.mul_pos (by omega) h5)) (by rw [hvs]; exact hf)
    have hfl : ∀ v ∈ (parts.toList.map fun x => σ x.2), v.cells.toList.length = ie.size := fun v hv => by
      obtain ⟨x, hx, rfl⟩ := List.mem_map.1 hv; rw [Array.length_toList]; exact hsz x hx
    have hsize : ((parts.toList.map fun x => σ x.2).flatMap fun v => v.cells.toList).toArray.size = len * ie.size := by
      rw [List.size_toArray, flatMap_len hfl]; simp [hlen]
    obtain ⟨k1, k2, k3⟩ := hS.new hA hμ hn hnn (rows := parts.toList.map fun x => (ρ x.2).cells) (g := some (some (tyi P el).size)) (cells := ((parts.toList.map fun x => σ x.2).flatMap fun v => v.cells.toList).toArray) (el := el) (sz := ie.size) (by simp [hs])
      (fun r hr => by obtain ⟨x, hx, rfl⟩ := List.mem_map.1 hr; exact (hrow x hx).1) (by rw [hsize]; simp [hlen])
      (fun i row j pv hi hj => by
        rw [List.getElem?_map] at hi
        cases hx : parts.toList[i]? with
        | none => rw [hx] at hi; cases hi
        | some x =>
          rw [hx] at hi; simp at hi; subst hi
          have hmem := List.mem_of_getElem? hx
          obtain ⟨e1, e2, e3⟩ := cells_rel (hρ x.2) (hrow x hmem).2
          have hjl := (List.getElem?_eq_some_iff.1 hj).1
          rw [(hrow x hmem).1] at hjl
          have hu : (σ x.2).cells[j]? = some ((σ x.2).cells[j]'(by rw [hsz x hmem]; exact hjl)) := Array.getElem?_eq_getElem _
          refine ⟨_, ?_, e3 j _ hu, e2 j pv _ hj hu⟩
          rw [List.getElem?_toArray, flatMap_get hfl (v := σ x.2) (by rw [List.getElem?_map, hx]; rfl) hjl, Array.getElem?_toList]; exact hu) hb
    refine ⟨_, _, _, hrun, k1, k2, k3, ?_⟩
    refine .msl nid 0 len true _ len _ (upd_same μ nid _) (Nat.le_refl _) (by simp only [Nat.zero_add, hsize]; exact Nat.le_refl _) (fun _ => rfl) (fun _ => by simp)

theorem madeCells_get {z : Array Value} {k i j : Nat} (hz : 0 < z.size) (hj : j < z.size) (hi : i * z.size + j < k) : (madeCells z k)[i * z.size + j]? = z[j]? := by
  unfold madeCells
  rw [Array.getElem?_map, Array.getElem?_range, if_pos hi]
  have : (i * z.size + j) % z.size = j := by rw [Nat.mul_add_mod_of_lt hj]
  simp [this, hj]

theorem makeSlice_sound (hS : SR w X A n μ) {nid n' : Nat} (hA : A nid = none) (hμ : μ nid = none) (hn : nid < n') (hnn : n ≤ n') {base : Nat} (hb : base ≤ nid) {t el : TypeId} (hd : (tyi P t).d = .slice el)
    {kl km : IntKind} {l m : Int} {z : List PV} (hz : (tyi P el).zero = some z)
    (h : 0 ≤ l ∧ l ≤ m ∧ (tyi P el).bytes * m ≤ 281474976710656 ∧ m ≤ 9223372036854775807 ∧ z.length = (tyi P el).size ∧ z.all PV.cell = true) :
    ∃ v w' μ', (Instr.makeSlice t (.int kl l) (.int km m)).run P w = .ok v w' ∧
      SR w' X (upd A nid ⟨List.replicate l.toNat z, some (some (tyi P el).size), false⟩) n' μ' ∧ Tr base w A μ w' (upd A nid ⟨List.replicate l.toNat z, some (some (tyi P el).size), false⟩) μ' ∧ (∀ i, i ≠ nid → μ' i = μ i) ∧
      VR w' (Av X (upd A nid ⟨List.replicate l.toNat z, some (some (tyi P el).size), false⟩) μ') μ' (.msl nid 0 l.toNat (decide (l = m))) v := by
  obtain ⟨h1, h2, h3, h4, h5, h6⟩ := h
  obtain ⟨i, v, hi, hzv, rfl⟩ := zero_spec hz
  obtain ⟨e1, e2, e3⟩ := cells_rel (w := w) (av := Av X A μ) (μ := μ) (ofConst_sound v) h6
  obtain ⟨s1, s2⟩ := info_size hi
  have hrun := run_make (P := P) w t el i v (tyi_slice hd) hi hzv kl km l m h1 h2 (by rw [s2]; exact h3) h4
  have hzs : v.cells.size = i.size := by omega
  have hsize := size_madeCells v.cells (m.toNat * i.size)
  obtain ⟨k1, k2, k3⟩ := hS.new hA hμ hn hnn (rows := List.replicate l.toNat (ofConst v).cells) (g := some (some (tyi P el).size)) (cells := madeCells v.cells (m.toNat * i.size)) (el := el) (sz := i.size) (by simp [s1])
    (fun r hr => by rw [(List.mem_replicate.1 hr).2]; omega) (by rw [hsize, List.length_replicate]; exact Nat.mul_le_mul_right _ (by omega))
    (fun a row j pv ha hj => by
      rw [List.getElem?_replicate] at ha
      split at ha
      · rename_i hal
        simp at ha; subst ha
        have hjl := (List.getElem?_eq_some_iff.1 hj).1
        have hjs : j < v.cells.size := by omega
        have hu : v.cells[j]? = some (v.cells[j]'hjs) := Array.getElem?_eq_getElem _
        refine ⟨v.cells[j]'hjs, ?_, e3 j _ hu, e2 j pv _ hj hu⟩
        have hlt : a * v.cells.size + j < m.toNat * i.size := by
          rw [hzs]
          have : (a + 1) * i.size ≤ m.toNat * i.size := Nat.mul_le_mul_right _ (by omega)
          rw [Nat.add_mul] at this; omega
        rw [← hzs, madeCells_get (by omega) hjs (by rw [hzs] at hlt ⊢; exact hlt)]
        exact hu
      · cases ha) hb
  refine ⟨_, _, _, hrun, k1, k2, k3, ?_⟩
  exact .msl nid 0 l.toNat _ _ m.toNat _ (upd_same μ nid _) (by omega) (by simp only [Nat.zero_add, hsize]; exact Nat.le_refl _) (fun hx => by simp at hx; omega) (fun _ => by simp)

/-! ### What an append, a copy reads -/
variable {S : Store}
theorem src_sound (hS : SR w X A n μ) (hSA : Sees S A μ) {t e' : TypeId} (ht : P.underlying t = some (.slice e')) {y : PV} {v : Value} (hv : VR w (Av X (A) μ) μ y v) {new : List (List PV)} (hy : rowsIn S y = some new) {sz : Nat} (hok : rowsOK sz new = true) :
    ∃ news : List Value, Src P sz t v new.length news w ∧ (∀ i row j pv, new[i]? = some row → row[j]? = some pv → ∃ u, news[i * sz + j]? = some u ∧ flat u = true ∧ VR w (Av X (A) μ) μ pv u) := by
  have key : ∀ (a : Option Addr) (ad : Addr) (cap : Nat), (new ≠ [] → a = some ad) → (a = none → new = []) → (∀ i row j pv, new[i]? = some row → row[j]? = some pv → ∃ u, w.cell? (ad.add (i * sz + j)) = some u ∧ flat u = true ∧ VR w (Av X (A) μ) μ pv u) →
      ∃ news : List Value, Src P sz t (.slice a new.length cap) new.length news w ∧ (∀ i row j pv, new[i]? = some row → row[j]? = some pv → ∃ u, news[i * sz + j]? = some u ∧ flat u = true ∧ VR w (Av X (A) μ) μ pv u) := by
    intro a ad cap h1 h2 h3
    cases a with
    | none =>
      have := h2 rfl
      subst this
      exact ⟨[], Src.ofNil w ht cap, by simp⟩
    | some a =>
      have hcell : ∀ k, k < new.length * sz → ∃ u, w.cell? (a.add k) = some u ∧ flat u = true := by
        intro k hk
        have hsz : 0 < sz := by rcases Nat.eq_zero_or_pos sz with h | h; · subst h; simp at hk
                                · exact h
        have hq : k / sz < new.length := by rw [Nat.div_lt_iff_lt_mul hsz]; exact hk
        have hne : new ≠ [] := by intro h0; subst h0; simp at hk
        have had : a = ad := by simpa using h1 hne
        have hrow : new[k / sz]? = some (new[k / sz]'hq) := List.getElem?_eq_getElem hq
        have hrl := rowsOK_spec hok _ (List.mem_of_getElem? hrow)
        have hj : k % sz < (new[k / sz]'hq).length := by rw [hrl]; exact Nat.mod_lt _ hsz
        obtain ⟨u, hu, hf, _⟩ := h3 (k / sz) _ (k % sz) _ hrow (List.getElem?_eq_getElem hj)
        rw [had]
        have e : k / sz * sz + k % sz = k := by rw [Nat.mul_comm]; exact Nat.div_add_mod k sz
        rw [e] at hu
        exact ⟨u, hu, hf⟩
      refine ⟨(List.range (new.length * sz)).map fun k => (w.cell? (a.add k)).getD undef, Src.ofSlice w ht a new.length cap _ (by simp) (fun j u hu => ?_) (fun u hu => ?_), fun i row j pv hi hj => ?_⟩
      · rw [List.getElem?_map] at hu
        by_cases hjl : j < new.length * sz
        · rw [List.getElem?_range hjl] at hu
          obtain ⟨q, hq, _⟩ := hcell j hjl
          simp [hq] at hu; subst hu; exact hq
        · rw [List.getElem?_eq_none (by simpa using hjl)] at hu; cases hu
      · obtain ⟨k, hk, rfl⟩ := List.mem_map.1 hu
        obtain ⟨q, hq, hf⟩ := hcell k (List.mem_range.1 hk)
        rw [hq]; exact flat_oneCell hf
      · obtain ⟨u, hu, hf, hr⟩ := h3 i row j pv hi hj
        have hne : new ≠ [] := by intro h0; subst h0; simp at hi
        have had : a = ad := by simpa using h1 hne
        have hil := (List.getElem?_eq_some_iff.1 hi).1
        have hjl := (List.getElem?_eq_some_iff.1 hj).1
        rw [rowsOK_spec hok _ (List.mem_of_getElem? hi)] at hjl
        have hlt : i * sz + j < new.length * sz := by
          have : (i + 1) * sz ≤ new.length * sz := Nat.mul_le_mul_right _ (by omega)
          rw [Nat.add_mul] at this; omega
        refine ⟨u, ?_, hf, hr⟩
        rw [List.getElem?_map, List.getElem?_range hlt]
        simp [had, hu]
  cases y <;> simp only [rowsIn, reduceCtorEq, Option.some.injEq] at hy
  case sl rows ex =>
    subst hy
    cases hv with | fr hv =>
    cases hv with | sl _ _ a cap ad s c hcap hex ha had hsz hc hr =>
    refine key a ad cap had (fun h => List.eq_nil_of_length_eq_zero (by have := ha h; omega)) (fun i row j pv hi hj => ?_)
    have e : s = sz := by rw [← hsz _ (List.mem_of_getElem? hi)]; exact rowsOK_spec hok _ (List.mem_of_getElem? hi)
    have := hc i row j pv hi hj
    rw [e] at this
    exact ⟨_, this.1, FR.flat _ _ (hr i row j pv hi hj), .fr (hr i row j pv hi hj)⟩
  case msl id off len ex =>
    cases hr : rowsAt S id with
    | none => rw [hr] at hy; cases hy
    | some rows =>
      rw [hr] at hy
      simp only [Option.bind_some] at hy
      split at hy
      · rename_i hle
        simp at hy
        have hlen : new.length = len := by rw [← hy]; simp; omega
        cases hv with
        | fr hv => cases hv
        | mslNil _ _ a =>
          have hnew : new = [] := List.eq_nil_of_length_eq_zero hlen
          subst hnew
          exact key a default 0 (fun h => absurd rfl h) (fun _ => rfl) (by simp)
        | msl _ _ _ _ ad cap b hb hlenc htot hex had =>
          obtain ⟨g, f, ha⟩ := rowsAt_some hSA hr hb
          have k := key (some ad) ad cap (fun _ => rfl) (by simp) (fun i row j pv hi hj => by
            rw [← hy, List.getElem?_take] at hi
            split at hi
            · rename_i hil
              rw [List.getElem?_drop] at hi
              obtain ⟨h1, h2⟩ := hS.row ha hb hi
              obtain ⟨u, hu1, hu2, hu3⟩ := h2 j pv hj
              have hbs : b.sz = sz := by
                rw [← h1]
                refine rowsOK_spec hok _ ?_
                rw [← hy]
                refine List.mem_of_getElem? (i := i) ?_
                rw [List.getElem?_take_of_lt hil, List.getElem?_drop]; exact hi
              refine ⟨u, ?_, hu2, hu3⟩
              rw [had (by omega), add_plain, ← hbs, ← Nat.add_assoc, ← Nat.add_mul]; exact hu1
            · cases hi)
          rw [hlen] at k ⊢
          exact k
      · cases hy
end
end Go.Vs

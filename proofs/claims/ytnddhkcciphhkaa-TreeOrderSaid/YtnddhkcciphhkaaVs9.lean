/- Operations that make memory: what the machine's run comes to. -/
import Derived.Test.YtnddhkcciphhkaaVs8
import Derived.Great.BuildSlice
import Derived.Deep.AppendSrc
import Derived.Laws.MakeOwn
set_option linter.unusedVariables false
set_option linter.unusedSimpArgs false
namespace Go.Vs
open Go

section
variable {P : Program} {w : World} {X : Nat → Prop} {A : Arrs} {n : Nat} {μ : Mu} {av : Nat → Prop}

theorem cells_rel {pv : PV} {v : Value} (hv : VR w av μ pv v) (hc : pv.cells.all PV.cell = true) : pv.cells.length = v.cells.size ∧
    (∀ (j : Nat) (p : PV) (u : Value), pv.cells[j]? = some p → v.cells[j]? = some u → VR w av μ p u) ∧ ∀ (j : Nat) (u : Value), v.cells[j]? = some u → flat u = true := by
  by_cases ha : ∃ cs, pv = .agg cs
  · obtain ⟨cs, rfl⟩ := ha
    cases hv with
    | fr hv => cases hv
    | agg _ us hn hfl hr => exact ⟨hn, hr, hfl⟩
  · have h1 : pv.cells = [pv] := by
      unfold PV.cells; split
      · rename_i cs; exact absurd ⟨cs, rfl⟩ ha
      · rfl
    rw [h1] at hc ⊢
    simp at hc
    have hfl := hv.flat_of_cell hc
    have h2 : v.cells = #[v] := by cases v <;> first | rfl | cases hfl
    rw [h2]
    refine ⟨rfl, fun j p u hp hu => ?_, fun j u hu => ?_⟩
    · cases j with
      | zero => simp at hp hu; subst hp; subst hu; exact hv
      | succ j => simp at hp
    · cases j with
      | zero => simp at hu; subst hu; exact hfl
      | succ j => simp at hu

theorem VR.mp00 {id : Nat} {b : Blk} (h : μ id = some b) {N : Nat} (hN : b.b = N) : VR w av μ (.mp id 0 0) (.pointer (some ⟨N, 0, none⟩)) := by
  subst hN
  have := VR.mp (w := w) (av := av) (μ := μ) id 0 0 b h
  simpa using this
theorem box_sound (hS : SR w X A n μ) {nid n' : Nat} (hA : A nid = none) (hμ : μ nid = none) (hn : nid < n') (hnn : n ≤ n') {base : Nat} (hb : base ≤ nid) {el : TypeId} {pv : PV} {v : Value}
    (hv : VR w (Av X A μ) μ pv v) (hc : pv.cells.all PV.cell = true) : ∃ w' μ', (Instr.box el v).run P w = .ok (.pointer (some ⟨w.heap.size, 0, none⟩)) w' ∧
      SR w' X (upd A nid ⟨[pv.cells], none, false⟩) n' μ' ∧ Tr base w A μ w' (upd A nid ⟨[pv.cells], none, false⟩) μ' ∧ (∀ i, i ≠ nid → μ' i = μ i) ∧
      VR w' (Av X (upd A nid ⟨[pv.cells], none, false⟩) μ') μ' (.mp nid 0 0) (.pointer (some ⟨w.heap.size, 0, none⟩)) := by
  obtain ⟨h1, h2, h3⟩ := cells_rel hv hc
  obtain ⟨k1, k2, k3⟩ := hS.new hA hμ hn hnn (rows := [pv.cells]) (g := none) (cells := v.cells) (el := el) (sz := pv.cells.length) (by simp) (by simp) (by simp; omega)
    (fun i row j p hi hj => by
      cases i with
      | succ i => simp at hi
      | zero =>
        simp at hi; subst hi
        have hlt := (List.getElem?_eq_some_iff.1 hj).1
        have hu : v.cells[j]? = some (v.cells[j]'(by omega)) := Array.getElem?_eq_getElem (by omega)
        exact ⟨_, by simp, h3 j _ hu, h2 j p _ hj hu⟩) hb
  refine ⟨_, _, ?_, k1, k2, k3, ?_⟩
  · simp [Instr.box, newVar, newRow]
  · exact VR.mp00 (upd_same μ nid _) rfl

theorem ofConst_cells (v : Value) : VR w av μ (ofConst v) v := ofConst_sound v
theorem zero_spec {t : TypeId} {z : List PV} (h : (tyi P t).zero = some z) : ∃ i v, P.info? t = some i ∧ i.zero = some v ∧ z = (ofConst v).cells := by
  have h' : ((P.info? t).bind (·.zero)).map (fun v => (ofConst v).cells) = some z := h
  cases hi : P.info? t with
  | none => rw [hi] at h'; simp at h'
  | some i =>
    rw [hi] at h'
    simp only [Option.bind_some] at h'
    cases hz : i.zero with
    | none => rw [hz] at h'; cases h'
    | some v => rw [hz] at h'; simp at h'; exact ⟨i, v, rfl, hz, h'.symm⟩
theorem zero_isSome {t : TypeId} (h : (tyi P t).zero.isSome = true) : ∃ i v, P.info? t = some i ∧ i.zero = some v := by
  obtain ⟨z, hz⟩ := Option.isSome_iff_exists.1 h
  obtain ⟨i, v, h1, h2, _⟩ := zero_spec hz
  exact ⟨i, v, h1, h2⟩
theorem info_size {t : TypeId} {i : TypeInfo} (h : P.info? t = some i) : i.size = (tyi P t).size ∧ i.bytes = (tyi P t).bytes := by simp [tyi, Program.cellsOf, Program.bytesOf, h]

theorem alloc_sound (hS : SR w X A n μ) {nid n' : Nat} (hA : A nid = none) (hμ : μ nid = none) (hn : nid < n') (hnn : n ≤ n') {base : Nat} (hb : base ≤ nid) {el : TypeId} {z : List PV} (old : Value)
    (hz : (tyi P el).zero = some z) (hc : z.all PV.cell = true) : ∃ w' μ', (Instr.alloc el true old).run P w = .ok (.pointer (some ⟨w.heap.size, 0, none⟩)) w' ∧
      SR w' X (upd A nid ⟨[z], none, false⟩) n' μ' ∧ Tr base w A μ w' (upd A nid ⟨[z], none, false⟩) μ' ∧ (∀ i, i ≠ nid → μ' i = μ i) ∧
      VR w' (Av X (upd A nid ⟨[z], none, false⟩) μ') μ' (.mp nid 0 0) (.pointer (some ⟨w.heap.size, 0, none⟩)) := by
  obtain ⟨i, v, h1, h2, rfl⟩ := zero_spec hz
  obtain ⟨w', μ', k1, k2, k3, k4, k5⟩ := box_sound (P := P) hS hA hμ hn hnn hb (el := el) (ofConst_sound v) hc
  refine ⟨w', μ', ?_, k2, k3, k4, k5⟩
  rw [← k1]
  simp [Instr.alloc, Instr.box, zeroValue, typeInfo, h1, h2]

/-! ### Structs -/
theorem fillAll_sound {fs : List (Nat × Nat × Bool)} {ρ : Operand → PV} {σ : Operand → Value} (hρ : ∀ x, VR w av μ (ρ x) (σ x)) (places : Nat → Option (Nat × Nat)) (hp : ∀ i o k g, fs[i]? = some (o, k, g) → places i = some (o, k)) :
    ∀ (parts : List (Nat × Operand)) (cs : List PV) (us : Array Value) (r : List PV), fillAll fs ρ cs parts = some r → cs.length = us.size → (∀ (j : Nat) (p : PV) (u : Value), cs[j]? = some p → us[j]? = some u → VR w av μ p u) → (∀ (j : Nat) (u : Value), us[j]? = some u → flat u = true) →
    ∃ us', Instr.fill places us (parts.map fun x => (x.1, σ x.2)) = some us' ∧ r.length = us'.size ∧ (∀ (j : Nat) (p : PV) (u : Value), r[j]? = some p → us'[j]? = some u → VR w av μ p u) ∧ (∀ (j : Nat) (u : Value), us'[j]? = some u → flat u = true) := by
  intro parts
  induction parts with
  | nil => intro cs us r h h1 h2 h3; simp [fillAll] at h; subst h; exact ⟨us, rfl, h1, h2, h3⟩
  | cons q parts ih =>
    obtain ⟨i, x⟩ := q
    intro cs us r h h1 h2 h3
    simp only [fillAll] at h
    cases hf : fs[i]? with
    | none => rw [hf] at h; cases h
    | some y =>
      obtain ⟨o, k, g⟩ := y
      rw [hf] at h
      simp only at h
      split at h
      · rename_i hc
        obtain ⟨c1, c2, c3⟩ := hc
        obtain ⟨e1, e2, e3⟩ := cells_rel (hρ x) c2
        obtain ⟨f1, f2⟩ := Great.foldl_set o (σ x).cells.toList 0 us
        have hlen : (cs.take o ++ (ρ x).cells ++ cs.drop (o + k)).length = cs.length := by simp; omega
        obtain ⟨us', g1, g2, g3, g4⟩ := ih _ (((σ x).cells.toList.zipIdx 0).foldl (fun cs (x : Value × Nat) => cs.setIfInBounds (o + x.2) x.1) us) r h (by rw [hlen, f1, h1])
          (fun j p u hp' hu => by
            rw [f2 j] at hu
            have hjl := (List.getElem?_eq_some_iff.1 hp').1
            rw [hlen] at hjl
            by_cases hin : o ≤ j ∧ j < o + k
            · rw [if_pos (by simp; omega)] at hu
              rw [List.append_assoc, List.getElem?_append_right (by simp; omega), List.getElem?_append_left (by simp; omega)] at hp'
              have hm : min o cs.length = o := by omega
              simp only [List.length_take, hm] at hp'
              simp only [Nat.add_zero, Array.getElem?_toList] at hu
              exact e2 _ p u hp' hu
            · rw [if_neg (by simp; omega)] at hu
              refine h2 j p u ?_ hu
              by_cases hlo : j < o
              · rw [List.append_assoc, List.getElem?_append_left (by simp; omega), List.getElem?_take_of_lt hlo] at hp'; exact hp'
              · rw [List.getElem?_append_right (by simp; omega), List.getElem?_drop] at hp'
                rw [← hp']; congr 1
                simp only [List.length_append, List.length_take]; omega)
          (fun j u hu => by
            rw [f2 j] at hu
            split at hu
            · rw [Array.getElem?_toList] at hu; exact e3 _ u hu
            · exact h3 j u hu)
        refine ⟨us', ?_, g2, g3, g4⟩
        simp only [List.map_cons, Instr.fill, hp i o k g hf]
        have hk : (σ x).cells.size = k := by omega
        have ho : ¬ (o + (σ x).cells.size > us.size) := by omega
        rw [if_neg (by simp only [hk]; simp only [hk] at ho; simp [ho]), ← g1, ← Array.foldl_toList, Array.toList_zipIdx]
      · cases h
end
end Go.Vs

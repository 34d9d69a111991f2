/- Operations that write: what the machine's run comes to (2). -/
import Derived.Test.YtnddhkcciphhkaaVs11
set_option linter.unusedVariables false
set_option linter.unusedSimpArgs false
namespace Go.Vs
open Go

theorem takedrop_get {α : Type} (l m : List α) (o : Nat) (h : o + m.length ≤ l.length) (k : Nat) : (l.take o ++ m ++ l.drop (o + m.length))[k]? = if o ≤ k ∧ k < o + m.length then m[k - o]? else l[k]? := by
  have ho : (l.take o).length = o := by rw [List.length_take]; omega
  by_cases h1 : k < o
  · rw [if_neg (by omega), List.append_assoc, List.getElem?_append_left (by omega), List.getElem?_take_of_lt h1]
  · by_cases h2 : k < o + m.length
    · rw [if_pos ⟨by omega, h2⟩, List.append_assoc, List.getElem?_append_right (by omega), ho, List.getElem?_append_left (by omega)]
    · rw [if_neg (by omega), List.getElem?_append_right (by rw [List.length_append, ho]; omega), List.length_append, ho, List.getElem?_drop]
      congr 1; omega
theorem takedrop_len {α : Type} (l m : List α) (o : Nat) (h : o + m.length ≤ l.length) : (l.take o ++ m ++ l.drop (o + m.length)).length = l.length := by
  simp; omega
theorem splice_eq (row : List PV) (off : Nat) (cs : List PV) : splice row off cs = row.take off ++ cs ++ row.drop (off + cs.length) := by
  unfold splice
  split
  · rename_i h
    obtain ⟨rfl, h⟩ := h
    simp [h]
  · rfl

section
variable {P : Program} {w : World} {X : Nat → Prop} {A : Arrs} {n : Nat} {μ : Mu} {av : Nat → Prop} {S : Store}

theorem arrs_get {S : Store} {id : Nat} {rows : List (List PV)} {g : Option (Option Nat)} {f : Bool} (h : S[id]? = some (.arr rows g f)) : arrs S id = some ⟨rows, g, f⟩ := by unfold arrs; rw [h]
theorem arrs_set {S : Store} {id : Nat} {o : Obj} (hl : id < S.length) {rows : List (List PV)} {g : Option (Option Nat)} {f : Bool} (ho : o = .arr rows g f) : arrs (S.set id o) = upd (arrs S) id ⟨rows, g, f⟩ := by
  subst ho
  funext j
  by_cases hj : j = id
  · subst hj; rw [upd_same]; unfold arrs; rw [List.getElem?_set_self hl]
  · rw [upd_ne _ _ _ hj]; unfold arrs; rw [List.getElem?_set_ne (Ne.symm hj)]

theorem storeA_sound (hS : SR w X A n μ) {t : TypeId} (hk : (tyi P t).known = true) {id i off : Nat} {rows : List (List PV)} {g : Option (Option Nat)} {y : PV} {u v : Value} (hx : VR w (Av X A μ) μ (.mp id i off) u) (hy : VR w (Av X A μ) μ y v)
    (hA : A id = some ⟨rows, g, false⟩) (c1 : i < rows.length) (c2 : off + (tyi P t).size ≤ (rows.getD i []).length) (c3 : y.cells.length = (tyi P t).size) (c4 : y.cells.all PV.cell = true) (base : Nat) :
    ∃ w', (Instr.storeAt t u v).run P w = .ok () w' ∧ SR w' X (upd A id ⟨rows.set i (splice (rows.getD i []) off y.cells), g, false⟩) n μ ∧ Tr base w A μ w' (upd A id ⟨rows.set i (splice (rows.getD i []) off y.cells), g, false⟩) μ := by
  obtain ⟨d, i0, hd, hi0, hs0, _⟩ := tyi_known hk
  cases hx with
  | fr hx => cases hx
  | mp _ _ _ b hb =>
    obtain ⟨c, el, hh, htot, hrt, hsz, hcell⟩ := hS.blk id _ hA b hb
    replace hrt : rows.length * b.sz ≤ b.tot := hrt
    replace hsz : ∀ r ∈ rows, r.length = b.sz := hsz
    obtain ⟨e1, e2, e3⟩ := cells_rel hy c4
    have hrow : rows[i]? = some (rows.getD i []) := by simp [List.getD, List.getElem?_eq_getElem c1]
    have hrl : (rows.getD i []).length = b.sz := hsz _ (List.mem_of_getElem? hrow)
    have hvs : v.cells.toList.length = (tyi P t).size := by rw [Array.length_toList, ← e1, c3]
    have hfit : i * b.sz + off + v.cells.toList.length ≤ c.toList.length := by
      rw [hvs, Array.length_toList, htot]
      have : (i + 1) * b.sz ≤ rows.length * b.sz := Nat.mul_le_mul_right _ c1
      rw [Nat.add_mul] at this; omega
    have hst := run_storeCells_at P b.b (i * b.sz + off) el v.cells.toList 0 c w hh (by rw [Nat.add_zero]; simpa using hfit) (fun x hx => by
      obtain ⟨j, hj⟩ := List.getElem?_of_mem hx
      rw [Array.getElem?_toList] at hj
      exact flat_oneCell (e3 j x hj))
    simp only [Nat.add_zero] at hst
    have hrun : (Instr.storeAt t (.pointer (some ⟨b.b, i * b.sz + off, none⟩)) v).run P w = .ok () (w.setRow b.b (c.toList.take (i * b.sz + off) ++ v.cells.toList ++ c.toList.drop (i * b.sz + off + v.cells.toList.length)).toArray) := by
      simp only [Instr.storeAt, Instr.sureAddr, Sem.run_bind, Sem.run_pure, Result.andThen_ok, storeVar, run_sizeOf' hi0]
      rw [if_neg (by rw [hs0, ← e1, c3]; simp)]
      exact hst
    have hlen2 : (c.toList.take (i * b.sz + off) ++ v.cells.toList ++ c.toList.drop (i * b.sz + off + v.cells.toList.length)).length = c.size := by rw [takedrop_len _ _ _ hfit, Array.length_toList]
    obtain ⟨k1, k2, k3⟩ := hS.rewrite hA rfl (bk := b) (.inl hb) (base := base) (.inl hb) (w' := w.setRow b.b (c.toList.take (i * b.sz + off) ++ v.cells.toList ++ c.toList.drop (i * b.sz + off + v.cells.toList.length)).toArray)
      rfl rfl rfl (by rw [size_setRow]; exact Nat.le_refl _) (fun k _ hk => heap_setRow hk)
      (A' := upd A id ⟨rows.set i (splice (rows.getD i []) off y.cells), g, false⟩) (a' := ⟨rows.set i (splice (rows.getD i []) off y.cells), g, false⟩) (by rw [upd_same]) rfl (fun k hg => by
        have hg' : g = some k := hg
        obtain ⟨q1, q2⟩ := hS.gsz id _ hA
        cases k with
        | none => rw [q1 hg'] at hb; cases hb
        | some k => rw [q2 k hg' b hb])
      (fun j hj b' hb' => by
        rw [upd_ne _ _ _ hj] at hb'
        exact ⟨b', hb', ⟨rfl, rfl⟩, rfl, fun a row' ha => ⟨row', ha, rfl, fun k pv' hk => ⟨pv', hk, .inr ⟨rfl, .inl hb⟩⟩⟩⟩)
      (setRow_heap w b.b c _ el (0, 0) hh) (by simp only [List.size_toArray]; rw [hlen2]; exact htot) (by simpa using hrt)
      (fun r hr => by
        rcases List.mem_or_eq_of_mem_set hr with hr | rfl
        · exact hsz r hr
        · rw [splice_eq, takedrop_len _ _ _ (by rw [c3]; exact c2)]; exact hrl)
      (fun a row j pv ha hj => by
        rw [List.getElem?_toArray, takedrop_get _ _ _ hfit]
        rw [List.getElem?_set] at ha
        have hal : a < rows.length := by
          split at ha
          · omega
          · exact (List.getElem?_eq_some_iff.1 ha).1
        by_cases hai : i = a
        · subst hai
          rw [if_pos rfl, if_pos c1] at ha
          simp only [Option.some.injEq] at ha
          subst ha
          rw [splice_eq, takedrop_get _ _ _ (by rw [c3]; exact c2)] at hj
          by_cases hin : off ≤ j ∧ j < off + y.cells.length
          · rw [if_pos hin] at hj
            rw [if_pos (by rw [hvs]; omega)]
            rw [show i * b.sz + j - (i * b.sz + off) = j - off by omega, Array.getElem?_toList]
            have hu : v.cells[j - off]? = some (v.cells[j - off]'(by omega)) := Array.getElem?_eq_getElem _
            exact ⟨_, hu, e3 _ _ hu, e2 _ pv _ hj hu, .inl hb⟩
          · rw [if_neg hin] at hj
            rw [if_neg (by rw [hvs]; omega), Array.getElem?_toList]
            obtain ⟨q, q1, q2, q3⟩ := hcell i _ j pv hrow hj
            exact ⟨q, q1, q2, q3, .inl hb⟩
        · rw [if_neg hai] at ha
          have hjl := (List.getElem?_eq_some_iff.1 hj).1
          rw [hsz row (List.mem_of_getElem? ha)] at hjl
          have hout : ¬ (i * b.sz + off ≤ a * b.sz + j ∧ a * b.sz + j < i * b.sz + off + v.cells.toList.length) := by
            rw [hvs]
            rcases Nat.lt_or_gt_of_ne hai with hlt | hlt
            · have : (i + 1) * b.sz ≤ a * b.sz := Nat.mul_le_mul_right _ hlt
              rw [Nat.add_mul] at this; omega
            · have : (a + 1) * b.sz ≤ i * b.sz := Nat.mul_le_mul_right _ hlt
              rw [Nat.add_mul] at this; omega
          rw [if_neg hout, Array.getElem?_toList]
          obtain ⟨q, q1, q2, q3⟩ := hcell a row j pv ha hj
          exact ⟨q, q1, q2, q3, .inl hb⟩)
    have hup : upd μ id b = μ := by
      funext j
      by_cases hj : j = id
      · subst hj; rw [upd_same, hb]
      · exact upd_ne _ _ _ hj
    rw [hup] at k1 k2
    exact ⟨_, hrun, k1, k2⟩

theorem store_sound (hS : SR w X (arrs S) n μ) {t : TypeId} (hk : (tyi P t).known = true) {x y : PV} {u v : Value} (hx : VR w (Av X (arrs S) μ) μ x u) (hy : VR w (Av X (arrs S) μ) μ y v) {S' : Store} (h : evStore (tyi P t).size S x y = some S') (base : Nat) :
    ∃ w', (Instr.storeAt t u v).run P w = .ok () w' ∧ SR w' X (arrs S') n μ ∧ Tr base w (arrs S) μ w' (arrs S') μ ∧ S'.length = S.length := by
  cases x <;> simp only [evStore, reduceCtorEq] at h
  case mp id i off =>
  cases hid : S[id]? with
  | none => rw [hid] at h; cases h
  | some o =>
  rw [hid] at h
  cases o with
  | gone => cases h
  | arr rows g f =>
  cases f with
  | true => cases h
  | false =>
  simp only at h
  split at h
  · rename_i hc
    obtain ⟨c1, c2, c3, c4⟩ := hc
    cases h
    have hl := (List.getElem?_eq_some_iff.1 hid).1
    obtain ⟨w', k1, k2, k3⟩ := storeA_sound hS hk hx hy (arrs_get hid) c1 c2 c3 c4 base
    rw [← arrs_set hl (o := Obj.arr (rows.set i (splice (rows.getD i []) off y.cells)) g false) rfl] at k2 k3
    exact ⟨w', k1, k2, k3, by simp⟩
  · cases h
end
end Go.Vs

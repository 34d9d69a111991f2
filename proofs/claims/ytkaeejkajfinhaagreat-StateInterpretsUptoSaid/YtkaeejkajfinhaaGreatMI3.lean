import Derived.Deep.Upon
import Derived.Test.YtkaeejkajfinhaaGreatMI2
section
set_option linter.unusedVariables false
set_option linter.unusedSimpArgs false
namespace Go.Vs
open Go
section
variable {P : Program} {w : World} {X : Nat → Prop} {A : Arrs} {n : Nat} {μ : Mu} {av : Nat → Prop}
theorem SR.same (hS : SR w X A n μ) {w' : World} (hh : w'.heap = w.heap) (h1 : w'.os = w.os) (h2 : w'.tape = w.tape) (h3 : w'.output = w.output) (base : Nat) : SR w' X A n μ ∧ Tr base w A μ w' A μ := by
  have htr : Tr base w A μ w' A μ := ⟨h1, h2, h3, by rw [hh]; exact Nat.le_refl _, fun b _ _ => by rw [hh], fun _ _ h => h, fun _ _ => rfl⟩
  refine ⟨⟨hS.lt, fun id a ha b hb => ?_, hS.nob, hS.gsz, hS.inj, hS.out, fun b hb => by rw [hh]; exact hS.xlt b hb⟩, htr⟩
  obtain ⟨c, el, k0, k1, k2, k3, k4⟩ := hS.blk id a ha b hb
  refine ⟨c, el, by rw [hh]; exact k0, k1, k2, k3, fun i row j pv hi hj => ?_⟩
  obtain ⟨v, hv1, hv2, hv3⟩ := k4 i row j pv hi hj
  exact ⟨v, hv1, hv2, hv3.mono htr.keeps fun _ _ _ h => h⟩
theorem heap_setRow {g : Nat} {cs : Array Value} {k : Nat} (h : k ≠ g) : (w.setRow g cs).heap[k]? = w.heap[k]? := by
  show (w.heap.modify g _)[k]? = _
  rw [Array.getElem?_modify, if_neg (Ne.symm h)]
theorem size_setRow {g : Nat} {cs : Array Value} : (w.setRow g cs).heap.size = w.heap.size := by
  show (w.heap.modify g _).size = _
  simp
theorem SR.rewrite (hS : SR w X A n μ) {w' : World} {id : Nat} {a : Arr} (ha : A id = some a) (haf : a.f = false) {bk : Blk} (hbk : μ id = some bk ∨ w.heap.size ≤ bk.b)  {base : Nat} (hbase : μ id = some bk ∨ base ≤ id)
    (ho : w'.os = w.os) (ht : w'.tape = w.tape) (hp : w'.output = w.output) (hz : w.heap.size ≤ w'.heap.size) (hk : ∀ b, b < w.heap.size → b ≠ bk.b → w'.heap[b]? = w.heap[b]?)
    {A' : Arrs} {a' : Arr} (ha' : A' id = some a') (ha'f : a'.f = false) (ha'g : ∀ k, a'.g = some k → k = some bk.sz)
    (hoth : ∀ j, j ≠ id → ∀ b', A' j = some b' → ∃ b0, A j = some b0 ∧ (b'.f = b0.f ∧ b'.g = b0.g) ∧ b'.rows.length = b0.rows.length ∧ ∀ (i : Nat) (row' : List PV), b'.rows[i]? = some row' → ∃ row : List PV, b0.rows[i]? = some row ∧ row'.length = row.length ∧
      ∀ (k : Nat) (pv' : PV), row'[k]? = some pv' → ∃ pv, row[k]? = some pv ∧ (pv' = .undef ∨ (pv' = pv ∧ (μ id = some bk ∨ id ∉ pv.refs))))
    {c : Array Value} {el : TypeId} (hheap : w'.heap[bk.b]? = some (.cells c el (0, 0))) (htot : c.size = bk.tot) (hrt : a'.rows.length * bk.sz ≤ bk.tot) (hsz : ∀ r ∈ a'.rows, r.length = bk.sz)
    (hc : ∀ i row j pv, a'.rows[i]? = some row → row[j]? = some pv → ∃ v, c[i * bk.sz + j]? = some v ∧ flat v = true ∧ VR w (Av X A μ) μ pv v ∧ (μ id = some bk ∨ id ∉ pv.refs)) :
    SR w' X A' n (upd μ id bk) ∧ Tr base w A μ w' A' (upd μ id bk) ∧ (∀ pv v, VR w (Av X A μ) μ pv v → (μ id = some bk ∨ id ∉ pv.refs) → VR w' (Av X A' (upd μ id bk)) (upd μ id bk) pv v) := by
  have hin : id < n := by
    rcases Nat.lt_or_ge id n with h | h
    · exact h
    · rw [(hS.lt id h).2] at ha; cases ha
  have hblt : ∀ j b0 k, A j = some b0 → μ j = some k → k.b < w.heap.size := fun j b0 k h1 h2 => by
    obtain ⟨c, el, hh, _⟩ := hS.blk j b0 h1 k h2
    exact (Array.getElem?_eq_some_iff.1 hh).1
  have hne : ∀ j b0 k, j ≠ id → A j = some b0 → μ j = some k → k.b ≠ bk.b := fun j b0 k hj h1 h2 he => by
    rcases hbk with h | h
    · exact hj (hS.inj j id b0 a k bk h1 ha h2 h he)
    · have := hblt j b0 k h1 h2; omega
  have hmu : ∀ j, j ≠ id → upd μ id bk j = μ j := fun j hj => upd_ne _ _ _ hj
  have hmutId : ∀ b, b < w.heap.size → b = bk.b → Mut A μ b := fun b hb he => by
    rcases hbk with h | h
    · exact ⟨id, a.rows, a.g, bk, by rw [ha]; cases a; simp_all, h, he.symm⟩
    · omega
  have htr : Tr base w A μ w' A' (upd μ id bk) := by
    refine ⟨ho, ht, hp, hz, fun b hb hm => hk b hb fun he => hm (hmutId b hb he), fun b hb => ?_, fun j hj => ?_⟩
    · rintro ⟨j, rows, g, k, h1, h2, rfl⟩
      by_cases hj : j = id
      · subst hj; rw [upd_same] at h2; simp at h2; subst h2; exact hmutId _ hb rfl
      · rw [hmu j hj] at h2
        obtain ⟨b0, e1, ⟨e2, _⟩, _⟩ := hoth j hj _ h1
        exact ⟨j, b0.rows, b0.g, k, by rw [e1]; simp at e2; cases b0; simp_all, h2, rfl⟩
    · by_cases hj' : j = id
      · subst hj'
        rcases hbase with h | h
        · rw [upd_same, h]
        · omega
      · exact hmu j hj'
  have lift : ∀ pv v, VR w (Av X A μ) μ pv v → (μ id = some bk ∨ id ∉ pv.refs) → VR w' (Av X A' (upd μ id bk)) (upd μ id bk) pv v := fun pv v hv hr => by
    refine hv.mono htr.keeps fun i hi b hb => ?_
    by_cases hid : i = id
    · subst hid
      rcases hr with h | h
      · rw [upd_same, ← h]; exact hb
      · exact absurd hi h
    · rw [hmu i hid]; exact hb
  refine ⟨⟨fun j hj => ?_, fun j b' hb' k hk' => ?_, fun j b' hb' hk' => ?_, fun j b' hb' => ?_, fun j j' b1 b2 k1 k2 h1 h2 h3 h4 h5 => ?_, fun j b' k h1 h2 => ?_, fun b hb => Nat.lt_of_lt_of_le (hS.xlt b hb) hz⟩, htr, lift⟩
  · have hj' : j ≠ id := by omega
    refine ⟨by rw [hmu j hj']; exact (hS.lt j hj).1, ?_⟩
    cases hq : A' j with
    | none => rfl
    | some b' => obtain ⟨b0, e1, _⟩ := hoth j hj' b' hq; rw [(hS.lt j hj).2] at e1; cases e1
  · by_cases hj : j = id
    · subst hj
      rw [upd_same] at hk'; simp at hk'; subst hk'
      rw [ha'] at hb'; simp at hb'; subst hb'
      refine ⟨c, el, hheap, htot, hrt, hsz, fun i row j pv hi hj => ?_⟩
      obtain ⟨v, v1, v2, v3, v4⟩ := hc i row j pv hi hj
      exact ⟨v, v1, v2, lift pv v v3 v4⟩
    · rw [hmu j hj] at hk'
      obtain ⟨b0, e1, e2, e3, e4⟩ := hoth j hj b' hb'
      obtain ⟨c0, el0, g0, g1, g2, g3, g4⟩ := hS.blk j b0 e1 k hk'
      refine ⟨c0, el0, by rw [hk k.b (hblt j b0 k e1 hk') (hne j b0 k hj e1 hk')]; exact g0, g1, by rw [e3]; exact g2, fun r hr => ?_, fun i row' x pv' hi hx => ?_⟩
      · obtain ⟨i, hi⟩ := List.getElem?_of_mem hr
        obtain ⟨row, r1, r2, _⟩ := e4 i r hi
        rw [r2]; exact g3 row (List.mem_of_getElem? r1)
      · obtain ⟨row, r1, r2, r3⟩ := e4 i row' hi
        obtain ⟨pv, p1, p2⟩ := r3 x pv' hx
        obtain ⟨v, v1, v2, v3⟩ := g4 i row x pv r1 p1
        refine ⟨v, v1, v2, ?_⟩
        rcases p2 with rfl | ⟨rfl, hr⟩
        · exact .undef v
        · exact lift _ _ v3 hr
  · by_cases hj : j = id
    · subst hj; rw [upd_same] at hk'; cases hk'
    · rw [hmu j hj] at hk'
      obtain ⟨b0, e1, e2, e3, _⟩ := hoth j hj b' hb'
      have := hS.nob j b0 e1 hk'
      rw [this] at e3
      exact List.eq_nil_of_length_eq_zero (by simpa using e3)
  · by_cases hj : j = id
    · subst hj
      rw [ha'] at hb'; simp at hb'; subst hb'
      refine ⟨fun h => (by cases ha'g _ h), fun k h b hb => ?_⟩
      rw [upd_same] at hb; simp at hb; subst hb
      have := ha'g _ h
      simpa using this.symm
    · rw [hmu j hj]
      obtain ⟨b0, e1, ⟨_, e2⟩, _⟩ := hoth j hj b' hb'
      rw [e2]; exact hS.gsz j b0 e1
  · have old : ∀ j b' , j ≠ id → A' j = some b' → ∃ b0, A j = some b0 := fun j b' hj h => let ⟨b0, e, _⟩ := hoth j hj b' h; ⟨b0, e⟩
    by_cases hj : j = id
    · by_cases hj' : j' = id
      · omega
      · subst hj
        rw [upd_same] at h3; simp at h3; subst h3
        rw [hmu j' hj'] at h4
        obtain ⟨b0, e⟩ := old j' b2 hj' h2
        exact absurd h5.symm (hne j' b0 k2 hj' e h4)
    · by_cases hj' : j' = id
      · subst hj'
        rw [upd_same] at h4; simp at h4; subst h4
        rw [hmu j hj] at h3
        obtain ⟨b0, e⟩ := old j b1 hj h1
        exact absurd h5 (hne j b0 k1 hj e h3)
      · rw [hmu j hj] at h3; rw [hmu j' hj'] at h4
        obtain ⟨b0, e⟩ := old j b1 hj h1
        obtain ⟨b0', e'⟩ := old j' b2 hj' h2
        exact hS.inj j j' b0 b0' k1 k2 e e' h3 h4 h5
  · by_cases hj : j = id
    · subst hj
      rw [upd_same] at h2; simp at h2; subst h2
      rcases hbk with h | h
      · exact hS.out j a _ ha h
      · exact fun hx => by have := hS.xlt _ hx; omega
    · rw [hmu j hj] at h2
      obtain ⟨b0, e1, _⟩ := hoth j hj b' h1
      exact hS.out j b0 k e1 h2
end
end Go.Vs
end
section
set_option linter.unusedVariables false
set_option linter.unusedSimpArgs false
namespace Go.Vs
open Go
theorem takedrop_get {α : Type} (l m : List α) (o : Nat) (h : o + m.length ≤ l.length) (k : Nat) : (l.take o ++ m ++ l.drop (o + m.length))[k]? = if o ≤ k ∧ k < o + m.length then m[k - o]? else l[k]? := by
  have ho : (l.take o).length = o := by rw [List.length_take]; omega
  by_cases h1 : k < o
  · rw [if_neg (by omega), List.append_assoc, List.getElem?_append_left (by omega), List.getElem?_take_of_lt h1]
  · by_cases h2 : k < o + m.length
    · rw [if_pos ⟨by omega, h2⟩, List.append_assoc, List.getElem?_append_right (by omega), ho, List.getElem?_append_left (by omega)]
    · rw [if_neg (by omega), List.getElem?_append_right (by rw [List.length_append, ho]; omega), List.length_append, ho, List.getElem?_drop]
      congr 1; omega
theorem takedrop_len {α : Type} (l m : List α) (o : Nat) (h : o + m.length ≤ l.length) : (l.take o ++ m ++ l.drop (o + m.length)).length = l.length := by
  simp; omega
theorem splice_eq (row : List PV) (off : Nat) (cs : List PV) : splice row off cs = row.take off ++ cs ++ row.drop (off + cs.length) := by
  unfold splice
  split
  · rename_i h
    obtain ⟨rfl, h⟩ := h
    simp [h]
  · rfl
section
variable {P : Program} {w : World} {X : Nat → Prop} {A : Arrs} {n : Nat} {μ : Mu} {av : Nat → Prop} {S : Store}
theorem arrs_get {S : Store} {id : Nat} {rows : List (List PV)} {g : Option (Option Nat)} {f : Bool} (h : S[id]? = some (.arr rows g f)) : arrs S id = some ⟨rows, g, f⟩ := by unfold arrs; rw [h]
theorem arrs_set {S : Store} {id : Nat} {o : Obj} (hl : id < S.length) {rows : List (List PV)} {g : Option (Option Nat)} {f : Bool} (ho : o = .arr rows g f) : arrs (S.set id o) = upd (arrs S) id ⟨rows, g, f⟩ := by
  subst ho
  funext j
  by_cases hj : j = id
  · subst hj; rw [upd_same]; unfold arrs; rw [List.getElem?_set_self hl]
  · rw [upd_ne _ _ _ hj]; unfold arrs; rw [List.getElem?_set_ne (Ne.symm hj)]
theorem storeA_sound (hS : SR w X A n μ) {t : TypeId} (hk : (tyi P t).known = true) {id i off : Nat} {rows : List (List PV)} {g : Option (Option Nat)} {y : PV} {u v : Value} (hx : VR w (Av X A μ) μ (.mp id i off) u) (hy : VR w (Av X A μ) μ y v)
    (hA : A id = some ⟨rows, g, false⟩) (c1 : i < rows.length) (c2 : off + (tyi P t).size ≤ (rows.getD i []).length) (c3 : y.cells.length = (tyi P t).size) (c4 : y.cells.all PV.cell = true) (base : Nat) :
    ∃ w', (Instr.storeAt t u v).run P w = .ok () w' ∧ SR w' X (upd A id ⟨rows.set i (splice (rows.getD i []) off y.cells), g, false⟩) n μ ∧ Tr base w A μ w' (upd A id ⟨rows.set i (splice (rows.getD i []) off y.cells), g, false⟩) μ := by
  obtain ⟨d, i0, hd, hi0, hs0, _⟩ := tyi_known hk
  cases hx with
  | fr hx => cases hx
  | mp _ _ _ b hb =>
    obtain ⟨c, el, hh, htot, hrt, hsz, hcell⟩ := hS.blk id _ hA b hb
    replace hrt : rows.length * b.sz ≤ b.tot := hrt
    replace hsz : ∀ r ∈ rows, r.length = b.sz := hsz
    obtain ⟨e1, e2, e3⟩ := cells_rel hy c4
    have hrow : rows[i]? = some (rows.getD i []) := by simp [List.getD, List.getElem?_eq_getElem c1]
    have hrl : (rows.getD i []).length = b.sz := hsz _ (List.mem_of_getElem? hrow)
    have hvs : v.cells.toList.length = (tyi P t).size := by rw [Array.length_toList, ← e1, c3]
    have hfit : i * b.sz + off + v.cells.toList.length ≤ c.toList.length := by
      rw [hvs, Array.length_toList, htot]
      have : (i + 1) * b.sz ≤ rows.length * b.sz := Nat.mul_le_mul_right _ c1
      rw [Nat.add_mul] at this; omega
    have hst := run_storeCells_at P b.b (i * b.sz + off) el v.cells.toList 0 c w hh (by rw [Nat.add_zero]; simpa using hfit) (fun x hx => by
      obtain ⟨j, hj⟩ := List.getElem?_of_mem hx
      rw [Array.getElem?_toList] at hj
      exact flat_oneCell (e3 j x hj))
    simp only [Nat.add_zero] at hst
    have hrun : (Instr.storeAt t (.pointer (some ⟨b.b, i * b.sz + off, none⟩)) v).run P w = .ok () (w.setRow b.b (c.toList.take (i * b.sz + off) ++ v.cells.toList ++ c.toList.drop (i * b.sz + off + v.cells.toList.length)).toArray) := by
      simp only [Instr.storeAt, Instr.sureAddr, Sem.run_bind, Sem.run_pure, Result.andThen_ok, storeVar, run_sizeOf' hi0]
      rw [if_neg (by rw [hs0, ← e1, c3]; simp)]
      exact hst
    have hlen2 : (c.toList.take (i * b.sz + off) ++ v.cells.toList ++ c.toList.drop (i * b.sz + off + v.cells.toList.length)).length = c.size := by rw [takedrop_len _ _ _ hfit, Array.length_toList]
    obtain ⟨k1, k2, k3⟩ := hS.rewrite hA rfl (bk := b) (.inl hb) (base := base) (.inl hb) (w' := w.setRow b.b (c.toList.take (i * b.sz + off) ++ v.cells.toList ++ c.toList.drop (i * b.sz + off + v.cells.toList.length)).toArray)
      rfl rfl rfl (by rw [size_setRow]; exact Nat.le_refl _) (fun k _ hk => heap_setRow hk)
      (A' := upd A id ⟨rows.set i (splice (rows.getD i []) off y.cells), g, false⟩) (a' := ⟨rows.set i (splice (rows.getD i []) off y.cells), g, false⟩) (by rw [upd_same]) rfl (fun k hg => by
        have hg' : g = some k := hg
        obtain ⟨q1, q2⟩ := hS.gsz id _ hA
        cases k with
        | none => rw [q1 hg'] at hb; cases hb
        | some k => rw [q2 k hg' b hb])
      (fun j hj b' hb' => by
        rw [upd_ne _ _ _ hj] at hb'
        exact ⟨b', hb', ⟨rfl, rfl⟩, rfl, fun a row' ha => ⟨row', ha, rfl, fun k pv' hk => ⟨pv', hk, .inr ⟨rfl, .inl hb⟩⟩⟩⟩)
      (setRow_heap w b.b c _ el (0, 0) hh) (by simp only [List.size_toArray]; rw [hlen2]; exact htot) (by simpa using hrt)
      (fun r hr => by
        rcases List.mem_or_eq_of_mem_set hr with hr | rfl
        · exact hsz r hr
        · rw [splice_eq, takedrop_len _ _ _ (by rw [c3]; exact c2)]; exact hrl)
      (fun a row j pv ha hj => by
        rw [List.getElem?_toArray, takedrop_get _ _ _ hfit]
        rw [List.getElem?_set] at ha
        have hal : a < rows.length := by
          split at ha
          · omega
          · exact (List.getElem?_eq_some_iff.1 ha).1
        by_cases hai : i = a
        · subst hai
          rw [if_pos rfl, if_pos c1] at ha
          simp only [Option.some.injEq] at ha
          subst ha
          rw [splice_eq, takedrop_get _ _ _ (by rw [c3]; exact c2)] at hj
          by_cases hin : off ≤ j ∧ j < off + y.cells.length
          · rw [if_pos hin] at hj
            rw [if_pos (by rw [hvs]; omega)]
            rw [show i * b.sz + j - (i * b.sz + off) = j - off by omega, Array.getElem?_toList]
            have hu : v.cells[j - off]? = some (v.cells[j - off]'(by omega)) := Array.getElem?_eq_getElem _
            exact ⟨_, hu, e3 _ _ hu, e2 _ pv _ hj hu, .inl hb⟩
          · rw [if_neg hin] at hj
            rw [if_neg (by rw [hvs]; omega), Array.getElem?_toList]
            obtain ⟨q, q1, q2, q3⟩ := hcell i _ j pv hrow hj
            exact ⟨q, q1, q2, q3, .inl hb⟩
        · rw [if_neg hai] at ha
          have hjl := (List.getElem?_eq_some_iff.1 hj).1
          rw [hsz row (List.mem_of_getElem? ha)] at hjl
          have hout : ¬ (i * b.sz + off ≤ a * b.sz + j ∧ a * b.sz + j < i * b.sz + off + v.cells.toList.length) := by
            rw [hvs]
            rcases Nat.lt_or_gt_of_ne hai with hlt | hlt
            · have : (i + 1) * b.sz ≤ a * b.sz := Nat.mul_le_mul_right _ hlt
              rw [Nat.add_mul] at this; omega
            · have : (a + 1) * b.sz ≤ i * b.sz := Nat.mul_le_mul_right _ hlt
              rw [Nat.add_mul] at this; omega
          rw [if_neg hout, Array.getElem?_toList]
          obtain ⟨q, q1, q2, q3⟩ := hcell a row j pv ha hj
          exact ⟨q, q1, q2, q3, .inl hb⟩)
    have hup : upd μ id b = μ := by
      funext j
      by_cases hj : j = id
      · subst hj; rw [upd_same, hb]
      · exact upd_ne _ _ _ hj
    rw [hup] at k1 k2
    exact ⟨_, hrun, k1, k2⟩
theorem store_sound (hS : SR w X (arrs S) n μ) {t : TypeId} (hk : (tyi P t).known = true) {x y : PV} {u v : Value} (hx : VR w (Av X (arrs S) μ) μ x u) (hy : VR w (Av X (arrs S) μ) μ y v) {S' : Store} (h : evStore (tyi P t).size S x y = some S') (base : Nat) :
    ∃ w', (Instr.storeAt t u v).run P w = .ok () w' ∧ SR w' X (arrs S') n μ ∧ Tr base w (arrs S) μ w' (arrs S') μ ∧ S'.length = S.length := by
  cases x <;> simp only [evStore, reduceCtorEq] at h
  case mp id i off =>
  cases hid : S[id]? with
  | none => rw [hid] at h; cases h
  | some o =>
  rw [hid] at h
  cases o with
  | gone => cases h
  | arr rows g f =>
  cases f with
  | true => cases h
  | false =>
  simp only at h
  split at h
  · rename_i hc
    obtain ⟨c1, c2, c3, c4⟩ := hc
    cases h
    have hl := (List.getElem?_eq_some_iff.1 hid).1
    obtain ⟨w', k1, k2, k3⟩ := storeA_sound hS hk hx hy (arrs_get hid) c1 c2 c3 c4 base
    rw [← arrs_set hl (o := Obj.arr (rows.set i (splice (rows.getD i []) off y.cells)) g false) rfl] at k2 k3
    exact ⟨w', k1, k2, k3, by simp⟩
  · cases h
end
end Go.Vs
end
section
set_option linter.unusedVariables false
set_option linter.unusedSimpArgs false
namespace Go.Vs
open Go
theorem map_some' {α β : Type} {f : α → β} {x : Option α} {b : β} (h : x.map f = some b) : ∃ a, x = some a ∧ b = f a := by
  cases x with
  | none => cases h
  | some a => exact ⟨a, rfl, by simpa using h.symm⟩
theorem bind_some' {α β : Type} {f : α → Option β} {x : Option α} {b : β} (h : x.bind f = some b) : ∃ a, x = some a ∧ f a = some b := by
  cases x with
  | none => cases h
  | some a => exact ⟨a, rfl, h⟩
section
variable {P : Program} {w : World} {X : Nat → Prop} {A : Arrs} {n : Nat} {μ : Mu} {av : Nat → Prop} {S : Store}
theorem SR.newNil (hS : SR w X A n μ) {nid n' : Nat} (hA : A nid = none) (hμ : μ nid = none) (hn : nid < n') (hnn : n ≤ n') (g : Option (Option Nat)) (base : Nat) :
    SR w X (upd A nid ⟨[], g, false⟩) n' μ ∧ Tr base w A μ w (upd A nid ⟨[], g, false⟩) μ := by
  have hm : ∀ b, Mut (upd A nid ⟨[], g, false⟩) μ b → Mut A μ b := by
    rintro b ⟨id, rows, g', k, h1, h2, h3⟩
    by_cases hid : id = nid
    · subst hid; rw [hμ] at h2; cases h2
    · rw [upd_ne _ _ _ hid] at h1; exact ⟨id, rows, g', k, h1, h2, h3⟩
  have htr : Tr base w A μ w (upd A nid ⟨[], g, false⟩) μ := ⟨rfl, rfl, rfl, Nat.le_refl _, fun _ _ _ => rfl, fun b _ h => hm b h, fun _ _ => rfl⟩
  refine ⟨⟨fun id hid => ⟨(hS.lt id (by omega)).1, by rw [upd_ne _ _ _ (by omega)]; exact (hS.lt id (by omega)).2⟩, fun id a ha b hb => ?_, fun id a ha hb => ?_, fun id a ha => ?_, fun id id' a a' b b' h1 h2 h3 h4 h5 => ?_, fun id a b h1 h2 => ?_, hS.xlt⟩, htr⟩
  · by_cases hid : id = nid
    · subst hid; rw [hμ] at hb; cases hb
    · rw [upd_ne _ _ _ hid] at ha
      obtain ⟨c, el, k0, k1, k2, k3, k4⟩ := hS.blk id a ha b hb
      refine ⟨c, el, k0, k1, k2, k3, fun i row j pv hi hj => ?_⟩
      obtain ⟨v, hv1, hv2, hv3⟩ := k4 i row j pv hi hj
      exact ⟨v, hv1, hv2, hv3.mono htr.keeps fun _ _ _ h => h⟩
  · by_cases hid : id = nid
    · subst hid; rw [upd_same] at ha; simp at ha; subst ha; rfl
    · rw [upd_ne _ _ _ hid] at ha; exact hS.nob id a ha hb
  · by_cases hid : id = nid
    · subst hid; exact ⟨fun _ => hμ, fun k _ b hb => by rw [hμ] at hb; cases hb⟩
    · rw [upd_ne _ _ _ hid] at ha; exact hS.gsz id a ha
  · by_cases hid : id = nid
    · subst hid; rw [hμ] at h3; cases h3
    · by_cases hid' : id' = nid
      · subst hid'; rw [hμ] at h4; cases h4
      · rw [upd_ne _ _ _ hid] at h1; rw [upd_ne _ _ _ hid'] at h2
        exact hS.inj id id' a a' b b' h1 h2 h3 h4 h5
  · by_cases hid : id = nid
    · subst hid; rw [hμ] at h2; cases h2
    · rw [upd_ne _ _ _ hid] at h1; exact hS.out id a b h1 h2
theorem zeroOK_spec {t : TypeId} (h : zeroOK (tyi P t) = true) : ∃ i v, P.info? t = some i ∧ i.zero = some v ∧ v.cells.size = i.size ∧ i.size = (tyi P t).size ∧ i.bytes = (tyi P t).bytes := by
  unfold zeroOK at h
  cases hz : (tyi P t).zero with
  | none => rw [hz] at h; cases h
  | some z =>
    rw [hz] at h
    simp only [Bool.and_eq_true, beq_iff_eq] at h
    obtain ⟨i, v, h1, h2, rfl⟩ := zero_spec hz
    obtain ⟨s1, s2⟩ := info_size h1
    obtain ⟨e1, _⟩ := cells_rel (w := default) (av := fun _ => False) (μ := fun _ => none) (ofConst_sound v) h.2
    exact ⟨i, v, h1, h2, by omega, s1, s2⟩
theorem size_zeroCells (z : Array Value) (k : Nat) : (Builtin.zeroCells z k).size = k * z.size := by simp [Builtin.zeroCells]
theorem comb_get {sz : Nat} {rows new : List (List PV)} {olds news : List Value} {R : PV → Value → Prop} (hrl : ∀ r ∈ rows ++ new, r.length = sz) (hol : olds.length = rows.length * sz)
    (h1 : ∀ i row j pv, rows[i]? = some row → row[j]? = some pv → ∃ u, olds[i * sz + j]? = some u ∧ flat u = true ∧ R pv u)
    (h2 : ∀ i row j pv, new[i]? = some row → row[j]? = some pv → ∃ u, news[i * sz + j]? = some u ∧ flat u = true ∧ R pv u) :
    ∀ i row j pv, (rows ++ new)[i]? = some row → row[j]? = some pv → ∃ u, (olds ++ news)[i * sz + j]? = some u ∧ flat u = true ∧ R pv u := by
  intro i row j pv hi hj
  have hjl := (List.getElem?_eq_some_iff.1 hj).1
  rw [hrl row (List.mem_of_getElem? hi)] at hjl
  by_cases hil : i < rows.length
  · rw [List.getElem?_append_left hil] at hi
    have : (i + 1) * sz ≤ rows.length * sz := Nat.mul_le_mul_right _ hil
    rw [Nat.add_mul] at this
    rw [List.getElem?_append_left (by omega)]
    exact h1 i row j pv hi hj
  · rw [List.getElem?_append_right (by omega)] at hi
    have : rows.length * sz ≤ i * sz := Nat.mul_le_mul_right _ (by omega)
    rw [List.getElem?_append_right (by omega), hol, show i * sz + j - rows.length * sz = (i - rows.length) * sz + j by rw [Nat.sub_mul]; omega]
    exact h2 _ row j pv hi hj
theorem exact_slice {x : PV} {u : Value} (hx : VR w (Av X A μ) μ x u) (he : exact x = true) {S : Store} {rows : List (List PV)} (hr : rowsIn S x = some rows) : ∃ a, u = .slice a rows.length rows.length := by
  cases x <;> simp only [exact, Bool.false_eq_true] at he
  case sl r ex =>
    subst he
    simp only [rowsIn, Option.some.injEq] at hr
    subst hr
    cases hx with | fr hx =>
    cases hx with | sl _ _ a cap ad sz c hcap hex =>
    rw [hex rfl]
    exact ⟨a, rfl⟩
  case msl id off len ex =>
    subst he
    have hl : rows.length = len := by
      simp only [rowsIn] at hr
      cases hq : rowsAt S id with
      | none => rw [hq] at hr; cases hr
      | some q =>
        rw [hq] at hr
        simp only [Option.bind_some] at hr
        split at hr
        · simp at hr; rw [← hr]; simp; omega
        · cases hr
    cases hx with
    | fr hx => cases hx
    | mslNil _ _ a => rw [hl]; exact ⟨a, rfl⟩
    | msl _ _ _ _ ad cap b hb hlen htot hex had => rw [hl, hex rfl]; exact ⟨some ad, rfl⟩
theorem appendNew_sound (hS : SR w X A n μ) (hSA : Sees S A μ) {nid n' : Nat} (hA : A nid = none) (hμ : μ nid = none) (hn : nid < n') (hnn : n ≤ n') {base : Nat} (hb : base ≤ nid) {t tx el : TypeId} (ty : TypeId) (hd : (tyi P t).d = .slice el) (hdx : srcT (tyi P tx).d = true)
    (hz : zeroOK (tyi P el) = true) {x y : PV} {u v : Value} (hx : VR w (Av X A μ) μ x u) (hy : VR w (Av X A μ) μ y v) {out : Out} (h : evAppendNew (tyi P el).bytes (tyi P el).size S nid x y = some out) :
    (out = { v := x } ∧ (Builtin.append_ #[t, tx] ty #[u, v]).run P w = .ok u w) ∨ ∃ rows g, out.new = some (rows, g) ∧ out.fz = [] ∧ ∃ r w' μ', (Builtin.append_ #[t, tx] ty #[u, v]).run P w = .ok r w' ∧
      SR w' X (upd A nid ⟨rows, g, false⟩) n' μ' ∧ Tr base w A μ w' (upd A nid ⟨rows, g, false⟩) μ' ∧ (∀ i, i ≠ nid → μ' i = μ i) ∧
      VR w' (Av X (upd A nid ⟨rows, g, false⟩) μ') μ' out.v r := by
  obtain ⟨i0, z, hi0, hz0, hzs, s1, s2⟩ := zeroOK_spec hz
  have ht := tyi_slice hd
  unfold evAppendNew at h
  split at h
  case isFalse => cases h
  rename_i hex
  cases hrx : rowsIn S x with
  | none => rw [hrx] at h; cases h
  | some rows =>
  rw [hrx] at h
  simp only [Option.bind_some] at h
  cases hnew : rowsS S y with
  | none => rw [hnew] at h; cases h
  | some new =>
  rw [hnew] at h
  simp only [Option.bind_some] at h
  split at h
  case isFalse => cases h
  rename_i hc
  obtain ⟨c1, c2, c3, c4⟩ := hc
  obtain ⟨olds, so, ho⟩ := src_sound (P := P) hS hSA ht hx hrx c1
  obtain ⟨news, sn, hnw⟩ := srcS_sound (P := P) hS hSA hdx hy hnew c2
  rw [← s1] at so sn ho hnw
  obtain ⟨a, rfl⟩ := exact_slice hx hex hrx
  have nothing : new.length = 0 → (Builtin.append_ #[t, tx] ty #[.slice a rows.length rows.length, v]).run P w = .ok (.slice a rows.length rows.length) w := fun h0 => by
    have hnews : news = [] := List.eq_nil_of_length_eq_zero (by rw [sn.newsLen, h0]; simp)
    rw [h0, hnews] at sn
    exact run_append_nothing w t tx ty el i0 ht hi0 a rows.length rows.length (Nat.le_refl _) v sn
  split at h
  · rename_i h0
    split at h
    · rename_i hr0
      cases h
      refine .inr ⟨[], some (some (tyi P el).size), rfl, rfl, ?_⟩
      obtain ⟨k1, k2⟩ := hS.newNil hA hμ hn hnn (some (some (tyi P el).size)) base
      refine ⟨_, _, μ, nothing h0, k1, k2, fun _ _ => rfl, ?_⟩
      rw [hr0]
      exact .mslNil _ _ _
    · cases h
      exact .inl ⟨rfl, nothing h0⟩
  · rename_i h0
    cases h
    refine .inr ⟨rows ++ new, some (some (tyi P el).size), rfl, rfl, ?_⟩
    have hrun := run_append_grow_src (P := P) w t tx ty el i0 z ht hi0 hz0 a rows.length rows.length olds so.cellsD v new.length news sn (by omega) (by omega) (growslice_fits (by omega) (by rw [s2]; exact c3))
    obtain ⟨hS1, tr1⟩ := hS.same (w' := w.drew) rfl rfl rfl rfl base
    have hcap := grownCap_ge w (rows.length + new.length) rows.length el
    have hcs : ((olds ++ news).toArray ++ Builtin.zeroCells z.cells (grownCap w (rows.length + new.length) rows.length el - (rows.length + new.length))).size = grownCap w (rows.length + new.length) rows.length el * i0.size := by
      rw [Array.size_append, List.size_toArray, List.length_append, so.newsLen, sn.newsLen, size_zeroCells, hzs, ← Nat.add_mul, ← Nat.add_mul]; congr 1; omega
    have hrl : ∀ r ∈ rows ++ new, r.length = i0.size := fun r hr => by
      rw [s1]
      rcases List.mem_append.1 hr with hr | hr
      · exact rowsOK_spec c1 r hr
      · exact rowsOK_spec c2 r hr
    have hcomb := comb_get hrl so.newsLen ho hnw
    obtain ⟨k1, k2, k3⟩ := hS1.new hA hμ hn hnn (rows := rows ++ new) (g := some (some (tyi P el).size)) (cells := (olds ++ news).toArray ++ Builtin.zeroCells z.cells (grownCap w (rows.length + new.length) rows.length el - (rows.length + new.length))) (el := el) (sz := i0.size) (by simp [s1])
      hrl (by rw [hcs, List.length_append]; exact Nat.mul_le_mul_right _ hcap)
      (fun i row j pv hi hj => by
        obtain ⟨q, q1, q2, q3⟩ := hcomb i row j pv hi hj
        refine ⟨q, ?_, q2, q3.mono tr1.keeps fun _ _ _ h => h⟩
        have hql := (List.getElem?_eq_some_iff.1 q1).1
        rw [Array.getElem?_append_left (by simpa using hql), List.getElem?_toArray]; exact q1) hb
    refine ⟨_, _, _, hrun, k1, tr1.trans k2, k3, ?_⟩
    exact .msl nid 0 (rows.length + new.length) false _ _ _ (upd_same μ nid _) hcap (by simp only [Nat.zero_add, hcs]; exact Nat.le_refl _) (by simp) (fun _ => by simp)
theorem kill1_spec (ids : List Nat) (pv : PV) : kill1 ids pv = .undef ∨ (kill1 ids pv = pv ∧ ∀ i ∈ ids, i ∉ pv.refs) := by
  unfold kill1
  by_cases h : (pv.refs.any fun i => ids.contains i) = true
  · rw [if_pos h]; exact .inl rfl
  · rw [if_neg h]
    refine .inr ⟨rfl, fun i hi hm => h ?_⟩
    rw [List.any_eq_true]
    exact ⟨i, hm, by simpa using hi⟩
theorem refs_in_rows {rows : List (List PV)} {i j : Nat} {row : List PV} {pv : PV} (hi : rows[i]? = some row) (hj : row[j]? = some pv) {k : Nat} (hk : k ∈ pv.refs) : k ∈ rowsRefs rows := by
  simp only [rowsRefs, List.mem_flatMap]
  exact ⟨row, List.mem_of_getElem? hi, mem_refsL hj hk⟩
theorem killRows_spec (ids : List Nat) (rows : List (List PV)) : (killRows ids rows).length = rows.length ∧ ∀ (i : Nat) (row' : List PV), (killRows ids rows)[i]? = some row' → ∃ row : List PV, rows[i]? = some row ∧ row'.length = row.length ∧
    ∀ (k : Nat) (pv' : PV), row'[k]? = some pv' → ∃ pv, row[k]? = some pv ∧ (pv' = .undef ∨ (pv' = pv ∧ ∀ j ∈ ids, j ∉ pv.refs)) := by
  unfold killRows
  by_cases h : ((rowsRefs rows).any fun i => ids.contains i) = true
  · rw [if_pos h]
    refine ⟨by simp, fun i row' hi => ?_⟩
    rw [List.getElem?_map] at hi
    cases hr : rows[i]? with
    | none => rw [hr] at hi; cases hi
    | some row =>
      rw [hr] at hi; simp at hi; subst hi
      refine ⟨row, rfl, by simp, fun k pv' hk => ?_⟩
      rw [List.getElem?_map] at hk
      cases hp : row[k]? with
      | none => rw [hp] at hk; cases hk
      | some pv => rw [hp] at hk; simp at hk; subst hk; exact ⟨pv, rfl, kill1_spec ids pv⟩
  · rw [if_neg h]
    refine ⟨rfl, fun i row hi => ⟨row, hi, rfl, fun k pv hk => ⟨pv, hk, .inr ⟨rfl, fun j hj hm => h ?_⟩⟩⟩⟩
    rw [List.any_eq_true]
    exact ⟨j, refs_in_rows hi hk hm, by simpa using hj⟩
theorem arrs_kill (S : Store) (ids : List Nat) (j : Nat) : arrs (S.map (killObj ids)) j = (arrs S j).map fun a => { a with rows := killRows ids a.rows } := by
  unfold arrs
  rw [List.getElem?_map]
  cases S[j]? with
  | none => rfl
  | some o => cases o <;> rfl
theorem SR.weaken (hS : SR w X A n μ) {A' : Arrs} (h : ∀ j b', A' j = some b' → ∃ b0, A j = some b0 ∧ (b'.f = b0.f ∧ (b'.g = b0.g ∨ (∀ k, b'.g = some k → k ≠ none ∧ ∀ b, μ j = some b → k = some b.sz))) ∧ b'.rows.length = b0.rows.length ∧ ∀ (i : Nat) (row' : List PV), b'.rows[i]? = some row' → ∃ row : List PV, b0.rows[i]? = some row ∧ row'.length = row.length ∧
      ∀ (k : Nat) (pv' : PV), row'[k]? = some pv' → ∃ pv, row[k]? = some pv ∧ (pv' = .undef ∨ pv' = pv)) (base : Nat) : SR w X A' n μ ∧ Tr base w A μ w A' μ := by
  have hm : ∀ b, Mut A' μ b → Mut A μ b := by
    rintro b ⟨id, rows, g, k, h1, h2, h3⟩
    obtain ⟨b0, e1, ⟨e2, _⟩, _⟩ := h id _ h1
    exact ⟨id, b0.rows, b0.g, k, by rw [e1]; simp at e2; cases b0; simp_all, h2, h3⟩
  have htr : Tr base w A μ w A' μ := ⟨rfl, rfl, rfl, Nat.le_refl _, fun _ _ _ => rfl, fun b _ h => hm b h, fun _ _ => rfl⟩
  refine ⟨⟨fun id hid => ⟨(hS.lt id hid).1, ?_⟩, fun id a ha b hb => ?_, fun id a ha hb => ?_, fun id a ha => ?_, fun id id' a a' b b' h1 h2 h3 h4 h5 => ?_, fun id a b h1 h2 => ?_, hS.xlt⟩, htr⟩
  · cases hq : A' id with
    | none => rfl
    | some b' => obtain ⟨b0, e1, _⟩ := h id b' hq; rw [(hS.lt id hid).2] at e1; cases e1
  · obtain ⟨b0, e1, e2, e3, e4⟩ := h id a ha
    obtain ⟨c, el, k0, k1, k2, k3, k4⟩ := hS.blk id b0 e1 b hb
    refine ⟨c, el, k0, k1, by rw [e3]; exact k2, fun r hr => ?_, fun i row' x pv' hi hx => ?_⟩
    · obtain ⟨i, hi⟩ := List.getElem?_of_mem hr
      obtain ⟨row, r1, r2, _⟩ := e4 i r hi
      rw [r2]; exact k3 row (List.mem_of_getElem? r1)
    · obtain ⟨row, r1, r2, r3⟩ := e4 i row' hi
      obtain ⟨pv, p1, p2⟩ := r3 x pv' hx
      obtain ⟨v, v1, v2, v3⟩ := k4 i row x pv r1 p1
      refine ⟨v, v1, v2, ?_⟩
      rcases p2 with rfl | rfl
      · exact .undef v
      · exact v3.mono htr.keeps fun _ _ _ h => h
  · obtain ⟨b0, e1, e2, e3, _⟩ := h id a ha
    have := hS.nob id b0 e1 hb
    rw [this] at e3
    exact List.eq_nil_of_length_eq_zero (by simpa using e3)
  · obtain ⟨b0, e1, ⟨_, e2⟩, _⟩ := h id a ha
    rcases e2 with e2 | e2
    · rw [e2]; exact hS.gsz id b0 e1
    · exact ⟨fun hn => absurd rfl (e2 _ hn).1, fun k hk b hb => by have := (e2 _ hk).2 b hb; simpa using this.symm⟩
  · obtain ⟨b0, e1, _⟩ := h id a h1
    obtain ⟨b1, e1', _⟩ := h id' a' h2
    exact hS.inj id id' b0 b1 b b' e1 e1' h3 h4 h5
  · obtain ⟨b0, e1, _⟩ := h id a h1
    exact hS.out id b0 b e1 h2
theorem append1_sound (hS : SR w X (arrs S) n μ) {base : Nat} {t tx el : TypeId} (ty : TypeId) (hd : (tyi P t).d = .slice el) (hdx : srcT (tyi P tx).d = true)
    (hz : zeroOK (tyi P el) = true) {x y : PV} {u v : Value} (hx : VR w (Av X (arrs S) μ) μ x u) (hy : VR w (Av X (arrs S) μ) μ y v) {out : Eff} (h : evAppend1 base (tyi P el).bytes (tyi P el).size S x y = some out) :
    ∃ r w' μ', (Builtin.append_ #[t, tx] ty #[u, v]).run P w = .ok r w' ∧ SR w' X (arrs out.S) n μ' ∧ Tr base w (arrs S) μ w' (arrs out.S) μ' ∧
      (∀ pv v, VR w (Av X (arrs S) μ) μ pv v → VR w' (Av X (arrs out.S) μ') μ' (kill1 out.kill pv) v) ∧ VR w' (Av X (arrs out.S) μ') μ' out.v r ∧ out.S.length = S.length ∧ (∀ j, j ∉ out.kill → μ' j = μ j) := by
  obtain ⟨i0, z, hi0, hz0, hzs, s1, s2⟩ := zeroOK_spec hz
  have ht := tyi_slice hd
  unfold evAppend1 at h
  split at h
  · rename_i id len ex
    cases hid : S[id]? with
    | none => rw [hid] at h; cases h
    | some o =>
    rw [hid] at h
    split at h
    · rename_i rows g0 heq
      simp only [Option.some.injEq] at heq
      subst heq
      cases hnew : rowsS S y with
      | none => rw [hnew] at h; cases h
      | some new =>
      rw [hnew] at h
      simp only [Option.bind_some] at h
      split at h
      · rename_i hc
        obtain ⟨c1, rfl, c2, c3, c4, c5, c6, c7⟩ := hc
        cases h
        have hA := arrs_get hid
        have hrows : rowsIn S (.msl id 0 rows.length ex) = some rows := by simp [rowsIn, rowsAt, hid]
        obtain ⟨olds, so, ho⟩ := src_sound (P := P) hS (Sees.refl S μ) ht hx hrows c3
        obtain ⟨news, sn, hnw⟩ := srcS_sound (P := P) hS (Sees.refl S μ) hdx hy hnew c4
        rw [← s1] at so sn ho hnw
        have hrl : ∀ r ∈ rows ++ new, r.length = i0.size := fun r hr => by
          rw [s1]
          rcases List.mem_append.1 hr with hr | hr
          · exact rowsOK_spec c3 r hr
          · exact rowsOK_spec c4 r hr
        have hnoref : ∀ (i : Nat) (row : List PV) (j : Nat) (pv : PV), (rows ++ new)[i]? = some row → row[j]? = some pv → id ∉ pv.refs := by
          intro i row j pv hi hj hm
          have : id ∈ rowsRefs (rows ++ new) := refs_in_rows hi hj hm
          simp only [rowsRefs, List.flatMap_append] at this
          rw [List.contains_eq_mem] at c7
          exact (of_decide_eq_false c7) (by simpa [rowsRefs] using this)
        have hl := (List.getElem?_eq_some_iff.1 hid).1
        have hA' := arrs_set (S := S.map (killObj [id])) (id := id) (by simpa using hl) (o := Obj.arr (rows ++ new) (some (some (tyi P el).size)) false) rfl
        have hoth : ∀ j, j ≠ id → ∀ b', arrs ((S.map (killObj [id])).set id (.arr (rows ++ new) (some (some (tyi P el).size)) false)) j = some b' → ∃ b0, arrs S j = some b0 ∧ (b'.f = b0.f ∧ b'.g = b0.g) ∧ b'.rows.length = b0.rows.length ∧ ∀ (i : Nat) (row' : List PV), b'.rows[i]? = some row' → ∃ row : List PV, b0.rows[i]? = some row ∧ row'.length = row.length ∧
            ∀ (k : Nat) (pv' : PV), row'[k]? = some pv' → ∃ pv, row[k]? = some pv ∧ (pv' = .undef ∨ (pv' = pv ∧ ∀ j ∈ [id], j ∉ pv.refs)) := by
          intro j hj b' hb'
          rw [hA', upd_ne _ _ _ hj, arrs_kill] at hb'
          cases hq : arrs S j with
          | none => rw [hq] at hb'; cases hb'
          | some b0 =>
            rw [hq] at hb'; simp at hb'; subst hb'
            obtain ⟨k1, k2⟩ := killRows_spec [id] b0.rows
            exact ⟨b0, rfl, ⟨rfl, rfl⟩, k1, k2⟩
        have lk : ∀ {w' : World} {μ' : Mu}, (∀ (pv : PV) (v : Value), VR w (Av X (arrs S) μ) μ pv v → id ∉ pv.refs → VR w' (Av X (arrs ((S.map (killObj [id])).set id (.arr (rows ++ new) (some (some (tyi P el).size)) false))) μ') μ' pv v) →
            ∀ pv v, VR w (Av X (arrs S) μ) μ pv v → VR w' (Av X (arrs ((S.map (killObj [id])).set id (.arr (rows ++ new) (some (some (tyi P el).size)) false))) μ') μ' (kill1 [id] pv) v := by
          intro w' μ' hlift pv v hv
          rcases kill1_spec [id] pv with hk | ⟨hk, hn⟩
          · rw [hk]; exact .undef v
          · rw [hk]; exact hlift pv v hv (hn id (by simp))
        have none' : new.length = 0 → ∀ a cap, rows.length ≤ cap → VR w (Av X (arrs S) μ) μ (.msl id 0 rows.length false) (.slice a rows.length cap) → u = .slice a rows.length cap → ∃ r w' μ', (Builtin.append_ #[t, tx] ty #[u, v]).run P w = .ok r w' ∧ SR w' X (arrs ((S.map (killObj [id])).set id (.arr (rows ++ new) (some (some (tyi P el).size)) false))) n μ' ∧ Tr base w (arrs S) μ w' (arrs ((S.map (killObj [id])).set id (.arr (rows ++ new) (some (some (tyi P el).size)) false))) μ' ∧
              (∀ pv v, VR w (Av X (arrs S) μ) μ pv v → VR w' (Av X (arrs ((S.map (killObj [id])).set id (.arr (rows ++ new) (some (some (tyi P el).size)) false))) μ') μ' (kill1 [id] pv) v) ∧ VR w' (Av X (arrs ((S.map (killObj [id])).set id (.arr (rows ++ new) (some (some (tyi P el).size)) false))) μ') μ' (.msl id 0 (rows.length + new.length) false) r ∧ ((S.map (killObj [id])).set id (.arr (rows ++ new) (some (some (tyi P el).size)) false)).length = S.length ∧ (∀ j, j ∉ [id] → μ' j = μ j) := fun h0 a cap hle hvr hu => by
          have hnil : new = [] := List.eq_nil_of_length_eq_zero h0
          have hnews : news = [] := List.eq_nil_of_length_eq_zero (by rw [sn.newsLen, h0]; simp)
          rw [h0, hnews] at sn
          obtain ⟨k1, k2⟩ := hS.weaken (A' := arrs ((S.map (killObj [id])).set id (.arr (rows ++ new) (some (some (tyi P el).size)) false))) (fun j b' hb' => by
            by_cases hj : j = id
            · subst hj
              rw [hA', upd_same] at hb'
              simp at hb'; subst hb'
              refine ⟨_, hA, ⟨rfl, .inr fun k hk => ?_⟩, by simp [hnil], fun i row' hi => ⟨row', by simpa [hnil] using hi, rfl, fun k pv' hk => ⟨pv', hk, .inr rfl⟩⟩⟩
              simp at hk; subst hk
              refine ⟨by simp, fun b hb => ?_⟩
              obtain ⟨q1, q2⟩ := hS.gsz j _ hA
              rcases c2 with rfl | rfl
              · rw [q1 rfl] at hb; cases hb
              · rw [q2 _ rfl b hb]
            · obtain ⟨b0, e1, e2, e3, e4⟩ := hoth j hj b' hb'
              exact ⟨b0, e1, ⟨e2.1, .inl e2.2⟩, e3, fun i row' hi => let ⟨row, r1, r2, r3⟩ := e4 i row' hi; ⟨row, r1, r2, fun k pv' hk => let ⟨pv, p1, p2⟩ := r3 k pv' hk; ⟨pv, p1, p2.imp _root_.id And.left⟩⟩⟩) base
          subst hu
          have lift : ∀ pv v, VR w (Av X (arrs S) μ) μ pv v → VR w (Av X (arrs ((S.map (killObj [id])).set id (.arr (rows ++ new) (some (some (tyi P el).size)) false))) μ) μ pv v := fun pv v hv => hv.mono k2.keeps fun _ _ _ h => h
          exact ⟨_, _, μ, run_append_nothing w t tx ty el i0 ht hi0 a rows.length cap hle v sn, k1, k2, lk fun pv v hv _ => lift pv v hv, by rw [h0]; exact lift _ _ hvr, by simp, fun _ _ => rfl⟩
        have grow : ∀ a cap, cap < rows.length + new.length → u = .slice a rows.length cap → ∃ r w' μ', (Builtin.append_ #[t, tx] ty #[u, v]).run P w = .ok r w' ∧ SR w' X (arrs ((S.map (killObj [id])).set id (.arr (rows ++ new) (some (some (tyi P el).size)) false))) n μ' ∧ Tr base w (arrs S) μ w' (arrs ((S.map (killObj [id])).set id (.arr (rows ++ new) (some (some (tyi P el).size)) false))) μ' ∧
              (∀ pv v, VR w (Av X (arrs S) μ) μ pv v → VR w' (Av X (arrs ((S.map (killObj [id])).set id (.arr (rows ++ new) (some (some (tyi P el).size)) false))) μ') μ' (kill1 [id] pv) v) ∧ VR w' (Av X (arrs ((S.map (killObj [id])).set id (.arr (rows ++ new) (some (some (tyi P el).size)) false))) μ') μ' (.msl id 0 (rows.length + new.length) false) r ∧ ((S.map (killObj [id])).set id (.arr (rows ++ new) (some (some (tyi P el).size)) false)).length = S.length ∧ (∀ j, j ∉ [id] → μ' j = μ j) := by
          intro a cap hlt hu
          subst hu
          have hrun := run_append_grow_src (P := P) w t tx ty el i0 z ht hi0 hz0 a rows.length cap olds so.cellsD v new.length news sn hlt (by omega) (growslice_fits hlt (by rw [s2]; exact c5))
          have hcap := grownCap_ge w (rows.length + new.length) cap el
          have hcs : ((olds ++ news).toArray ++ Builtin.zeroCells z.cells (grownCap w (rows.length + new.length) cap el - (rows.length + new.length))).size = grownCap w (rows.length + new.length) cap el * i0.size := by
            rw [Array.size_append, List.size_toArray, List.length_append, so.newsLen, sn.newsLen, size_zeroCells, hzs, ← Nat.add_mul, ← Nat.add_mul]; congr 1; omega
          have hcomb := comb_get hrl so.newsLen ho hnw
          obtain ⟨k1, k2, k3⟩ := hS.rewrite hA rfl (bk := ⟨w.heap.size, i0.size, grownCap w (rows.length + new.length) cap el * i0.size⟩) (.inr (Nat.le_refl _)) (base := base) (.inr c1)
            (w' := w.drew.alloc (.cells ((olds ++ news).toArray ++ Builtin.zeroCells z.cells (grownCap w (rows.length + new.length) cap el - (rows.length + new.length))) el))
            rfl rfl rfl (by rw [size_alloc]; exact Nat.le_succ _) (fun b hb _ => heap_alloc_lt (w := w.drew) hb)
            (A' := arrs ((S.map (killObj [id])).set id (.arr (rows ++ new) (some (some (tyi P el).size)) false))) (a' := ⟨rows ++ new, some (some (tyi P el).size), false⟩) (by rw [hA', upd_same]) rfl (by simp [s1])
            (fun j hj b' hb' => by
              obtain ⟨b0, e1, e2, e3, e4⟩ := hoth j hj b' hb'
              exact ⟨b0, e1, e2, e3, fun i row' hi => let ⟨row, r1, r2, r3⟩ := e4 i row' hi; ⟨row, r1, r2, fun k pv' hk => let ⟨pv, p1, p2⟩ := r3 k pv' hk; ⟨pv, p1, p2.imp _root_.id fun q => ⟨q.1, .inr (q.2 id (by simp))⟩⟩⟩⟩)
            (heap_alloc_new (w := w.drew)) hcs (by simp only [List.length_append]; exact Nat.mul_le_mul_right _ hcap) hrl
            (fun i row j pv hi hj => by
              obtain ⟨q, q1, q2, q3⟩ := hcomb i row j pv hi hj
              refine ⟨q, ?_, q2, q3, .inr (hnoref i row j pv hi hj)⟩
              have hql := (List.getElem?_eq_some_iff.1 q1).1
              rw [Array.getElem?_append_left (by simpa using hql), List.getElem?_toArray]; exact q1)
          refine ⟨_, _, _, hrun, k1, k2, lk fun pv v hv hn => k3 pv v hv (.inr hn), ?_, by simp, fun j hj => upd_ne _ _ _ (by simpa using hj)⟩
          exact .msl id 0 (rows.length + new.length) false _ _ _ (upd_same μ id _) hcap (by simp only [Nat.zero_add]; exact Nat.le_refl _) (by simp) (fun _ => by simp)
        obtain ⟨L, hL⟩ : ∃ L, L = rows.length := ⟨_, rfl⟩
        rw [← hL] at hx
        cases hx with
        | fr hx => cases hx
        | mslNil _ _ a =>
          by_cases h0 : new.length = 0
          · exact none' h0 a 0 (by omega) (by rw [← hL]; exact .mslNil _ _ _) (by rw [← hL])
          · exact grow a 0 (by omega) (by rw [← hL])
        | msl _ _ _ _ ad cap b hb hlen htot hex had =>
          subst hL
          by_cases h0 : new.length = 0
          · exact none' h0 (some ad) cap hlen (.msl id 0 rows.length false ad cap b hb hlen htot (by simp) had) rfl
          · by_cases hroom : rows.length + new.length ≤ cap
            ·
              have had' := had (by omega)
              simp only [Nat.zero_mul] at had'
              subst had'
              obtain ⟨c, el0, hh, htt, hrt, hsz, hcell⟩ := hS.blk id _ hA b hb
              replace hrt : rows.length * b.sz ≤ b.tot := hrt
              replace hsz : ∀ r ∈ rows, r.length = b.sz := hsz
              have hbsz : b.sz = i0.size := by
                obtain ⟨q1, q2⟩ := hS.gsz id _ hA
                rcases c2 with rfl | rfl
                · rw [q1 rfl] at hb; cases hb
                · rw [q2 _ rfl b hb, s1]
              have hnl : news.length = new.length * b.sz := by rw [hbsz]; exact sn.newsLen
              have hfit : rows.length * b.sz + news.length ≤ c.toList.length := by
                rw [hnl, ← Nat.add_mul, show c.toList.length = c.size from Array.length_toList, htt]
                refine Nat.le_trans (Nat.mul_le_mul_right _ hroom) ?_
                simpa using htot
              have hst := run_storeCells_at P b.b (rows.length * b.sz) el0 news 0 c w hh (by rw [Nat.add_zero]; simpa using hfit) sn.one
              simp only [Nat.add_zero] at hst
              have hrun : (Builtin.append_ #[t, tx] ty #[.slice (some ⟨b.b, 0, none⟩) rows.length cap, v]).run P w = .ok (.slice (some ⟨b.b, 0, none⟩) (rows.length + new.length) cap) (w.setRow b.b (c.toList.take (rows.length * b.sz) ++ news ++ c.toList.drop (rows.length * b.sz + news.length)).toArray) := by
                have hcl : (Builtin.firstCells b.sz new.length v).run P w = .ok news.toArray w := by rw [hbsz]; exact sn.cells
                generalize (c.toList.take (rows.length * b.sz) ++ news ++ c.toList.drop (rows.length * b.sz + news.length)).toArray = cc at hst ⊢
                rcases sn.kind with ⟨e'', hk⟩ | hk <;> simp [Builtin.append_, run_underlying ht, run_underlying hk, sizeOf, typeInfo, hi0, sn.len, hroom, add_plain, ← hbsz, hcl, hst]
              obtain ⟨k1, k2, k3⟩ := hS.rewrite hA rfl (bk := b) (.inl hb) (base := base) (.inl hb) (w' := w.setRow b.b (c.toList.take (rows.length * b.sz) ++ news ++ c.toList.drop (rows.length * b.sz + news.length)).toArray)
                rfl rfl rfl (by rw [size_setRow]; exact Nat.le_refl _) (fun k _ hk => heap_setRow hk)
                (A' := arrs ((S.map (killObj [id])).set id (.arr (rows ++ new) (some (some (tyi P el).size)) false))) (a' := ⟨rows ++ new, some (some (tyi P el).size), false⟩) (by rw [hA', upd_same]) rfl (by simp [hbsz, s1])
                (fun j hj b' hb' => by
                  obtain ⟨b0, e1, e2, e3, e4⟩ := hoth j hj b' hb'
                  exact ⟨b0, e1, e2, e3, fun i row' hi => let ⟨row, r1, r2, r3⟩ := e4 i row' hi; ⟨row, r1, r2, fun k pv' hk => let ⟨pv, p1, p2⟩ := r3 k pv' hk; ⟨pv, p1, p2.imp _root_.id fun q => ⟨q.1, .inl hb⟩⟩⟩⟩)
                (setRow_heap w b.b c _ el0 (0, 0) hh) (by rw [List.size_toArray, takedrop_len _ _ _ hfit, Array.length_toList]; exact htt)
                (by
                  simp only [List.length_append]
                  refine Nat.le_trans (Nat.mul_le_mul_right _ hroom) ?_
                  simpa using htot) (by rw [hbsz]; exact hrl)
                (fun i row j pv hi hj => by
                  have hjl := (List.getElem?_eq_some_iff.1 hj).1
                  rw [hrl row (List.mem_of_getElem? hi), ← hbsz] at hjl
                  rw [List.getElem?_toArray, takedrop_get _ _ _ hfit]
                  by_cases hil : i < rows.length
                  · rw [List.getElem?_append_left hil] at hi
                    have : (i + 1) * b.sz ≤ rows.length * b.sz := Nat.mul_le_mul_right _ hil
                    rw [Nat.add_mul] at this
                    rw [if_neg (by omega), Array.getElem?_toList]
                    obtain ⟨q, q1, q2, q3⟩ := hcell i row j pv hi hj
                    exact ⟨q, q1, q2, q3, .inl hb⟩
                  · rw [List.getElem?_append_right (by omega)] at hi
                    have h1 : rows.length * b.sz ≤ i * b.sz := Nat.mul_le_mul_right _ (by omega)
                    have hin := (List.getElem?_eq_some_iff.1 hi).1
                    have h2 : (i - rows.length + 1) * b.sz ≤ new.length * b.sz := Nat.mul_le_mul_right _ hin
                    rw [Nat.add_mul, Nat.sub_mul] at h2
                    rw [if_pos (by rw [hnl]; omega), show i * b.sz + j - rows.length * b.sz = (i - rows.length) * b.sz + j by rw [Nat.sub_mul]; omega, hbsz]
                    obtain ⟨q, q1, q2, q3⟩ := hnw _ row j pv hi hj
                    exact ⟨q, q1, q2, q3, .inl hb⟩)
              have hup : upd μ id b = μ := by
                funext j
                by_cases hj : j = id
                · subst hj; rw [upd_same, hb]
                · exact upd_ne _ _ _ hj
              rw [hup] at k1 k2 k3
              refine ⟨_, _, μ, hrun, k1, k2, lk fun pv v hv hn => k3 pv v hv (.inl hb), ?_, by simp, fun _ _ => rfl⟩
              exact .msl id 0 (rows.length + new.length) false _ cap b hb hroom htot (by simp) (fun _ => by simp)
            · exact grow (some ad) cap (by omega) rfl
      · cases h
    · cases h
  · cases h
theorem append1_facts {b bytes esz id off len : Nat} {ex : Bool} {y : PV} {out : Eff} (h : evAppend1 b bytes esz S (.msl id off len ex) y = some out) :
    ∃ rows g, out.S[id]? = some (.arr rows g false) ∧ out.v = .msl id 0 rows.length false ∧ out.kill = [id] ∧ out.S.length = S.length ∧ (∀ j a, arrs out.S j = some a → id ∉ rowsRefs a.rows) := by
  unfold evAppend1 at h
  split at h
  case h_2 => cases h
  rename_i id0 len0 ex0 heq
  cases heq
  split at h
  case h_2 => cases h
  rename_i rows g hid
  obtain ⟨new, _, h⟩ := bind_some' h
  split at h
  case isFalse => cases h
  rename_i hc
  obtain ⟨c1, c2, c3, c4, c5, c6, c7, c8⟩ := hc
  cases h
  have hl := (List.getElem?_eq_some_iff.1 hid).1
  have hA' := arrs_set (S := S.map (killObj [id])) (id := id) (by simpa using hl) (o := Obj.arr (rows ++ new) (some (some esz)) false) rfl
  refine ⟨rows ++ new, some (some esz), by rw [List.getElem?_set_self (by simpa using hl)], by simp, rfl, by simp, fun j a ha hm => ?_⟩
  rw [hA'] at ha
  by_cases hj : j = id
  · subst hj
    rw [upd_same] at ha
    cases ha
    rw [List.contains_eq_mem] at c8
    exact (of_decide_eq_false c8) (by simpa [rowsRefs] using hm)
  · rw [upd_ne _ _ _ hj, arrs_kill] at ha
    cases hq : arrs S j with
    | none => rw [hq] at ha; cases ha
    | some b0 =>
      rw [hq] at ha
      simp at ha
      subst ha
      simp only [rowsRefs, List.mem_flatMap] at hm
      obtain ⟨row, h1, h2⟩ := hm
      obtain ⟨i, hi⟩ := List.getElem?_of_mem h1
      obtain ⟨_, k2⟩ := killRows_spec [id] b0.rows
      obtain ⟨row0, r1, r2, r3⟩ := k2 i row hi
      have : ∀ (l : List PV), (∀ (k : Nat) (pv' : PV), l[k]? = some pv' → id ∉ pv'.refs) → id ∉ refsL l := by
        intro l
        induction l with
        | nil => intro _ h; simp [refsL] at h
        | cons a l ih =>
          intro h hm
          simp only [refsL, List.mem_append] at hm
          rcases hm with hm | hm
          · exact h 0 a rfl hm
          · exact ih (fun k pv' hk => h (k + 1) pv' (by simpa using hk)) hm
      refine this row (fun k pv' hk hmem => ?_) h2
      obtain ⟨pv, p1, p2⟩ := r3 k pv' hk
      rcases p2 with rfl | ⟨rfl, p2⟩
      · cases hmem
      · exact p2 id (by simp) hmem
theorem append_sound (hS : SR w X (arrs S) S.length μ) {base : Nat} (hbase : base ≤ S.length) {t tx el : TypeId} (ty : TypeId) (hd : (tyi P t).d = .slice el) (hdx : srcT (tyi P tx).d = true)
    (hz : zeroOK (tyi P el) = true) {x y : PV} {u v : Value} (hx : VR w (Av X (arrs S) μ) μ x u) (hy : VR w (Av X (arrs S) μ) μ y v) {out : Eff} (h : evAppend base (tyi P el).bytes (tyi P el).size S x y = some out) :
    ∃ r w' μ', (Builtin.append_ #[t, tx] ty #[u, v]).run P w = .ok r w' ∧ SR w' X (arrs out.S) out.S.length μ' ∧ Tr base w (arrs S) μ w' (arrs out.S) μ' ∧
      (∀ pv v, VR w (Av X (arrs S) μ) μ pv v → VR w' (Av X (arrs out.S) μ') μ' (kill1 out.kill pv) v) ∧ VR w' (Av X (arrs out.S) μ') μ' out.v r ∧ S.length ≤ out.S.length := by
  unfold evAppend at h
  split at h
  case h_2 => cases h
  rename_i id off len ex
  split at h
  · obtain ⟨r, w', μ', k1, k2, k3, k4, k5, k6, _⟩ := append1_sound (ty := ty) hS hd hdx hz hx hy h
    exact ⟨r, w', μ', k1, by rw [k6]; exact k2, k3, k4, k5, by rw [k6]; exact Nat.le_refl _⟩
  rename_i hlt
  obtain ⟨out1, h1, rfl⟩ := map_some' h
  obtain ⟨r, w', μ', k1, k2, k3, k4, k5, k6, k7⟩ := append1_sound (ty := ty) hS hd hdx hz hx hy h1
  obtain ⟨rows, g, f1, f2, f3, f4, f5⟩ := append1_facts h1
  have hid : id < S.length := by omega
  have hgd : out1.S.getD id .gone = .arr rows g false := by simp [List.getD, f1]
  have hA1 := arrs_get f1
  have hAt : ∀ j, arrs (renewed id S out1).S j = if j = S.length then some ⟨rows, g, false⟩ else if j = id then none else arrs out1.S j := fun j => by
    simp only [renewed, hgd]
    unfold arrs
    by_cases hj : j = S.length
    · subst hj
      rw [List.getElem?_append_right (by simp [f4]), if_pos rfl]
      simp [f4]
    · rw [if_neg hj]
      by_cases hj2 : j < S.length
      · rw [List.getElem?_append_left (by simp [f4]; exact hj2), List.getElem?_set]
        by_cases hj3 : j = id
        · subst hj3; rw [if_pos rfl, if_pos (by rw [f4]; exact hj2), if_pos rfl]
        · rw [if_neg (fun h => hj3 h.symm), if_neg hj3]
      · rw [List.getElem?_append_right (by simp [f4]; omega), if_neg (by omega)]
        have e1 : out1.S[j]? = none := List.getElem?_eq_none (by omega)
        rw [e1, List.getElem?_eq_none (by simp [f4]; omega)]
  obtain ⟨ν, hν⟩ : ∃ ν : Mu, ∀ j, ν j = if j = S.length then μ' id else if j = id then μ id else μ' j := ⟨_, fun _ => rfl⟩
  have back : ∀ j a, arrs (renewed id S out1).S j = some a → ∃ j0, arrs out1.S j0 = some a ∧ ν j = μ' j0 ∧ (j0 = id → j = S.length) ∧ (j0 ≠ id → j = j0) := fun j a ha => by
    rw [hAt] at ha
    rw [hν]
    by_cases hj : j = S.length
    · rw [if_pos hj] at ha
      cases ha
      exact ⟨id, hA1, by rw [if_pos hj], fun _ => hj, fun h => absurd rfl h⟩
    · rw [if_neg hj] at ha
      by_cases hj2 : j = id
      · rw [if_pos hj2] at ha; cases ha
      · rw [if_neg hj2] at ha
        exact ⟨j, ha, by rw [if_neg hj, if_neg hj2], fun h => absurd h hj2, fun _ => rfl⟩
  have hmut : ∀ b, Mut (arrs (renewed id S out1).S) ν b → Mut (arrs out1.S) μ' b := by
    rintro b ⟨j, rw', g', k, m1, m2, m3⟩
    obtain ⟨j0, b1, b2, _⟩ := back j _ m1
    exact ⟨j0, rw', g', k, b1, by rw [← b2]; exact m2, m3⟩
  have hav : ∀ b, Av X (arrs (renewed id S out1).S) ν b → Av X (arrs out1.S) μ' b := fun b hb => hb.imp _root_.id (hmut b)
  have hup : ∀ (pv : PV) (v : Value), VR w' (Av X (arrs out1.S) μ') μ' pv v → id ∉ pv.refs → VR w' (Av X (arrs (renewed id S out1).S) ν) ν pv v := fun pv v hv hn => hv.mono (Keeps.less hav) fun i hi b hb => by
    rw [hν, if_neg, if_neg (fun h => hn (by rw [← h]; exact hi))]
    · exact hb
    · intro h
      rw [h, (k2.lt _ (Nat.le_refl _)).1] at hb
      cases hb
  have hlen : (renewed id S out1).S.length = S.length + 1 := by simp [renewed, f4]
  refine ⟨r, w', ν, k1, ?_, ⟨k3.os, k3.tape, k3.output, k3.size, k3.keep, fun b hb hm => k3.less b hb (hmut b hm), fun j hj => ?_⟩, fun pv v hv => ?_, ?_, by rw [hlen]; exact Nat.le_succ _⟩
  · rw [hlen]
    refine ⟨fun j hj => ?_, fun j a ha b hb => ?_, fun j a ha hb => ?_, fun j a ha => ?_, fun j j' a a' b b' q1 q2 q3 q4 q5 => ?_, fun j a b q1 q2 => ?_, k2.xlt⟩
    · rw [hAt, hν, if_neg (by omega), if_neg (by omega), if_neg (by omega), if_neg (by omega)]
      exact k2.lt j (by omega)
    · obtain ⟨j0, b1, b2, _⟩ := back j a ha
      rw [b2] at hb
      obtain ⟨c, el', m0, m1, m2, m3, m4⟩ := k2.blk j0 a b1 b hb
      refine ⟨c, el', m0, m1, m2, m3, fun i row k pv hi hk => ?_⟩
      obtain ⟨v, v1, v2, v3⟩ := m4 i row k pv hi hk
      exact ⟨v, v1, v2, hup pv v v3 fun hm => f5 j0 a b1 (refs_in_rows hi hk hm)⟩
    · obtain ⟨j0, b1, b2, _⟩ := back j a ha
      exact k2.nob j0 a b1 (by rw [← b2]; exact hb)
    · obtain ⟨j0, b1, b2, _⟩ := back j a ha
      rw [b2]
      exact k2.gsz j0 a b1
    · obtain ⟨j0, b1, b2, b3, b4⟩ := back j a q1
      obtain ⟨j1, c1, c2, c3, c4⟩ := back j' a' q2
      rw [b2] at q3
      rw [c2] at q4
      have := k2.inj j0 j1 a a' b b' b1 c1 q3 q4 q5
      subst this
      by_cases h : j0 = id
      · rw [b3 h, c3 h]
      · rw [b4 h, c4 h]
    · obtain ⟨j0, b1, b2, _⟩ := back j a q1
      rw [b2] at q2
      exact k2.out j0 a b b1 q2
  · rw [hν, if_neg (by omega)]
    by_cases hji : j = id
    · rw [if_pos hji, hji]
    · rw [if_neg hji]; exact k7 j (by rw [f3]; simpa using hji)
  · have := k4 pv v hv
    refine hup _ _ this ?_
    simp only [renewed, f3]
    rcases kill1_spec [id] pv with hk | ⟨hk, hn⟩
    · rw [hk]; simp [PV.refs]
    · rw [hk]; exact hn id (by simp)
  · simp only [renewed, f2] at k5 ⊢
    generalize rows.length = L at k5 ⊢
    cases k5 with
    | fr q => cases q
    | mslNil => exact .mslNil _ _ _
    | msl _ _ _ _ ad cap b hb hlenc htot hex had => exact .msl _ _ _ _ ad cap b (by rw [hν, if_pos rfl]; exact hb) hlenc htot hex had
end
end Go.Vs
end

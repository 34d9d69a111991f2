/- Operations that write: what the machine's run comes to. -/
import Derived.Test.YtnddhkcciphhkaaVs10
import Derived.Deep.Upon
set_option linter.unusedVariables false
set_option linter.unusedSimpArgs false
namespace Go.Vs
open Go

section
variable {P : Program} {w : World} {X : Nat → Prop} {A : Arrs} {n : Nat} {μ : Mu} {av : Nat → Prop}

/-- Only the count of draws is another. -/
theorem SR.same (hS : SR w X A n μ) {w' : World} (hh : w'.heap = w.heap) (h1 : w'.os = w.os) (h2 : w'.tape = w.tape) (h3 : w'.output = w.output) (base : Nat) : SR w' X A n μ ∧ Tr base w A μ w' A μ := by
  have htr : Tr base w A μ w' A μ := ⟨h1, h2, h3, by rw [hh]; exact Nat.le_refl _, fun b _ _ => by rw [hh], fun _ _ h => h, fun _ _ => rfl⟩
  refine ⟨⟨hS.lt, fun id a ha b hb => ?_, hS.nob, hS.gsz, hS.inj, hS.out, fun b hb => by rw [hh]; exact hS.xlt b hb⟩, htr⟩
  obtain ⟨c, el, k0, k1, k2, k3, k4⟩ := hS.blk id a ha b hb
  refine ⟨c, el, by rw [hh]; exact k0, k1, k2, k3, fun i row j pv hi hj => ?_⟩
  obtain ⟨v, hv1, hv2, hv3⟩ := k4 i row j pv hi hj
  exact ⟨v, hv1, hv2, hv3.mono htr.keeps fun _ _ _ h => h⟩

theorem heap_setRow {g : Nat} {cs : Array Value} {k : Nat} (h : k ≠ g) : (w.setRow g cs).heap[k]? = w.heap[k]? := by
  show (w.heap.modify g _)[k]? = _
  rw [Array.getElem?_modify, if_neg (Ne.symm h)]
theorem size_setRow {g : Nat} {cs : Array Value} : (w.setRow g cs).heap.size = w.heap.size := by
  show (w.heap.modify g _).size = _
  simp

/-- An array gets other rows, in its own block or in a new one. -/
theorem SR.rewrite (hS : SR w X A n μ) {w' : World} {id : Nat} {a : Arr} (ha : A id = some a) (haf : a.f = false) {bk : Blk} (hbk : μ id = some bk ∨ w.heap.size ≤ bk.b)  {base : Nat} (hbase : μ id = some bk ∨ base ≤ id)
    (ho : w'.os = w.os) (ht : w'.tape = w.tape) (hp : w'.output = w.output) (hz : w.heap.size ≤ w'.heap.size) (hk : ∀ b, b < w.heap.size → b ≠ bk.b → w'.heap[b]? = w.heap[b]?)
    {A' : Arrs} {a' : Arr} (ha' : A' id = some a') (ha'f : a'.f = false) (ha'g : ∀ k, a'.g = some k → k = some bk.sz)
    (hoth : ∀ j, j ≠ id → ∀ b', A' j = some b' → ∃ b0, A j = some b0 ∧ (b'.f = b0.f ∧ b'.g = b0.g) ∧ b'.rows.length = b0.rows.length ∧ ∀ (i : Nat) (row' : List PV), b'.rows[i]? = some row' → ∃ row : List PV, b0.rows[i]? = some row ∧ row'.length = row.length ∧
      ∀ (k : Nat) (pv' : PV), row'[k]? = some pv' → ∃ pv, row[k]? = some pv ∧ (pv' = .undef ∨ (pv' = pv ∧ (μ id = some bk ∨ id ∉ pv.refs))))
    {c : Array Value} {el : TypeId} (hheap : w'.heap[bk.b]? = some (.cells c el (0, 0))) (htot : c.size = bk.tot) (hrt : a'.rows.length * bk.sz ≤ bk.tot) (hsz : ∀ r ∈ a'.rows, r.length = bk.sz)
    (hc : ∀ i row j pv, a'.rows[i]? = some row → row[j]? = some pv → ∃ v, c[i * bk.sz + j]? = some v ∧ flat v = true ∧ VR w (Av X A μ) μ pv v ∧ (μ id = some bk ∨ id ∉ pv.refs)) :
    SR w' X A' n (upd μ id bk) ∧ Tr base w A μ w' A' (upd μ id bk) ∧ (∀ pv v, VR w (Av X A μ) μ pv v → (μ id = some bk ∨ id ∉ pv.refs) → VR w' (Av X A' (upd μ id bk)) (upd μ id bk) pv v) := by
  have hin : id < n := by
    rcases Nat.lt_or_ge id n with h | h
    · exact h
    · rw [(hS.lt id h).2] at ha; cases ha
  have hblt : ∀ j b0 k, A j = some b0 → μ j = some k → k.b < w.heap.size := fun j b0 k h1 h2 => by
    obtain ⟨c, el, hh, _⟩ := hS.blk j b0 h1 k h2
    exact (Array.getElem?_eq_some_iff.1 hh).1
  have hne : ∀ j b0 k, j ≠ id → A j = some b0 → μ j = some k → k.b ≠ bk.b := fun j b0 k hj h1 h2 he => by
    rcases hbk with h | h
    · exact hj (hS.inj j id b0 a k bk h1 ha h2 h he)
    · have := hblt j b0 k h1 h2; omega
  have hmu : ∀ j, j ≠ id → upd μ id bk j = μ j := fun j hj => upd_ne _ _ _ hj
  have hmutId : ∀ b, b < w.heap.size → b = bk.b → Mut A μ b := fun b hb he => by
    rcases hbk with h | h
    · exact ⟨id, a.rows, a.g, bk, by rw [ha]; cases a; simp_all, h, he.symm⟩
    · omega
  have htr : Tr base w A μ w' A' (upd μ id bk) := by
    refine ⟨ho, ht, hp, hz, fun b hb hm => hk b hb fun he => hm (hmutId b hb he), fun b hb => ?_, fun j hj => ?_⟩
    · rintro ⟨j, rows, g, k, h1, h2, rfl⟩
      by_cases hj : j = id
      · subst hj; rw [upd_same] at h2; simp at h2; subst h2; exact hmutId _ hb rfl
      · rw [hmu j hj] at h2
        obtain ⟨b0, e1, ⟨e2, _⟩, _⟩ := hoth j hj _ h1
        exact ⟨j, b0.rows, b0.g, k, by rw [e1]; simp at e2; cases b0; simp_all, h2, rfl⟩
    · by_cases hj' : j = id
      · subst hj'
        rcases hbase with h | h
        · rw [upd_same, h]
        · omega
      · exact hmu j hj'
  have lift : ∀ pv v, VR w (Av X A μ) μ pv v → (μ id = some bk ∨ id ∉ pv.refs) → VR w' (Av X A' (upd μ id bk)) (upd μ id bk) pv v := fun pv v hv hr => by
    refine hv.mono htr.keeps fun i hi b hb => ?_
    by_cases hid : i = id
    · subst hid
      rcases hr with h | h
      · rw [upd_same, ← h]; exact hb
      · exact absurd hi h
    · rw [hmu i hid]; exact hb
  refine ⟨⟨fun j hj => ?_, fun j b' hb' k hk' => ?_, fun j b' hb' hk' => ?_, fun j b' hb' => ?_, fun j j' b1 b2 k1 k2 h1 h2 h3 h4 h5 => ?_, fun j b' k h1 h2 => ?_, fun b hb => Nat.lt_of_lt_of_le (hS.xlt b hb) hz⟩, htr, lift⟩
  · have hj' : j ≠ id := by omega
    refine ⟨by rw [hmu j hj']; exact (hS.lt j hj).1, ?_⟩
    cases hq : A' j with
    | none => rfl
    | some b' => obtain ⟨b0, e1, _⟩ := hoth j hj' b' hq; rw [(hS.lt j hj).2] at e1; cases e1
  · by_cases hj : j = id
    · subst hj
      rw [upd_same] at hk'; simp at hk'; subst hk'
      rw [ha'] at hb'; simp at hb'; subst hb'
      refine ⟨c, el, hheap, htot, hrt, hsz, fun i row j pv hi hj => ?_⟩
      obtain ⟨v, v1, v2, v3, v4⟩ := hc i row j pv hi hj
      exact ⟨v, v1, v2, lift pv v v3 v4⟩
    · rw [hmu j hj] at hk'
      obtain ⟨b0, e1, e2, e3, e4⟩ := hoth j hj b' hb'
      obtain ⟨c0, el0, g0, g1, g2, g3, g4⟩ := hS.blk j b0 e1 k hk'
      refine ⟨c0, el0, by rw [hk k.b (hblt j b0 k e1 hk') (hne j b0 k hj e1 hk')]; exact g0, g1, by rw [e3]; exact g2, fun r hr => ?_, fun i row' x pv' hi hx => ?_⟩
      · obtain ⟨i, hi⟩ := List.getElem?_of_mem hr
        obtain ⟨row, r1, r2, _⟩ := e4 i r hi
        rw [r2]; exact g3 row (List.mem_of_getElem? r1)
      · obtain ⟨row, r1, r2, r3⟩ := e4 i row' hi
        obtain ⟨pv, p1, p2⟩ := r3 x pv' hx
        obtain ⟨v, v1, v2, v3⟩ := g4 i row x pv r1 p1
        refine ⟨v, v1, v2, ?_⟩
        rcases p2 with rfl | ⟨rfl, hr⟩
        · exact .undef v
        · exact lift _ _ v3 hr
  · by_cases hj : j = id
    · subst hj; rw [upd_same] at hk'; cases hk'
    · rw [hmu j hj] at hk'
      obtain ⟨b0, e1, e2, e3, _⟩ := hoth j hj b' hb'
      have := hS.nob j b0 e1 hk'
      rw [this] at e3
      exact List.eq_nil_of_length_eq_zero (by simpa using e3)
  · by_cases hj : j = id
    · subst hj
      rw [ha'] at hb'; simp at hb'; subst hb'
      refine ⟨fun h => (by cases ha'g _ h), fun k h b hb => ?_⟩
      rw [upd_same] at hb; simp at hb; subst hb
      have := ha'g _ h
      simpa using this.symm
    · rw [hmu j hj]
      obtain ⟨b0, e1, ⟨_, e2⟩, _⟩ := hoth j hj b' hb'
      rw [e2]; exact hS.gsz j b0 e1
  · have old : ∀ j b' , j ≠ id → A' j = some b' → ∃ b0, A j = some b0 := fun j b' hj h => let ⟨b0, e, _⟩ := hoth j hj b' h; ⟨b0, e⟩
    by_cases hj : j = id
    · by_cases hj' : j' = id
      · omega
      · subst hj
        rw [upd_same] at h3; simp at h3; subst h3
        rw [hmu j' hj'] at h4
        obtain ⟨b0, e⟩ := old j' b2 hj' h2
        exact absurd h5.symm (hne j' b0 k2 hj' e h4)
    · by_cases hj' : j' = id
      · subst hj'
        rw [upd_same] at h4; simp at h4; subst h4
        rw [hmu j hj] at h3
        obtain ⟨b0, e⟩ := old j b1 hj h1
        exact absurd h5 (hne j b0 k1 hj e h3)
      · rw [hmu j hj] at h3; rw [hmu j' hj'] at h4
        obtain ⟨b0, e⟩ := old j b1 hj h1
        obtain ⟨b0', e'⟩ := old j' b2 hj' h2
        exact hS.inj j j' b0 b0' k1 k2 e e' h3 h4 h5
  · by_cases hj : j = id
    · subst hj
      rw [upd_same] at h2; simp at h2; subst h2
      rcases hbk with h | h
      · exact hS.out j a _ ha h
      · exact fun hx => by have := hS.xlt _ hx; omega
    · rw [hmu j hj] at h2
      obtain ⟨b0, e1, _⟩ := hoth j hj b' h1
      exact hS.out j b0 k e1 h2
end
end Go.Vs

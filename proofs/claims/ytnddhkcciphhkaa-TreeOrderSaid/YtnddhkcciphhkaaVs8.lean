/- New arrays, freezing. -/
import Derived.Test.YtnddhkcciphhkaaVs7
import Derived.Laws.NewFold
set_option linter.unusedVariables false
set_option linter.unusedSimpArgs false
namespace Go.Vs
open Go

def upd {β : Type} (f : Nat → Option β) (i : Nat) (v : β) : Nat → Option β := fun j => if j = i then some v else f j
theorem upd_same {β : Type} (f : Nat → Option β) (i : Nat) (v : β) : upd f i v i = some v := by simp [upd]
theorem upd_ne {β : Type} (f : Nat → Option β) (i : Nat) (v : β) {j : Nat} (h : j ≠ i) : upd f i v j = f j := by simp [upd, h]

section
variable {P : Program} {w : World} {X : Nat → Prop} {A : Arrs} {n : Nat} {μ : Mu}

theorem heap_alloc_lt {o : Go.Obj} {b : Nat} (h : b < w.heap.size) : (w.alloc o).heap[b]? = w.heap[b]? := by
  show (w.heap.push o)[b]? = _
  rw [Array.getElem?_push]; simp [Nat.ne_of_lt h]
theorem heap_alloc_new {o : Go.Obj} : (w.alloc o).heap[w.heap.size]? = some o := by
  show (w.heap.push o)[w.heap.size]? = _
  simp
theorem size_alloc {o : Go.Obj} : (w.alloc o).heap.size = w.heap.size + 1 := by show (w.heap.push o).size = _; simp

/-- A block more in memory, of which nothing is told. -/
theorem SR.alloc (hS : SR w X A n μ) (o : Go.Obj) (base : Nat) : SR (w.alloc o) X A n μ ∧ Tr base w A μ (w.alloc o) A μ := by
  have hlt : ∀ id a b, A id = some a → μ id = some b → b.b < w.heap.size := fun id a b h1 h2 => by
    obtain ⟨c, el, hh, _⟩ := hS.blk id a h1 b h2
    exact (Array.getElem?_eq_some_iff.1 hh).1
  have htr : Tr base w A μ (w.alloc o) A μ := ⟨rfl, rfl, rfl, by rw [size_alloc]; omega, fun b hb _ => heap_alloc_lt hb, fun _ _ h => h, fun _ _ => rfl⟩
  refine ⟨⟨hS.lt, fun id a ha b hb => ?_, hS.nob, hS.gsz, hS.inj, hS.out, fun b hb => by rw [size_alloc]; exact Nat.lt_succ_of_lt (hS.xlt b hb)⟩, htr⟩
  obtain ⟨c, el, hh, h1, h2, h3, h4⟩ := hS.blk id a ha b hb
  refine ⟨c, el, by rw [heap_alloc_lt (hlt id a b ha hb)]; exact hh, h1, h2, h3, fun i row j pv hi hj => ?_⟩
  obtain ⟨v, hv1, hv2, hv3⟩ := h4 i row j pv hi hj
  exact ⟨v, hv1, hv2, hv3.mono htr.keeps fun _ _ _ h => h⟩

/-- A new array at number nid, in a new block. -/
theorem SR.new (hS : SR w X A n μ) {nid n' : Nat} (hA : A nid = none) (hμ : μ nid = none) (hn : nid < n') (hnn : n ≤ n') {rows : List (List PV)} {g : Option (Option Nat)} {cells : Array Value} {el : TypeId} {sz : Nat} (hg : ∀ k, g = some k → k = some sz)
    (hsz : ∀ r ∈ rows, r.length = sz) (htot : rows.length * sz ≤ cells.size)
    (hc : ∀ i row j pv, rows[i]? = some row → row[j]? = some pv → ∃ v, cells[i * sz + j]? = some v ∧ flat v = true ∧ VR w (Av X A μ) μ pv v) {base : Nat} (hb : base ≤ nid) :
    SR (w.alloc (.cells cells el)) X (upd A nid ⟨rows, g, false⟩) n' (upd μ nid ⟨w.heap.size, sz, cells.size⟩) ∧
    Tr base w A μ (w.alloc (.cells cells el)) (upd A nid ⟨rows, g, false⟩) (upd μ nid ⟨w.heap.size, sz, cells.size⟩) ∧
    ∀ i, i ≠ nid → upd μ nid ⟨w.heap.size, sz, cells.size⟩ i = μ i := by
  have hlt : ∀ id a b, A id = some a → μ id = some b → b.b < w.heap.size := fun id a b h1 h2 => by
    obtain ⟨c, el, hh, _⟩ := hS.blk id a h1 b h2
    exact (Array.getElem?_eq_some_iff.1 hh).1
  have hup : ∀ i b, μ i = some b → upd μ nid ⟨w.heap.size, sz, cells.size⟩ i = some b := fun i b h => by
    rw [upd_ne _ _ _ (by rintro rfl; rw [hμ] at h; cases h)]; exact h
  have hmut : ∀ b, b < w.heap.size → Mut (upd A nid ⟨rows, g, false⟩) (upd μ nid ⟨w.heap.size, sz, cells.size⟩) b → Mut A μ b := by
    rintro b hb' ⟨id, rows', g', k', h1, h2, rfl⟩
    by_cases hid : id = nid
    · subst hid; rw [upd_same] at h2; simp at h2; subst h2; simp at hb'
    · rw [upd_ne _ _ _ hid] at h1 h2; exact ⟨id, rows', g', k', h1, h2, rfl⟩
  have htr : Tr base w A μ (w.alloc (.cells cells el)) (upd A nid ⟨rows, g, false⟩) (upd μ nid ⟨w.heap.size, sz, cells.size⟩) :=
    ⟨rfl, rfl, rfl, by rw [size_alloc]; omega, fun b hb' _ => heap_alloc_lt hb', hmut, fun id hid => upd_ne _ _ _ (by omega)⟩
  refine ⟨⟨fun id hid => ?_, fun id a ha b hb' => ?_, fun id a ha hb' => ?_, fun id a ha => ?_, fun id id' a a' b b' h1 h2 h3 h4 h5 => ?_, fun id a b h1 h2 => ?_, fun b hb' => by rw [size_alloc]; exact Nat.lt_succ_of_lt (hS.xlt b hb')⟩, htr, fun i hi => upd_ne _ _ _ hi⟩
  · rw [upd_ne _ _ _ (by omega), upd_ne _ _ _ (by omega)]; exact hS.lt id (by omega)
  · by_cases hid : id = nid
    · subst hid
      rw [upd_same] at ha hb'
      simp at ha hb'; subst ha; subst hb'
      refine ⟨cells, el, heap_alloc_new, rfl, htot, hsz, fun i row j pv hi hj => ?_⟩
      obtain ⟨v, h1, h2, h3⟩ := hc i row j pv hi hj
      exact ⟨v, h1, h2, h3.mono htr.keeps fun i _ b h => hup i b h⟩
    · rw [upd_ne _ _ _ hid] at ha hb'
      obtain ⟨c, el', hh, h1, h2, h3, h4⟩ := hS.blk id a ha b hb'
      refine ⟨c, el', by rw [heap_alloc_lt (hlt id a b ha hb')]; exact hh, h1, h2, h3, fun i row j pv hi hj => ?_⟩
      obtain ⟨v, hv1, hv2, hv3⟩ := h4 i row j pv hi hj
      exact ⟨v, hv1, hv2, hv3.mono htr.keeps fun i _ b h => hup i b h⟩
  · by_cases hid : id = nid
    · subst hid; rw [upd_same] at hb'; cases hb'
    · rw [upd_ne _ _ _ hid] at ha hb'; exact hS.nob id a ha hb'
  · by_cases hid : id = nid
    · subst hid
      rw [upd_same] at ha; simp at ha; subst ha
      refine ⟨fun h => (by cases hg _ h), fun k h b hb' => ?_⟩
      rw [upd_same] at hb'; simp at hb'; subst hb'
      have := hg _ h
      simpa using this.symm
    · rw [upd_ne _ _ _ hid] at ha ⊢; exact hS.gsz id a ha
  · by_cases hid : id = nid
    · by_cases hid' : id' = nid
      · omega
      · subst hid
        rw [upd_same] at h3; rw [upd_ne _ _ _ hid'] at h2 h4
        simp at h3; subst h3
        have := hlt id' a' b' h2 h4
        simp at h5; omega
    · by_cases hid' : id' = nid
      · subst hid'
        rw [upd_same] at h4; rw [upd_ne _ _ _ hid] at h1 h3
        simp at h4; subst h4
        have := hlt id a b h1 h3
        simp at h5; omega
      · rw [upd_ne _ _ _ hid] at h1 h3; rw [upd_ne _ _ _ hid'] at h2 h4
        exact hS.inj id id' a a' b b' h1 h2 h3 h4 h5
  · by_cases hid : id = nid
    · subst hid
      rw [upd_same] at h2; simp at h2; subst h2
      exact fun hx => Nat.lt_irrefl _ (hS.xlt _ hx)
    · rw [upd_ne _ _ _ hid] at h1 h2; exact hS.out id a b h1 h2

/-! ### Freezing -/
def frz (A : Arrs) (ids : List Nat) : Arrs := fun id => (A id).map fun a => if ids.contains id then { a with f := true } else a
theorem arrs_freeze1 (S : Store) (i : Nat) : arrs (freeze1 S i) = frz (arrs S) [i] := by
  funext id
  unfold freeze1 frz
  cases hS : S[i]? with
  | none =>
    simp only
    by_cases hid : id = i
    · subst hid; simp [arrs, hS]
    · cases arrs S id <;> simp [hid]
  | some o =>
    cases o with
    | gone =>
      simp only
      by_cases hid : id = i
      · subst hid; simp [arrs, hS]
      · cases arrs S id <;> simp [hid]
    | arr rows g f =>
      simp only
      by_cases hid : id = i
      · subst hid
        obtain ⟨hl, he⟩ := List.getElem?_eq_some_iff.1 hS
        simp [arrs, hl, he]
      · have : (S.set i (.arr rows g true))[id]? = S[id]? := List.getElem?_set_ne (Ne.symm hid)
        simp only [arrs, this]
        cases S[id]? with
        | none => simp
        | some o => cases o <;> simp [hid]
theorem frz_nil (A : Arrs) : frz A [] = A := by funext id; simp [frz]
theorem frz_frz (A : Arrs) (x y : List Nat) : frz (frz A x) y = frz A (x ++ y) := by
  funext id
  simp only [frz, Option.map_map]
  cases A id with
  | none => rfl
  | some a =>
    simp only [Option.map_some, Function.comp, Option.some.injEq, List.contains_eq_mem, List.mem_append]
    by_cases h1 : id ∈ x <;> by_cases h2 : id ∈ y <;> simp [h1, h2]
theorem arrs_freezeAll (S : Store) (ids : List Nat) : arrs (freezeAll S ids) = frz (arrs S) ids := by
  induction ids generalizing S with
  | nil => simp [freezeAll, frz_nil]
  | cons i r ih =>
    show arrs (freezeAll (freeze1 S i) r) = _
    rw [ih, arrs_freeze1, frz_frz]; rfl
theorem length_freeze1 (S : Store) (i : Nat) : (freeze1 S i).length = S.length := by unfold freeze1; split <;> simp
theorem length_freezeAll (S : Store) (ids : List Nat) : (freezeAll S ids).length = S.length := by
  induction ids generalizing S with
  | nil => rfl
  | cons i r ih => show (freezeAll (freeze1 S i) r).length = _; rw [ih, length_freeze1]
theorem frz_some {ids : List Nat} {id : Nat} {a : Arr} (h : frz A ids id = some a) : ∃ a0, A id = some a0 ∧ (a.rows = a0.rows ∧ a.g = a0.g) ∧ (a.f = false → a0.f = false ∧ a = a0) := by
  unfold frz at h
  cases hA : A id with
  | none => rw [hA] at h; cases h
  | some a0 =>
    rw [hA] at h
    simp only [Option.map_some, Option.some.injEq] at h
    refine ⟨a0, rfl, ?_, fun hf => ?_⟩
    · rw [← h]; split <;> exact ⟨rfl, rfl⟩
    · split at h
      · rw [← h] at hf; cases hf
      · subst h; exact ⟨hf, rfl⟩
theorem Mut.frz {ids : List Nat} {b : Nat} (h : Mut (frz A ids) μ b) : Mut A μ b := by
  obtain ⟨id, rows, g, k, h1, h2, h3⟩ := h
  obtain ⟨a0, e1, _, e3⟩ := frz_some h1
  obtain ⟨_, e⟩ := e3 rfl
  exact ⟨id, rows, g, k, by rw [e1, ← e], h2, h3⟩
theorem SR.frz (hS : SR w X A n μ) (ids : List Nat) (base : Nat) : SR w X (frz A ids) n μ ∧ Tr base w A μ w (Vs.frz A ids) μ := by
  have htr : Tr base w A μ w (Vs.frz A ids) μ := ⟨rfl, rfl, rfl, Nat.le_refl _, fun _ _ _ => rfl, fun _ _ h => h.frz, fun _ _ => rfl⟩
  refine ⟨⟨fun id hid => ⟨(hS.lt id hid).1, by unfold Vs.frz; rw [(hS.lt id hid).2]; rfl⟩, fun id a ha b hb => ?_, fun id a ha hb => ?_, fun id a ha => ?_, fun id id' a a' b b' h1 h2 h3 h4 h5 => ?_, fun id a b h1 h2 => ?_, hS.xlt⟩, htr⟩
  · obtain ⟨a0, e1, ⟨e2, _⟩, _⟩ := frz_some ha
    rw [e2]
    obtain ⟨c, el, hh, h1, h2, h3, h4⟩ := hS.blk id a0 e1 b hb
    refine ⟨c, el, hh, h1, h2, h3, fun i row j pv hi hj => ?_⟩
    obtain ⟨v, hv1, hv2, hv3⟩ := h4 i row j pv hi hj
    exact ⟨v, hv1, hv2, hv3.mono htr.keeps fun _ _ _ h => h⟩
  · obtain ⟨a0, e1, ⟨e2, _⟩, _⟩ := frz_some ha
    rw [e2]; exact hS.nob id a0 e1 hb
  · obtain ⟨a0, e1, ⟨_, e2⟩, _⟩ := frz_some ha
    rw [e2]; exact hS.gsz id a0 e1
  · obtain ⟨a0, e1, _⟩ := frz_some h1
    obtain ⟨a1, e2, _⟩ := frz_some h2
    exact hS.inj id id' a0 a1 b b' e1 e2 h3 h4 h5
  · obtain ⟨a0, e1, _⟩ := frz_some h1
    exact hS.out id a0 b e1 h2

theorem reach_sub {S : Store} : ∀ (d : Nat) (ids ids' : List Nat), (∀ i ∈ ids, i ∈ ids') → ∀ i ∈ reach S d ids, i ∈ reach S d ids'
  | 0, ids, ids', h => h
  | d + 1, ids, ids', h => by
    intro i hi
    simp only [reach, List.mem_append] at hi ⊢
    rcases hi with hi | hi
    · exact .inl (h i hi)
    · refine .inr (reach_sub d _ _ (fun j hj => ?_) i hi)
      rw [List.mem_flatMap] at hj ⊢
      obtain ⟨k, hk1, hk2⟩ := hj
      exact ⟨k, h k hk1, hk2⟩
theorem reach_in {S : Store} (d : Nat) {ids : List Nat} {i : Nat} (h : i ∈ ids) : i ∈ reach S d ids := by
  cases d with
  | zero => exact h
  | succ d => simp only [reach, List.mem_append]; exact .inl h
theorem reach_step {S : Store} (d : Nat) {ids : List Nat} {id : Nat} (h : id ∈ ids) {rows : List (List PV)} (hr : rowsAt S id = some rows) {i j : Nat} {row : List PV} {pv : PV} (hi : rows[i]? = some row) (hj : row[j]? = some pv) :
    ∀ k ∈ reach S d pv.refs, k ∈ reach S (d + 1) ids := by
  intro k hk
  simp only [reach, List.mem_append]
  refine .inr (reach_sub d _ _ (fun m hm => ?_) k hk)
  rw [List.mem_flatMap]
  refine ⟨id, h, ?_⟩
  rw [hr]
  simp only [rowsRefs, List.mem_flatMap]
  exact ⟨row, List.mem_of_getElem? hi, mem_refsL hj hm⟩

theorem mapO_spec {α β : Type} {f : α → Option β} {l : List α} {r : List β} (h : mapO f l = some r) : r.length = l.length ∧ ∀ (i : Nat) (b : β), r[i]? = some b → ∃ a, l[i]? = some a ∧ f a = some b := by
  induction l generalizing r with
  | nil => simp [mapO] at h; subst h; simp
  | cons x l ih =>
    simp only [mapO] at h
    cases hx : f x with
    | none => rw [hx] at h; cases h
    | some y =>
      rw [hx] at h
      simp only [Option.bind_some] at h
      cases hl : mapO f l with
      | none => rw [hl] at h; cases h
      | some l' =>
        rw [hl] at h
        simp at h; subst h
        obtain ⟨h1, h2⟩ := ih hl
        refine ⟨by simp [h1], fun i b hi => ?_⟩
        cases i with
        | zero => simp at hi; subst hi; exact ⟨x, rfl, hx⟩
        | succ i => simp at hi; simpa using h2 i b hi

theorem FR.less {av av' : Nat → Prop} (h : ∀ b, av' b → av b) {pv : PV} {v : Value} (hf : FR w av pv v) : FR w av' pv v := hf.mono (Keeps.less h)
theorem FR.slFalse {av : Nat → Prop} {rows : List (List PV)} {ex : Bool} {v : Value} (hf : FR w av (.sl rows ex) v) : FR w av (.sl rows false) v := by
  cases hf with | sl _ _ a cap ad sz c hcap hex ha had hsz hc hr => exact .sl rows false a cap ad sz c hcap (by simp) ha had hsz hc hr

variable {S : Store}
theorem fzCell_sound (hS : SR w X A n μ) (hSA : Sees S A μ) {A' : Arrs} (hA' : ∀ id a, A' id = some a → ∃ a0, A id = some a0 ∧ (a.f = false → a0.f = false)) (hm : ∀ b, Mut A' μ b → Mut (A) μ b) : ∀ (d : Nat) (pv : PV) (v : Value) (pv' : PV), fzCell S d pv = some pv' →
    VR w (Av X (A) μ) μ pv v → (∀ id ∈ reach S d pv.refs, ∀ a, A' id = some a → a.f = true) → FR w (Av X A' μ) pv' v := by
  have hle : ∀ b, Av X A' μ b → Av X (A) μ b := fun b h => h.imp id (hm b)
  have notIn : ∀ id a b, A id = some a → μ id = some b → (∀ a, A' id = some a → a.f = true) → ¬ Av X A' μ b.b := by
    rintro id a b ha hb hf (hx | ⟨id2, rows, g, k, h1, h2, h3⟩)
    · exact hS.out id a b ha hb hx
    · obtain ⟨a0, e1, _⟩ := hA' id2 _ h1
      have := hS.inj id2 id a0 a k b e1 ha h2 hb h3
      subst this
      cases hf _ h1
  intro d
  induction d with
  | zero => intro pv v pv' h; cases h
  | succ d ih =>
    intro pv v pv' h hv hf
    cases pv <;> simp only [fzCell, reduceCtorEq, Option.some.injEq] at h
    case int k m => subst h; cases hv with | fr hv => exact hv.less hle
    case bool b => subst h; cases hv with | fr hv => exact hv.less hle
    case str s => subst h; cases hv with | fr hv => exact hv.less hle
    case raw u =>
      split at h
      · rename_i hu
        cases h
        cases hv with
        | fr hv => exact hv.less hle
        | raw _ => exact .raw _ hu
      · cases h
    case sl rows ex => subst h; cases hv with | fr hv => exact hv.slFalse.less hle
    case cp row => subst h; cases hv with | fr hv => exact hv.less hle
    case msl id off len ex =>
      simp only [rowsIn] at h
      cases hr : rowsAt S id with
      | none => rw [hr] at h; cases h
      | some rows =>
        rw [hr] at h
        simp only [Option.bind_some] at h
        split at h
        · rename_i hle'
          simp only [Option.bind_some] at h
          cases hq : mapO (mapO (fzCell S d)) ((rows.drop off).take len) with
          | none => rw [hq] at h; cases h
          | some rows' =>
            rw [hq] at h
            cases h
            obtain ⟨hlen, hel⟩ := mapO_spec hq
            have hlen' : rows'.length = len := by rw [hlen]; simp; omega
            cases hv with
            | fr hv => cases hv
            | mslNil _ _ a =>
              have : rows' = [] := List.eq_nil_of_length_eq_zero hlen'
              subst this
              exact .sl [] false a 0 default 0 (fun _ _ => Go.undef) (Nat.le_refl _) (by simp) (fun _ => rfl) (fun h => absurd rfl h) (by simp) (by simp) (by simp)
            | msl _ _ _ _ ad cap b hb hlenc htot hex had =>
              obtain ⟨g, f, ha⟩ := rowsAt_some hSA hr hb
              have cellAt : ∀ i row j pv, rows'[i]? = some row → row[j]? = some pv → ∃ u, w.cell? (ad.add (i * b.sz + j)) = some u ∧ FR w (Av X A' μ) pv u ∧ ad.block = b.b := by
                intro i row j pv hi hj
                obtain ⟨row0, h1, h2⟩ := hel i row hi
                obtain ⟨_, hel2⟩ := mapO_spec h2
                obtain ⟨pv0, h3, h4⟩ := hel2 j pv hj
                rw [List.getElem?_take] at h1
                split at h1
                · rename_i hil
                  rw [List.getElem?_drop] at h1
                  obtain ⟨hrl, hcell⟩ := hS.row ha hb h1
                  obtain ⟨u, hu1, hu2, hu3⟩ := hcell j pv0 h3
                  have had' := had (by omega)
                  refine ⟨u, ?_, ih pv0 u pv h4 hu3 (fun k hk => hf k (reach_step d (by simp [PV.refs]) hr h1 h3 k hk)), by rw [had']⟩
                  rw [had', add_plain, ← Nat.add_assoc, ← Nat.add_mul]; exact hu1
                · cases h1
              have key := FR.sl (w := w) (av := Av X A' μ) rows' false (some ad) cap ad b.sz (fun i j => (w.cell? (ad.add (i * b.sz + j))).getD undef) (by omega) (by simp) (by simp) (fun _ => rfl)
                (fun r hr' => by
                  obtain ⟨i, hi⟩ := List.getElem?_of_mem hr'
                  obtain ⟨row0, h1, h2⟩ := hel i r hi
                  rw [(mapO_spec h2).1]
                  rw [List.getElem?_take] at h1
                  split at h1
                  · rw [List.getElem?_drop] at h1; exact (hS.row ha hb h1).1
                  · cases h1)
                (fun i row j pv hi hj => by
                  obtain ⟨u, h1, h2, h3⟩ := cellAt i row j pv hi hj
                  rw [h1, h3]
                  exact ⟨rfl, notIn id _ b ha hb (hf id (reach_in _ (by simp [PV.refs])))⟩)
                (fun i row j pv hi hj => by
                  obtain ⟨u, h1, h2, h3⟩ := cellAt i row j pv hi hj
                  simp only [h1, Option.getD_some]; exact h2)
              rw [hlen'] at key
              exact key
        · cases h
    case mp id i off =>
      cases hr : rowsAt S id with
      | none => rw [hr] at h; cases h
      | some rows =>
        rw [hr] at h
        simp only [Option.bind_some] at h
        split at h
        · rename_i hi
          cases hq : mapO (fzCell S d) ((rows.getD i []).drop off) with
          | none => rw [hq] at h; cases h
          | some row' =>
            rw [hq] at h
            cases h
            obtain ⟨hlen, hel⟩ := mapO_spec hq
            cases hv with
            | fr hv => cases hv
            | mp _ _ _ b hb =>
              obtain ⟨g, f, ha⟩ := rowsAt_some hSA hr hb
              have hrow : rows[i]? = some (rows.getD i []) := by simp [List.getD, List.getElem?_eq_getElem hi]
              obtain ⟨hrl, hcell⟩ := hS.row ha hb hrow
              have cellAt : ∀ j pv, row'[j]? = some pv → ∃ u, w.cell? ((⟨b.b, i * b.sz + off, none⟩ : Addr).add j) = some u ∧ FR w (Av X A' μ) pv u := by
                intro j pv hj
                obtain ⟨pv0, h3, h4⟩ := hel j pv hj
                rw [List.getElem?_drop] at h3
                obtain ⟨u, hu1, hu2, hu3⟩ := hcell _ pv0 h3
                refine ⟨u, by rw [add_plain, Nat.add_assoc]; exact hu1, ih pv0 u pv h4 hu3 (fun k hk => hf k (reach_step d (by simp [PV.refs]) hr hrow h3 k hk))⟩
              refine .cp row' _ (fun j => (w.cell? ((⟨b.b, i * b.sz + off, none⟩ : Addr).add j)).getD undef) (fun j pv hj => ?_) (fun j pv hj => ?_)
              · obtain ⟨u, h1, _⟩ := cellAt j pv hj
                rw [h1]
                exact ⟨rfl, notIn id _ b ha hb (hf id (reach_in _ (by simp [PV.refs])))⟩
              · obtain ⟨u, h1, h2⟩ := cellAt j pv hj
                simp only [h1, Option.getD_some]; exact h2
        · cases h
    case fn f x y =>
      cases x <;> cases y <;> simp only [fzCell, reduceCtorEq, Option.some.injEq] at h
      subst h
      cases hv with
      | fr hv => exact hv.less hle
      | fn _ _ _ u v hx hy rx ry =>
        have e1 : u = #[] := Array.eq_empty_of_size_eq_zero (by simpa using hx.symm)
        have e2 : v = #[] := Array.eq_empty_of_size_eq_zero (by simpa using hy.symm)
        subst e1; subst e2
        exact .fn f

def noMu : Mu := fun _ => none
theorem fzPV1_sound (hS : SR w X A n μ) (hSA : Sees S A μ) {ids : List Nat} {pv pv' : PV} {v : Value} (h : fzPV1 S pv = some pv') (hv : VR w (Av X (A) μ) μ pv v)
    (hf : ∀ id ∈ reach S 8 pv.refs, id ∈ ids) : VR w (Av X (frz (A) ids) μ) noMu pv' v := by
  have key := fzCell_sound hS hSA (A' := frz (A) ids) (fun id a ha => by obtain ⟨a0, e1, e2, e3⟩ := frz_some ha; exact ⟨a0, e1, fun h => (e3 h).1⟩) (fun b hb => hb.frz) 8
  have fz : ∀ id, id ∈ ids → ∀ a, frz (A) ids id = some a → a.f = true := by
    intro id hid a ha
    unfold frz at ha
    cases hA : A id with
    | none => rw [hA] at ha; cases ha
    | some a0 => rw [hA] at ha; simp [hid] at ha; subst ha; rfl
  cases pv <;> simp only [fzPV1] at h
  case agg cs =>
    cases hq : mapO (fzCell S 8) cs with
    | none => rw [hq] at h; cases h
    | some cs' =>
      rw [hq] at h; cases h
      obtain ⟨h1, h2⟩ := mapO_spec hq
      cases hv with
      | fr hv => cases hv
      | agg _ us hn hfl hr =>
        refine .agg _ us (by omega) hfl (fun j pv v hp hv => ?_)
        obtain ⟨pv0, e1, e2⟩ := h2 j pv hp
        refine .fr (key pv0 v pv e2 (hr j pv0 v e1 hv) (fun k hk => fz k (hf k ?_)))
        exact reach_sub 8 _ _ (fun m hm => by simp only [PV.refs]; exact mem_refsL e1 hm) k hk
  all_goals exact .fr (key _ v pv' h hv (fun k hk => fz k (hf k hk)))
theorem fzPV_sound (hS : SR w X A n μ) (hSA : Sees S A μ) {ids : List Nat} {pv pv' : PV} {v : Value} (h : fzPV S pv = some pv') (hv : VR w (Av X (A) μ) μ pv v)
    (hf : ∀ id ∈ reach S 8 pv.refs, id ∈ ids) : VR w (Av X (frz (A) ids) μ) noMu pv' v := by
  cases pv <;> simp only [fzPV] at h
  case tup vs =>
    cases hq : mapO (fzPV1 S) vs with
    | none => rw [hq] at h; cases h
    | some vs' =>
      rw [hq] at h; cases h
      obtain ⟨h1, h2⟩ := mapO_spec hq
      cases hv with
      | fr hv => cases hv
      | tup _ us hn hr =>
        refine .tup _ us (by omega) (fun j pv v hp hv => ?_)
        obtain ⟨pv0, e1, e2⟩ := h2 j pv hp
        exact fzPV1_sound hS hSA e2 (hr j pv0 v e1 hv) (fun k hk => hf k (reach_sub 8 _ _ (fun m hm => by simp only [PV.refs]; exact mem_refsL e1 hm) k hk))
  all_goals exact fzPV1_sound hS hSA h hv hf
end
end Go.Vs

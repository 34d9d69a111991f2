import Derived.Laws.NewFold
import Derived.Great.BuildSlice
import Derived.Deep.AppendSrc
import Derived.Laws.MakeOwn
import Derived.Test.YtkaeejkajfinhaaGreatMI1
section
set_option linter.unusedVariables false
set_option linter.unusedSimpArgs false
namespace Go.Vs
open Go
def upd {β : Type} (f : Nat → Option β) (i : Nat) (v : β) : Nat → Option β := fun j => if j = i then some v else f j
theorem upd_same {β : Type} (f : Nat → Option β) (i : Nat) (v : β) : upd f i v i = some v := by simp [upd]
theorem upd_ne {β : Type} (f : Nat → Option β) (i : Nat) (v : β) {j : Nat} (h : j ≠ i) : upd f i v j = f j := by simp [upd, h]
section
variable {P : Program} {w : World} {X : Nat → Prop} {A : Arrs} {n : Nat} {μ : Mu}
theorem heap_alloc_lt {o : Go.Obj} {b : Nat} (h : b < w.heap.size) : (w.alloc o).heap[b]? = w.heap[b]? := by
  show (w.heap.push o)[b]? = _
  rw [Array.getElem?_push]; simp [Nat.ne_of_lt h]
theorem heap_alloc_new {o : Go.Obj} : (w.alloc o).heap[w.heap.size]? = some o := by
  show (w.heap.push o)[w.heap.size]? = _
  simp
theorem size_alloc {o : Go.Obj} : (w.alloc o).heap.size = w.heap.size + 1 := by show (w.heap.push o).size = _; simp
theorem SR.alloc (hS : SR w X A n μ) (o : Go.Obj) (base : Nat) : SR (w.alloc o) X A n μ ∧ Tr base w A μ (w.alloc o) A μ := by
  have hlt : ∀ id a b, A id = some a → μ id = some b → b.b < w.heap.size := fun id a b h1 h2 => by
    obtain ⟨c, el, hh, _⟩ := hS.blk id a h1 b h2
    exact (Array.getElem?_eq_some_iff.1 hh).1
  have htr : Tr base w A μ (w.alloc o) A μ := ⟨rfl, rfl, rfl, by rw [size_alloc]; omega, fun b hb _ => heap_alloc_lt hb, fun _ _ h => h, fun _ _ => rfl⟩
  refine ⟨⟨hS.lt, fun id a ha b hb => ?_, hS.nob, hS.gsz, hS.inj, hS.out, fun b hb => by rw [size_alloc]; exact Nat.lt_succ_of_lt (hS.xlt b hb)⟩, htr⟩
  obtain ⟨c, el, hh, h1, h2, h3, h4⟩ := hS.blk id a ha b hb
  refine ⟨c, el, by rw [heap_alloc_lt (hlt id a b ha hb)]; exact hh, h1, h2, h3, fun i row j pv hi hj => ?_⟩
  obtain ⟨v, hv1, hv2, hv3⟩ := h4 i row j pv hi hj
  exact ⟨v, hv1, hv2, hv3.mono htr.keeps fun _ _ _ h => h⟩
theorem SR.new (hS : SR w X A n μ) {nid n' : Nat} (hA : A nid = none) (hμ : μ nid = none) (hn : nid < n') (hnn : n ≤ n') {rows : List (List PV)} {g : Option (Option Nat)} {cells : Array Value} {el : TypeId} {sz : Nat} (hg : ∀ k, g = some k → k = some sz)
    (hsz : ∀ r ∈ rows, r.length = sz) (htot : rows.length * sz ≤ cells.size)
    (hc : ∀ i row j pv, rows[i]? = some row → row[j]? = some pv → ∃ v, cells[i * sz + j]? = some v ∧ flat v = true ∧ VR w (Av X A μ) μ pv v) {base : Nat} (hb : base ≤ nid) :
    SR (w.alloc (.cells cells el)) X (upd A nid ⟨rows, g, false⟩) n' (upd μ nid ⟨w.heap.size, sz, cells.size⟩) ∧
    Tr base w A μ (w.alloc (.cells cells el)) (upd A nid ⟨rows, g, false⟩) (upd μ nid ⟨w.heap.size, sz, cells.size⟩) ∧
    ∀ i, i ≠ nid → upd μ nid ⟨w.heap.size, sz, cells.size⟩ i = μ i := by
  have hlt : ∀ id a b, A id = some a → μ id = some b → b.b < w.heap.size := fun id a b h1 h2 => by
    obtain ⟨c, el, hh, _⟩ := hS.blk id a h1 b h2
    exact (Array.getElem?_eq_some_iff.1 hh).1
  have hup : ∀ i b, μ i = some b → upd μ nid ⟨w.heap.size, sz, cells.size⟩ i = some b := fun i b h => by
    rw [upd_ne _ _ _ (by rintro rfl; rw [hμ] at h; cases h)]; exact h
  have hmut : ∀ b, b < w.heap.size → Mut (upd A nid ⟨rows, g, false⟩) (upd μ nid ⟨w.heap.size, sz, cells.size⟩) b → Mut A μ b := by
    rintro b hb' ⟨id, rows', g', k', h1, h2, rfl⟩
    by_cases hid : id = nid
    · subst hid; rw [upd_same] at h2; simp at h2; subst h2; simp at hb'
    · rw [upd_ne _ _ _ hid] at h1 h2; exact ⟨id, rows', g', k', h1, h2, rfl⟩
  have htr : Tr base w A μ (w.alloc (.cells cells el)) (upd A nid ⟨rows, g, false⟩) (upd μ nid ⟨w.heap.size, sz, cells.size⟩) :=
    ⟨rfl, rfl, rfl, by rw [size_alloc]; omega, fun b hb' _ => heap_alloc_lt hb', hmut, fun id hid => upd_ne _ _ _ (by omega)⟩
  refine ⟨⟨fun id hid => ?_, fun id a ha b hb' => ?_, fun id a ha hb' => ?_, fun id a ha => ?_, fun id id' a a' b b' h1 h2 h3 h4 h5 => ?_, fun id a b h1 h2 => ?_, fun b hb' => by rw [size_alloc]; exact Nat.lt_succ_of_lt (hS.xlt b hb')⟩, htr, fun i hi => upd_ne _ _ _ hi⟩
  · rw [upd_ne _ _ _ (by omega), upd_ne _ _ _ (by omega)]; exact hS.lt id (by omega)
  · by_cases hid : id = nid
    · subst hid
      rw [upd_same] at ha hb'
      simp at ha hb'; subst ha; subst hb'
      refine ⟨cells, el, heap_alloc_new, rfl, htot, hsz, fun i row j pv hi hj => ?_⟩
      obtain ⟨v, h1, h2, h3⟩ := hc i row j pv hi hj
      exact ⟨v, h1, h2, h3.mono htr.keeps fun i _ b h => hup i b h⟩
    · rw [upd_ne _ _ _ hid] at ha hb'
      obtain ⟨c, el', hh, h1, h2, h3, h4⟩ := hS.blk id a ha b hb'
      refine ⟨c, el', by rw [heap_alloc_lt (hlt id a b ha hb')]; exact hh, h1, h2, h3, fun i row j pv hi hj => ?_⟩
      obtain ⟨v, hv1, hv2, hv3⟩ := h4 i row j pv hi hj
      exact ⟨v, hv1, hv2, hv3.mono htr.keeps fun i _ b h => hup i b h⟩
  · by_cases hid : id = nid
    · subst hid; rw [upd_same] at hb'; cases hb'
    · rw [upd_ne _ _ _ hid] at ha hb'; exact hS.nob id a ha hb'
  · by_cases hid : id = nid
    · subst hid
      rw [upd_same] at ha; simp at ha; subst ha
      refine ⟨fun h => (by cases hg _ h), fun k h b hb' => ?_⟩
      rw [upd_same] at hb'; simp at hb'; subst hb'
      have := hg _ h
      simpa using this.symm
    · rw [upd_ne _ _ _ hid] at ha ⊢; exact hS.gsz id a ha
  · by_cases hid : id = nid
    · by_cases hid' : id' = nid
      · omega
      · subst hid
        rw [upd_same] at h3; rw [upd_ne _ _ _ hid'] at h2 h4
        simp at h3; subst h3
        have := hlt id' a' b' h2 h4
        simp at h5; omega
    · by_cases hid' : id' = nid
      · subst hid'
        rw [upd_same] at h4; rw [upd_ne _ _ _ hid] at h1 h3
        simp at h4; subst h4
        have := hlt id a b h1 h3
        simp at h5; omega
      · rw [upd_ne _ _ _ hid] at h1 h3; rw [upd_ne _ _ _ hid'] at h2 h4
        exact hS.inj id id' a a' b b' h1 h2 h3 h4 h5
  · by_cases hid : id = nid
    · subst hid
      rw [upd_same] at h2; simp at h2; subst h2
      exact fun hx => Nat.lt_irrefl _ (hS.xlt _ hx)
    · rw [upd_ne _ _ _ hid] at h1 h2; exact hS.out id a b h1 h2
def frz (A : Arrs) (ids : List Nat) : Arrs := fun id => (A id).map fun a => if ids.contains id then { a with f := true } else a
theorem arrs_freeze1 (S : Store) (i : Nat) : arrs (freeze1 S i) = frz (arrs S) [i] := by
  funext id
  unfold freeze1 frz
  cases hS : S[i]? with
  | none =>
    simp only
    by_cases hid : id = i
    · subst hid; simp [arrs, hS]
    · cases arrs S id <;> simp [hid]
  | some o =>
    cases o with
    | gone =>
      simp only
      by_cases hid : id = i
      · subst hid; simp [arrs, hS]
      · cases arrs S id <;> simp [hid]
    | arr rows g f =>
      simp only
      by_cases hid : id = i
      · subst hid
        obtain ⟨hl, he⟩ := List.getElem?_eq_some_iff.1 hS
        simp [arrs, hl, he]
      · have : (S.set i (.arr rows g true))[id]? = S[id]? := List.getElem?_set_ne (Ne.symm hid)
        simp only [arrs, this]
        cases S[id]? with
        | none => simp
        | some o => cases o <;> simp [hid]
theorem frz_nil (A : Arrs) : frz A [] = A := by funext id; simp [frz]
theorem frz_frz (A : Arrs) (x y : List Nat) : frz (frz A x) y = frz A (x ++ y) := by
  funext id
  simp only [frz, Option.map_map]
  cases A id with
  | none => rfl
  | some a =>
    simp only [Option.map_some, Function.comp, Option.some.injEq, List.contains_eq_mem, List.mem_append]
    by_cases h1 : id ∈ x <;> by_cases h2 : id ∈ y <;> simp [h1, h2]
theorem arrs_freezeAll (S : Store) (ids : List Nat) : arrs (freezeAll S ids) = frz (arrs S) ids := by
  induction ids generalizing S with
  | nil => simp [freezeAll, frz_nil]
  | cons i r ih =>
    show arrs (freezeAll (freeze1 S i) r) = _
    rw [ih, arrs_freeze1, frz_frz]; rfl
theorem length_freeze1 (S : Store) (i : Nat) : (freeze1 S i).length = S.length := by unfold freeze1; split <;> simp
theorem length_freezeAll (S : Store) (ids : List Nat) : (freezeAll S ids).length = S.length := by
  induction ids generalizing S with
  | nil => rfl
  | cons i r ih => show (freezeAll (freeze1 S i) r).length = _; rw [ih, length_freeze1]
theorem frz_some {ids : List Nat} {id : Nat} {a : Arr} (h : frz A ids id = some a) : ∃ a0, A id = some a0 ∧ (a.rows = a0.rows ∧ a.g = a0.g) ∧ (a.f = false → a0.f = false ∧ a = a0) := by
  unfold frz at h
  cases hA : A id with
  | none => rw [hA] at h; cases h
  | some a0 =>
    rw [hA] at h
    simp only [Option.map_some, Option.some.injEq] at h
    refine ⟨a0, rfl, ?_, fun hf => ?_⟩
    · rw [← h]; split <;> exact ⟨rfl, rfl⟩
    · split at h
      · rw [← h] at hf; cases hf
      · subst h; exact ⟨hf, rfl⟩
theorem Mut.frz {ids : List Nat} {b : Nat} (h : Mut (frz A ids) μ b) : Mut A μ b := by
  obtain ⟨id, rows, g, k, h1, h2, h3⟩ := h
  obtain ⟨a0, e1, _, e3⟩ := frz_some h1
  obtain ⟨_, e⟩ := e3 rfl
  exact ⟨id, rows, g, k, by rw [e1, ← e], h2, h3⟩
theorem SR.frz (hS : SR w X A n μ) (ids : List Nat) (base : Nat) : SR w X (frz A ids) n μ ∧ Tr base w A μ w (Vs.frz A ids) μ := by
  have htr : Tr base w A μ w (Vs.frz A ids) μ := ⟨rfl, rfl, rfl, Nat.le_refl _, fun _ _ _ => rfl, fun _ _ h => h.frz, fun _ _ => rfl⟩
  refine ⟨⟨fun id hid => ⟨(hS.lt id hid).1, by unfold Vs.frz; rw [(hS.lt id hid).2]; rfl⟩, fun id a ha b hb => ?_, fun id a ha hb => ?_, fun id a ha => ?_, fun id id' a a' b b' h1 h2 h3 h4 h5 => ?_, fun id a b h1 h2 => ?_, hS.xlt⟩, htr⟩
  · obtain ⟨a0, e1, ⟨e2, _⟩, _⟩ := frz_some ha
    rw [e2]
    obtain ⟨c, el, hh, h1, h2, h3, h4⟩ := hS.blk id a0 e1 b hb
    refine ⟨c, el, hh, h1, h2, h3, fun i row j pv hi hj => ?_⟩
    obtain ⟨v, hv1, hv2, hv3⟩ := h4 i row j pv hi hj
    exact ⟨v, hv1, hv2, hv3.mono htr.keeps fun _ _ _ h => h⟩
  · obtain ⟨a0, e1, ⟨e2, _⟩, _⟩ := frz_some ha
    rw [e2]; exact hS.nob id a0 e1 hb
  · obtain ⟨a0, e1, ⟨_, e2⟩, _⟩ := frz_some ha
    rw [e2]; exact hS.gsz id a0 e1
  · obtain ⟨a0, e1, _⟩ := frz_some h1
    obtain ⟨a1, e2, _⟩ := frz_some h2
    exact hS.inj id id' a0 a1 b b' e1 e2 h3 h4 h5
  · obtain ⟨a0, e1, _⟩ := frz_some h1
    exact hS.out id a0 b e1 h2
theorem reach_sub {S : Store} : ∀ (d : Nat) (ids ids' : List Nat), (∀ i ∈ ids, i ∈ ids') → ∀ i ∈ reach S d ids, i ∈ reach S d ids'
  | 0, ids, ids', h => h
  | d + 1, ids, ids', h => by
    intro i hi
    simp only [reach, List.mem_append] at hi ⊢
    rcases hi with hi | hi
    · exact .inl (h i hi)
    · refine .inr (reach_sub d _ _ (fun j hj => ?_) i hi)
      rw [List.mem_flatMap] at hj ⊢
      obtain ⟨k, hk1, hk2⟩ := hj
      exact ⟨k, h k hk1, hk2⟩
theorem reach_in {S : Store} (d : Nat) {ids : List Nat} {i : Nat} (h : i ∈ ids) : i ∈ reach S d ids := by
  cases d with
  | zero => exact h
  | succ d => simp only [reach, List.mem_append]; exact .inl h
theorem reach_step {S : Store} (d : Nat) {ids : List Nat} {id : Nat} (h : id ∈ ids) {rows : List (List PV)} (hr : rowsAt S id = some rows) {i j : Nat} {row : List PV} {pv : PV} (hi : rows[i]? = some row) (hj : row[j]? = some pv) :
    ∀ k ∈ reach S d pv.refs, k ∈ reach S (d + 1) ids := by
  intro k hk
  simp only [reach, List.mem_append]
  refine .inr (reach_sub d _ _ (fun m hm => ?_) k hk)
  rw [List.mem_flatMap]
  refine ⟨id, h, ?_⟩
  rw [hr]
  simp only [rowsRefs, List.mem_flatMap]
  exact ⟨row, List.mem_of_getElem? hi, mem_refsL hj hm⟩
theorem mapO_spec {α β : Type} {f : α → Option β} {l : List α} {r : List β} (h : mapO f l = some r) : r.length = l.length ∧ ∀ (i : Nat) (b : β), r[i]? = some b → ∃ a, l[i]? = some a ∧ f a = some b := by
  induction l generalizing r with
  | nil => simp [mapO] at h; subst h; simp
  | cons x l ih =>
    simp only [mapO] at h
    cases hx : f x with
    | none => rw [hx] at h; cases h
    | some y =>
      rw [hx] at h
      simp only [Option.bind_some] at h
      cases hl : mapO f l with
      | none => rw [hl] at h; cases h
      | some l' =>
        rw [hl] at h
        simp at h; subst h
        obtain ⟨h1, h2⟩ := ih hl
        refine ⟨by simp [h1], fun i b hi => ?_⟩
        cases i with
        | zero => simp at hi; subst hi; exact ⟨x, rfl, hx⟩
        | succ i => simp at hi; simpa using h2 i b hi
theorem FR.less {av av' : Nat → Prop} (h : ∀ b, av' b → av b) {pv : PV} {v : Value} (hf : FR w av pv v) : FR w av' pv v := hf.mono (Keeps.less h)
theorem FR.slFalse {av : Nat → Prop} {rows : List (List PV)} {ex : Bool} {v : Value} (hf : FR w av (.sl rows ex) v) : FR w av (.sl rows false) v := by
  cases hf with | sl _ _ a cap ad sz c hcap hex ha had hsz hc hr => exact .sl rows false a cap ad sz c hcap (by simp) ha had hsz hc hr
variable {S : Store}
theorem fzCell_sound (hS : SR w X A n μ) (hSA : Sees S A μ) {A' : Arrs} (hA' : ∀ id a, A' id = some a → ∃ a0, A id = some a0 ∧ (a.f = false → a0.f = false)) (hm : ∀ b, Mut A' μ b → Mut (A) μ b) : ∀ (d : Nat) (pv : PV) (v : Value) (pv' : PV), fzCell S d pv = some pv' →
    VR w (Av X (A) μ) μ pv v → (∀ id ∈ reach S d pv.refs, ∀ a, A' id = some a → a.f = true) → FR w (Av X A' μ) pv' v := by
  have hle : ∀ b, Av X A' μ b → Av X (A) μ b := fun b h => h.imp id (hm b)
  have notIn : ∀ id a b, A id = some a → μ id = some b → (∀ a, A' id = some a → a.f = true) → ¬ Av X A' μ b.b := by
    rintro id a b ha hb hf (hx | ⟨id2, rows, g, k, h1, h2, h3⟩)
    · exact hS.out id a b ha hb hx
    · obtain ⟨a0, e1, _⟩ := hA' id2 _ h1
      have := hS.inj id2 id a0 a k b e1 ha h2 hb h3
      subst this
      cases hf _ h1
  intro d
  induction d with
  | zero => intro pv v pv' h; cases h
  | succ d ih =>
    intro pv v pv' h hv hf
    cases pv <;> simp only [fzCell, reduceCtorEq, Option.some.injEq] at h
    case int k m => subst h; cases hv with | fr hv => exact hv.less hle
    case bool b => subst h; cases hv with | fr hv => exact hv.less hle
    case str s => subst h; cases hv with | fr hv => exact hv.less hle
    case raw u =>
      split at h
      · rename_i hu
        cases h
        cases hv with
        | fr hv => exact hv.less hle
        | raw _ => exact .raw _ hu
      · cases h
    case sl rows ex => subst h; cases hv with | fr hv => exact hv.slFalse.less hle
    case cp row => subst h; cases hv with | fr hv => exact hv.less hle
    case msl id off len ex =>
      simp only [rowsIn] at h
      cases hr : rowsAt S id with
      | none => rw [hr] at h; cases h
      | some rows =>
        rw [hr] at h
        simp only [Option.bind_some] at h
        split at h
        · rename_i hle'
          simp only [Option.bind_some] at h
          cases hq : mapO (mapO (fzCell S d)) ((rows.drop off).take len) with
          | none => rw [hq] at h; cases h
          | some rows' =>
            rw [hq] at h
            cases h
            obtain ⟨hlen, hel⟩ := mapO_spec hq
            have hlen' : rows'.length = len := by rw [hlen]; simp; omega
            cases hv with
            | fr hv => cases hv
            | mslNil _ _ a =>
              have : rows' = [] := List.eq_nil_of_length_eq_zero hlen'
              subst this
              exact .sl [] false a 0 default 0 (fun _ _ => Go.undef) (Nat.le_refl _) (by simp) (fun _ => rfl) (fun h => absurd rfl h) (by simp) (by simp) (by simp)
            | msl _ _ _ _ ad cap b hb hlenc htot hex had =>
              obtain ⟨g, f, ha⟩ := rowsAt_some hSA hr hb
              have cellAt : ∀ i row j pv, rows'[i]? = some row → row[j]? = some pv → ∃ u, w.cell? (ad.add (i * b.sz + j)) = some u ∧ FR w (Av X A' μ) pv u ∧ ad.block = b.b := by
                intro i row j pv hi hj
                obtain ⟨row0, h1, h2⟩ := hel i row hi
                obtain ⟨_, hel2⟩ := mapO_spec h2
                obtain ⟨pv0, h3, h4⟩ := hel2 j pv hj
                rw [List.getElem?_take] at h1
                split at h1
                · rename_i hil
                  rw [List.getElem?_drop] at h1
                  obtain ⟨hrl, hcell⟩ := hS.row ha hb h1
                  obtain ⟨u, hu1, hu2, hu3⟩ := hcell j pv0 h3
                  have had' := had (by omega)
                  refine ⟨u, ?_, ih pv0 u pv h4 hu3 (fun k hk => hf k (reach_step d (by simp [PV.refs]) hr h1 h3 k hk)), by rw [had']⟩
                  rw [had', add_plain, ← Nat.add_assoc, ← Nat.add_mul]; exact hu1
                · cases h1
              have key := FR.sl (w := w) (av := Av X A' μ) rows' false (some ad) cap ad b.sz (fun i j => (w.cell? (ad.add (i * b.sz + j))).getD undef) (by omega) (by simp) (by simp) (fun _ => rfl)
                (fun r hr' => by
                  obtain ⟨i, hi⟩ := List.getElem?_of_mem hr'
                  obtain ⟨row0, h1, h2⟩ := hel i r hi
                  rw [(mapO_spec h2).1]
                  rw [List.getElem?_take] at h1
                  split at h1
                  · rw [List.getElem?_drop] at h1; exact (hS.row ha hb h1).1
                  · cases h1)
                (fun i row j pv hi hj => by
                  obtain ⟨u, h1, h2, h3⟩ := cellAt i row j pv hi hj
                  rw [h1, h3]
                  exact ⟨rfl, notIn id _ b ha hb (hf id (reach_in _ (by simp [PV.refs])))⟩)
                (fun i row j pv hi hj => by
                  obtain ⟨u, h1, h2, h3⟩ := cellAt i row j pv hi hj
                  simp only [h1, Option.getD_some]; exact h2)
              rw [hlen'] at key
              exact key
        · cases h
    case mp id i off =>
      cases hr : rowsAt S id with
      | none => rw [hr] at h; cases h
      | some rows =>
        rw [hr] at h
        simp only [Option.bind_some] at h
        split at h
        · rename_i hi
          cases hq : mapO (fzCell S d) ((rows.getD i []).drop off) with
          | none => rw [hq] at h; cases h
          | some row' =>
            rw [hq] at h
            cases h
            obtain ⟨hlen, hel⟩ := mapO_spec hq
            cases hv with
            | fr hv => cases hv
            | mp _ _ _ b hb =>
              obtain ⟨g, f, ha⟩ := rowsAt_some hSA hr hb
              have hrow : rows[i]? = some (rows.getD i []) := by simp [List.getD, List.getElem?_eq_getElem hi]
              obtain ⟨hrl, hcell⟩ := hS.row ha hb hrow
              have cellAt : ∀ j pv, row'[j]? = some pv → ∃ u, w.cell? ((⟨b.b, i * b.sz + off, none⟩ : Addr).add j) = some u ∧ FR w (Av X A' μ) pv u := by
                intro j pv hj
                obtain ⟨pv0, h3, h4⟩ := hel j pv hj
                rw [List.getElem?_drop] at h3
                obtain ⟨u, hu1, hu2, hu3⟩ := hcell _ pv0 h3
                refine ⟨u, by rw [add_plain, Nat.add_assoc]; exact hu1, ih pv0 u pv h4 hu3 (fun k hk => hf k (reach_step d (by simp [PV.refs]) hr hrow h3 k hk))⟩
              refine .cp row' _ (fun j => (w.cell? ((⟨b.b, i * b.sz + off, none⟩ : Addr).add j)).getD undef) (fun j pv hj => ?_) (fun j pv hj => ?_)
              · obtain ⟨u, h1, _⟩ := cellAt j pv hj
                rw [h1]
                exact ⟨rfl, notIn id _ b ha hb (hf id (reach_in _ (by simp [PV.refs])))⟩
              · obtain ⟨u, h1, h2⟩ := cellAt j pv hj
                simp only [h1, Option.getD_some]; exact h2
        · cases h
    case fn f x y =>
      cases x <;> cases y <;> simp only [fzCell, reduceCtorEq, Option.some.injEq] at h
      subst h
      cases hv with
      | fr hv => exact hv.less hle
      | fn _ _ _ u v hx hy rx ry =>
        have e1 : u = #[] := Array.eq_empty_of_size_eq_zero (by simpa using hx.symm)
        have e2 : v = #[] := Array.eq_empty_of_size_eq_zero (by simpa using hy.symm)
        subst e1; subst e2
        exact .fn f
def noMu : Mu := fun _ => none
theorem fzPV1_sound (hS : SR w X A n μ) (hSA : Sees S A μ) {ids : List Nat} {pv pv' : PV} {v : Value} (h : fzPV1 S pv = some pv') (hv : VR w (Av X (A) μ) μ pv v)
    (hf : ∀ id ∈ reach S 8 pv.refs, id ∈ ids) : VR w (Av X (frz (A) ids) μ) noMu pv' v := by
  have key := fzCell_sound hS hSA (A' := frz (A) ids) (fun id a ha => by obtain ⟨a0, e1, e2, e3⟩ := frz_some ha; exact ⟨a0, e1, fun h => (e3 h).1⟩) (fun b hb => hb.frz) 8
  have fz : ∀ id, id ∈ ids → ∀ a, frz (A) ids id = some a → a.f = true := by
    intro id hid a ha
    unfold frz at ha
    cases hA : A id with
    | none => rw [hA] at ha; cases ha
    | some a0 => rw [hA] at ha; simp [hid] at ha; subst ha; rfl
  by_cases hnil : pv = .sl [] true
  · subst hnil
    simp only [fzPV1, Option.some.injEq] at h
    subst h
    cases hv with
    | fr hv =>
      cases hv with
      | sl _ _ a cap ad sz c hcap hex ha had hsz hc hr =>
        exact .fr (.sl [] true a cap ad sz c hcap hex ha (fun h => absurd rfl h) (by simp) (by simp) (by simp))
  cases pv <;> simp only [fzPV1] at h
  case agg cs =>
    cases hq : mapO (fzCell S 8) cs with
    | none => rw [hq] at h; cases h
    | some cs' =>
      rw [hq] at h; cases h
      obtain ⟨h1, h2⟩ := mapO_spec hq
      cases hv with
      | fr hv => cases hv
      | agg _ us hn hfl hr =>
        refine .agg _ us (by omega) hfl (fun j pv v hp hv => ?_)
        obtain ⟨pv0, e1, e2⟩ := h2 j pv hp
        refine .fr (key pv0 v pv e2 (hr j pv0 v e1 hv) (fun k hk => fz k (hf k ?_)))
        exact reach_sub 8 _ _ (fun m hm => by simp only [PV.refs]; exact mem_refsL e1 hm) k hk
  case sl rows ex =>
    have h2 : fzCell S 8 (.sl rows ex) = some pv' := by
      cases rows with
      | nil => cases ex with
        | true => exact absurd rfl hnil
        | false => exact h
      | cons r rs => exact h
    exact .fr (key _ v pv' h2 hv (fun k hk => fz k (hf k hk)))
  all_goals exact .fr (key _ v pv' h hv (fun k hk => fz k (hf k hk)))
theorem fzPV_sound (hS : SR w X A n μ) (hSA : Sees S A μ) {ids : List Nat} {pv pv' : PV} {v : Value} (h : fzPV S pv = some pv') (hv : VR w (Av X (A) μ) μ pv v)
    (hf : ∀ id ∈ reach S 8 pv.refs, id ∈ ids) : VR w (Av X (frz (A) ids) μ) noMu pv' v := by
  cases pv <;> simp only [fzPV] at h
  case tup vs =>
    cases hq : mapO (fzPV1 S) vs with
    | none => rw [hq] at h; cases h
    | some vs' =>
      rw [hq] at h; cases h
      obtain ⟨h1, h2⟩ := mapO_spec hq
      cases hv with
      | fr hv => cases hv
      | tup _ us hn hr =>
        refine .tup _ us (by omega) (fun j pv v hp hv => ?_)
        obtain ⟨pv0, e1, e2⟩ := h2 j pv hp
        exact fzPV1_sound hS hSA e2 (hr j pv0 v e1 hv) (fun k hk => hf k (reach_sub 8 _ _ (fun m hm => by simp only [PV.refs]; exact mem_refsL e1 hm) k hk))
  all_goals exact fzPV1_sound hS hSA h hv hf
end
end Go.Vs
end
section
set_option linter.unusedVariables false
set_option linter.unusedSimpArgs false
namespace Go.Vs
open Go
section
variable {P : Program} {w : World} {X : Nat → Prop} {A : Arrs} {n : Nat} {μ : Mu} {av : Nat → Prop}
theorem cells_rel {pv : PV} {v : Value} (hv : VR w av μ pv v) (hc : pv.cells.all PV.cell = true) : pv.cells.length = v.cells.size ∧
    (∀ (j : Nat) (p : PV) (u : Value), pv.cells[j]? = some p → v.cells[j]? = some u → VR w av μ p u) ∧ ∀ (j : Nat) (u : Value), v.cells[j]? = some u → flat u = true := by
  by_cases ha : ∃ cs, pv = .agg cs
  · obtain ⟨cs, rfl⟩ := ha
    cases hv with
    | fr hv => cases hv
    | agg _ us hn hfl hr => exact ⟨hn, hr, hfl⟩
  · have h1 : pv.cells = [pv] := by
      unfold PV.cells; split
      · rename_i cs; exact absurd ⟨cs, rfl⟩ ha
      · rfl
    rw [h1] at hc ⊢
    simp at hc
    have hfl := hv.flat_of_cell hc
    have h2 : v.cells = #[v] := by cases v <;> first | rfl | cases hfl
    rw [h2]
    refine ⟨rfl, fun j p u hp hu => ?_, fun j u hu => ?_⟩
    · cases j with
      | zero => simp at hp hu; subst hp; subst hu; exact hv
      | succ j => simp at hp
    · cases j with
      | zero => simp at hu; subst hu; exact hfl
      | succ j => simp at hu
theorem VR.mp00 {id : Nat} {b : Blk} (h : μ id = some b) {N : Nat} (hN : b.b = N) : VR w av μ (.mp id 0 0) (.pointer (some ⟨N, 0, none⟩)) := by
  subst hN
  have := VR.mp (w := w) (av := av) (μ := μ) id 0 0 b h
  simpa using this
theorem box_sound (hS : SR w X A n μ) {nid n' : Nat} (hA : A nid = none) (hμ : μ nid = none) (hn : nid < n') (hnn : n ≤ n') {base : Nat} (hb : base ≤ nid) {el : TypeId} {pv : PV} {v : Value}
    (hv : VR w (Av X A μ) μ pv v) (hc : pv.cells.all PV.cell = true) : ∃ w' μ', (Instr.box el v).run P w = .ok (.pointer (some ⟨w.heap.size, 0, none⟩)) w' ∧
      SR w' X (upd A nid ⟨[pv.cells], none, false⟩) n' μ' ∧ Tr base w A μ w' (upd A nid ⟨[pv.cells], none, false⟩) μ' ∧ (∀ i, i ≠ nid → μ' i = μ i) ∧
      VR w' (Av X (upd A nid ⟨[pv.cells], none, false⟩) μ') μ' (.mp nid 0 0) (.pointer (some ⟨w.heap.size, 0, none⟩)) := by
  obtain ⟨h1, h2, h3⟩ := cells_rel hv hc
  obtain ⟨k1, k2, k3⟩ := hS.new hA hμ hn hnn (rows := [pv.cells]) (g := none) (cells := v.cells) (el := el) (sz := pv.cells.length) (by simp) (by simp) (by simp; omega)
    (fun i row j p hi hj => by
      cases i with
      | succ i => simp at hi
      | zero =>
        simp at hi; subst hi
        have hlt := (List.getElem?_eq_some_iff.1 hj).1
        have hu : v.cells[j]? = some (v.cells[j]'(by omega)) := Array.getElem?_eq_getElem (by omega)
        exact ⟨_, by simp, h3 j _ hu, h2 j p _ hj hu⟩) hb
  refine ⟨_, _, ?_, k1, k2, k3, ?_⟩
  · simp [Instr.box, newVar, newRow]
  · exact VR.mp00 (upd_same μ nid _) rfl
theorem zero_spec {t : TypeId} {z : List PV} (h : (tyi P t).zero = some z) : ∃ i v, P.info? t = some i ∧ i.zero = some v ∧ z = (ofConst v).cells := by
  have h' : ((P.info? t).bind (·.zero)).map (fun v => (ofConst v).cells) = some z := h
  cases hi : P.info? t with
  | none => rw [hi] at h'; simp at h'
  | some i =>
    rw [hi] at h'
    simp only [Option.bind_some] at h'
    cases hz : i.zero with
    | none => rw [hz] at h'; cases h'
    | some v => rw [hz] at h'; simp at h'; exact ⟨i, v, rfl, hz, h'.symm⟩
theorem zero_isSome {t : TypeId} (h : (tyi P t).zero.isSome = true) : ∃ i v, P.info? t = some i ∧ i.zero = some v := by
  obtain ⟨z, hz⟩ := Option.isSome_iff_exists.1 h
  obtain ⟨i, v, h1, h2, _⟩ := zero_spec hz
  exact ⟨i, v, h1, h2⟩
theorem info_size {t : TypeId} {i : TypeInfo} (h : P.info? t = some i) : i.size = (tyi P t).size ∧ i.bytes = (tyi P t).bytes := by simp [tyi, Program.cellsOf, Program.bytesOf, h]
theorem alloc_sound (hS : SR w X A n μ) {nid n' : Nat} (hA : A nid = none) (hμ : μ nid = none) (hn : nid < n') (hnn : n ≤ n') {base : Nat} (hb : base ≤ nid) {el : TypeId} {z : List PV} (old : Value)
    (hz : (tyi P el).zero = some z) (hc : z.all PV.cell = true) : ∃ w' μ', (Instr.alloc el true old).run P w = .ok (.pointer (some ⟨w.heap.size, 0, none⟩)) w' ∧
      SR w' X (upd A nid ⟨[z], none, false⟩) n' μ' ∧ Tr base w A μ w' (upd A nid ⟨[z], none, false⟩) μ' ∧ (∀ i, i ≠ nid → μ' i = μ i) ∧
      VR w' (Av X (upd A nid ⟨[z], none, false⟩) μ') μ' (.mp nid 0 0) (.pointer (some ⟨w.heap.size, 0, none⟩)) := by
  obtain ⟨i, v, h1, h2, rfl⟩ := zero_spec hz
  obtain ⟨w', μ', k1, k2, k3, k4, k5⟩ := box_sound (P := P) hS hA hμ hn hnn hb (el := el) (ofConst_sound v) hc
  refine ⟨w', μ', ?_, k2, k3, k4, k5⟩
  rw [← k1]
  simp [Instr.alloc, Instr.box, zeroValue, typeInfo, h1, h2]
theorem fillAll_sound {fs : List (Nat × Nat × Bool)} {ρ : Operand → PV} {σ : Operand → Value} (hρ : ∀ x, VR w av μ (ρ x) (σ x)) (places : Nat → Option (Nat × Nat)) (hp : ∀ i o k g, fs[i]? = some (o, k, g) → places i = some (o, k)) :
    ∀ (parts : List (Nat × Operand)) (cs : List PV) (us : Array Value) (r : List PV), fillAll fs ρ cs parts = some r → cs.length = us.size → (∀ (j : Nat) (p : PV) (u : Value), cs[j]? = some p → us[j]? = some u → VR w av μ p u) → (∀ (j : Nat) (u : Value), us[j]? = some u → flat u = true) →
    ∃ us', Instr.fill places us (parts.map fun x => (x.1, σ x.2)) = some us' ∧ r.length = us'.size ∧ (∀ (j : Nat) (p : PV) (u : Value), r[j]? = some p → us'[j]? = some u → VR w av μ p u) ∧ (∀ (j : Nat) (u : Value), us'[j]? = some u → flat u = true) := by
  intro parts
  induction parts with
  | nil => intro cs us r h h1 h2 h3; simp [fillAll] at h; subst h; exact ⟨us, rfl, h1, h2, h3⟩
  | cons q parts ih =>
    obtain ⟨i, x⟩ := q
    intro cs us r h h1 h2 h3
    simp only [fillAll] at h
    cases hf : fs[i]? with
    | none => rw [hf] at h; cases h
    | some y =>
      obtain ⟨o, k, g⟩ := y
      rw [hf] at h
      simp only at h
      split at h
      · rename_i hc
        obtain ⟨c1, c2, c3⟩ := hc
        obtain ⟨e1, e2, e3⟩ := cells_rel (hρ x) c2
        obtain ⟨f1, f2⟩ := Great.foldl_set o (σ x).cells.toList 0 us
        have hlen : (cs.take o ++ (ρ x).cells ++ cs.drop (o + k)).length = cs.length := by simp; omega
        obtain ⟨us', g1, g2, g3, g4⟩ := ih _ (((σ x).cells.toList.zipIdx 0).foldl (fun cs (x : Value × Nat) => cs.setIfInBounds (o + x.2) x.1) us) r h (by rw [hlen, f1, h1])
          (fun j p u hp' hu => by
            rw [f2 j] at hu
            have hjl := (List.getElem?_eq_some_iff.1 hp').1
            rw [hlen] at hjl
            by_cases hin : o ≤ j ∧ j < o + k
            · rw [if_pos (by simp; omega)] at hu
              rw [List.append_assoc, List.getElem?_append_right (by simp; omega), List.getElem?_append_left (by simp; omega)] at hp'
              have hm : min o cs.length = o := by omega
              simp only [List.length_take, hm] at hp'
              simp only [Nat.add_zero, Array.getElem?_toList] at hu
              exact e2 _ p u hp' hu
            · rw [if_neg (by simp; omega)] at hu
              refine h2 j p u ?_ hu
              by_cases hlo : j < o
              · rw [List.append_assoc, List.getElem?_append_left (by simp; omega), List.getElem?_take_of_lt hlo] at hp'; exact hp'
              · rw [List.getElem?_append_right (by simp; omega), List.getElem?_drop] at hp'
                rw [← hp']; congr 1
                simp only [List.length_append, List.length_take]; omega)
          (fun j u hu => by
            rw [f2 j] at hu
            split at hu
            · rw [Array.getElem?_toList] at hu; exact e3 _ u hu
            · exact h3 j u hu)
        refine ⟨us', ?_, g2, g3, g4⟩
        simp only [List.map_cons, Instr.fill, hp i o k g hf]
        have hk : (σ x).cells.size = k := by omega
        have ho : ¬ (o + (σ x).cells.size > us.size) := by omega
        rw [if_neg (by simp only [hk]; simp only [hk] at ho; simp [ho]), ← g1, ← Array.foldl_toList, Array.toList_zipIdx]
      · cases h
end
end Go.Vs
end
section
set_option linter.unusedVariables false
set_option linter.unusedSimpArgs false
namespace Go.Vs
open Go
section
variable {P : Program} {w : World} {X : Nat → Prop} {A : Arrs} {n : Nat} {μ : Mu} {av : Nat → Prop}
theorem places_ok {gs : List Field} (h : ∀ f ∈ gs, sizeK P f.type ≠ 0) : gs.mapM (fun f => (P.info? f.type).map fun i => (f.offset, i.size)) = some (gs.map fun f => (f.offset, sizeK P f.type)) := by
  induction gs with
  | nil => rfl
  | cons f r ih =>
    obtain ⟨d, i, _, hi, hs⟩ := sizeK_ne (h f (by simp))
    simp [List.mapM_cons, hi, ih (fun g hg => h g (by simp [hg])), hs]
theorem build_sound {t : TypeId} {fs : List (Nat × Nat × Bool)} (hd : (tyi P t).d = .struct fs) {z : List PV} (hz : (tyi P t).zero = some z) (hc : z.all PV.cell = true) (hfs : (fs.all fun x => decide (x.2.1 ≠ 0)) = true)
    {ρ : Operand → PV} {σ : Operand → Value} (hρ : ∀ x, VR w av μ (ρ x) (σ x)) {parts : Array (Nat × Operand)} {cs : List PV} (h : fillAll fs ρ z parts.toList = some cs) :
    ∃ u, (Instr.build t (parts.map fun (i, x) => (i, σ x))).run P w = .ok u w ∧ VR w av μ (.agg cs) u := by
  obtain ⟨gs, hu, rfl⟩ := tyi_struct hd
  obtain ⟨i, v, hi, hzv, rfl⟩ := zero_spec hz
  obtain ⟨h1, h2, h3⟩ := cells_rel (w := w) (av := av) (μ := μ) (ofConst_sound v) hc
  have hgs : ∀ f ∈ gs.toList, sizeK P f.type ≠ 0 := fun f hf => by
    rw [List.all_eq_true] at hfs
    have := hfs _ (List.mem_map.2 ⟨f, hf, rfl⟩)
    simpa using this
  obtain ⟨us', k1, k2, k3, k4⟩ := fillAll_sound hρ (fun i => (gs.toList.map fun f => (f.offset, sizeK P f.type)).toArray[i]?) (fun i o k g hf => by
    rw [List.getElem?_map] at hf
    cases hg : gs.toList[i]? with
    | none => rw [hg] at hf; cases hf
    | some f => rw [hg] at hf; simp at hf; obtain ⟨rfl, rfl, rfl⟩ := hf; simp only [List.getElem?_toArray, List.getElem?_map, hg, Option.map_some]) parts.toList _ v.cells cs h h1 h2 h3
  refine ⟨.agg us', run_build w t _ us' ?_, .agg _ _ k2 k4 k3⟩
  unfold Program.built
  simp only [hi, hu, hzv, places_ok hgs]
  rw [← k1, Array.toList_map]
theorem flatMap_get {α : Type} {s : Nat} {vs : List α} {f : α → List Value} (h : ∀ v ∈ vs, (f v).length = s) {i j : Nat} {v : α} (hi : vs[i]? = some v) (hj : j < s) : (vs.flatMap f)[i * s + j]? = (f v)[j]? := by
  induction vs generalizing i with
  | nil => simp at hi
  | cons x r ih =>
    have hx := h x (by simp)
    simp only [List.flatMap_cons]
    cases i with
    | zero => simp at hi; subst hi; rw [List.getElem?_append_left (by omega)]; simp
    | succ i =>
      simp at hi
      rw [List.getElem?_append_right (by rw [hx, Nat.add_mul]; omega), hx, show (i + 1) * s + j - s = i * s + j by rw [Nat.add_mul]; omega]
      exact ih (fun v hv => h v (by simp [hv])) hi
theorem flatMap_len {α : Type} {s : Nat} {vs : List α} {f : α → List Value} (h : ∀ v ∈ vs, (f v).length = s) : (vs.flatMap f).length = vs.length * s := by
  induction vs with
  | nil => simp
  | cons x r ih =>
    simp only [List.flatMap_cons, List.length_append, h x (by simp), ih (fun v hv => h v (by simp [hv])), List.length_cons, Nat.add_mul]; omega
theorem zipIdx_of_fst {α : Type} {l : List (Nat × α)} (h : l.map (·.1) = List.range l.length) : l = ((l.map (·.2)).zipIdx 0).map fun x => (x.2, x.1) := by
  apply List.ext_getElem?
  intro i
  simp only [List.getElem?_map, List.getElem?_zipIdx]
  cases hi : l[i]? with
  | none => simp
  | some x =>
    have := congrArg (fun m => m[i]?) h
    simp only [List.getElem?_map, hi, Option.map_some] at this
    have hl := (List.getElem?_eq_some_iff.1 hi).1
    rw [List.getElem?_range hl] at this
    simp at this
    simp [← this]
theorem buildSlice_sound (hS : SR w X A n μ) {nid n' : Nat} (hA : A nid = none) (hμ : μ nid = none) (hn : nid < n') (hnn : n ≤ n') {base : Nat} (hb : base ≤ nid) {t el : TypeId} {len : Nat} {parts : Array (Nat × Operand)}
    {ρ : Operand → PV} {σ : Operand → Value} (hρ : ∀ x, VR w (Av X A μ) μ (ρ x) (σ x)) (hd : (tyi P t).d = .slice el)
    (h : parts.toList.map (·.1) = List.range len ∧ rowsOK (tyi P el).size (parts.toList.map fun x => (ρ x.2).cells) = true ∧ ((parts.toList.map fun x => (ρ x.2).cells).all fun r => r.all PV.cell) = true ∧ len * (tyi P el).size ≤ 16777216 ∧ 0 < (tyi P el).size ∧ (tyi P el).zero.isSome = true) :
    ∃ v w' μ', (Instr.buildSlice t len (parts.map fun (i, x) => (i, σ x))).run P w = .ok v w' ∧
      SR w' X (upd A nid ⟨parts.toList.map fun x => (ρ x.2).cells, some (some (tyi P el).size), false⟩) n' μ' ∧ Tr base w A μ w' (upd A nid ⟨parts.toList.map fun x => (ρ x.2).cells, some (some (tyi P el).size), false⟩) μ' ∧ (∀ i, i ≠ nid → μ' i = μ i) ∧
      VR w' (Av X (upd A nid ⟨parts.toList.map fun x => (ρ x.2).cells, some (some (tyi P el).size), false⟩) μ') μ' (.msl nid 0 len true) v := by
  obtain ⟨h1, h2, h3, h4, h5, h6⟩ := h
  obtain ⟨ie, z, hie, hz⟩ := zero_isSome h6
  have hs := (info_size hie).1
  have hlen : parts.toList.length = len := by have := congrArg List.length h1; simpa using this
  have hrow : ∀ x ∈ parts.toList, (ρ x.2).cells.length = ie.size ∧ (ρ x.2).cells.all PV.cell = true := fun x hx => by
    rw [hs]
    refine ⟨rowsOK_spec h2 _ (List.mem_map.2 ⟨x, hx, rfl⟩), ?_⟩
    rw [List.all_eq_true] at h3
    exact h3 _ (List.mem_map.2 ⟨x, hx, rfl⟩)
  have hsz : ∀ x ∈ parts.toList, (σ x.2).cells.size = ie.size := fun x hx => by rw [← (cells_rel (hρ x.2) (hrow x hx).2).1, (hrow x hx).1]
  have hvs : (parts.map fun (i, x) => (i, σ x)).toList = ((parts.toList.map fun x => σ x.2).zipIdx 0).map fun x => (x.2, x.1) := by
    rw [Array.toList_map]
    have := zipIdx_of_fst (l := parts.toList.map fun (i, x) => (i, σ x)) (by simp only [List.map_map, List.length_map, hlen, ← h1]; rfl)
    rw [this]; simp only [List.map_map]; rfl
  have hpos : ∀ k, k < len * ie.size → True := fun _ _ => trivial
  by_cases hl0 : len = 0
  ·
    subst hl0
    have hp : parts = #[] := by
      apply Array.eq_empty_of_size_eq_zero
      rw [← Array.length_toList]; exact hlen
    subst hp
    obtain ⟨k1, k2, k3⟩ := hS.new hA hμ hn hnn (rows := []) (g := some (some (tyi P el).size)) (cells := #[]) (el := el) (sz := (tyi P el).size) (by simp) (by simp) (by simp) (by simp) hb
    refine ⟨.slice (some ⟨w.heap.size, 0, none⟩) 0 0, _, _, ?_, k1, k2, k3, .mslNil _ _ _⟩
    have hu := tyi_slice hd
    simp [Instr.buildSlice, run_underlying hu, run_sizeOf' hie, Instr.fill, newRow, Array.range_zero']
  · have hf := Great.fill_whole (s := ie.size) (by omega) (parts.toList.map fun x => σ x.2) ((Array.range (len * ie.size)).map (z.cells[· % z.cells.size]!)) (fun v hv => by
      obtain ⟨x, hx, rfl⟩ := List.mem_map.1 hv; exact hsz x hx) (by simp [hlen])
    have hrun := run_buildSlice w t el len (parts.map fun (i, x) => (i, σ x)) _ ie z (tyi_slice hd) hie hz (by rw [hs]; omega) (by rw [hs]; exact Nat.ne_of_gt (Nat.mul_pos (by omega) h5)) (by rw [hvs]; exact hf)
    have hfl : ∀ v ∈ (parts.toList.map fun x => σ x.2), v.cells.toList.length = ie.size := fun v hv => by
      obtain ⟨x, hx, rfl⟩ := List.mem_map.1 hv; rw [Array.length_toList]; exact hsz x hx
    have hsize : ((parts.toList.map fun x => σ x.2).flatMap fun v => v.cells.toList).toArray.size = len * ie.size := by
      rw [List.size_toArray, flatMap_len hfl]; simp [hlen]
    obtain ⟨k1, k2, k3⟩ := hS.new hA hμ hn hnn (rows := parts.toList.map fun x => (ρ x.2).cells) (g := some (some (tyi P el).size)) (cells := ((parts.toList.map fun x => σ x.2).flatMap fun v => v.cells.toList).toArray) (el := el) (sz := ie.size) (by simp [hs])
      (fun r hr => by obtain ⟨x, hx, rfl⟩ := List.mem_map.1 hr; exact (hrow x hx).1) (by rw [hsize]; simp [hlen])
      (fun i row j pv hi hj => by
        rw [List.getElem?_map] at hi
        cases hx : parts.toList[i]? with
        | none => rw [hx] at hi; cases hi
        | some x =>
          rw [hx] at hi; simp at hi; subst hi
          have hmem := List.mem_of_getElem? hx
          obtain ⟨e1, e2, e3⟩ := cells_rel (hρ x.2) (hrow x hmem).2
          have hjl := (List.getElem?_eq_some_iff.1 hj).1
          rw [(hrow x hmem).1] at hjl
          have hu : (σ x.2).cells[j]? = some ((σ x.2).cells[j]'(by rw [hsz x hmem]; exact hjl)) := Array.getElem?_eq_getElem _
          refine ⟨_, ?_, e3 j _ hu, e2 j pv _ hj hu⟩
          rw [List.getElem?_toArray, flatMap_get hfl (v := σ x.2) (by rw [List.getElem?_map, hx]; rfl) hjl, Array.getElem?_toList]; exact hu) hb
    refine ⟨_, _, _, hrun, k1, k2, k3, ?_⟩
    refine .msl nid 0 len true _ len _ (upd_same μ nid _) (Nat.le_refl _) (by simp only [Nat.zero_add, hsize]; exact Nat.le_refl _) (fun _ => rfl) (fun _ => by simp)
theorem madeCells_get {z : Array Value} {k i j : Nat} (hz : 0 < z.size) (hj : j < z.size) (hi : i * z.size + j < k) : (madeCells z k)[i * z.size + j]? = z[j]? := by
  unfold madeCells
  rw [Array.getElem?_map, Array.getElem?_range, if_pos hi]
  have : (i * z.size + j) % z.size = j := by rw [Nat.mul_add_mod_of_lt hj]
  simp [this, hj]
theorem makeSlice_sound (hS : SR w X A n μ) {nid n' : Nat} (hA : A nid = none) (hμ : μ nid = none) (hn : nid < n') (hnn : n ≤ n') {base : Nat} (hb : base ≤ nid) {t el : TypeId} (hd : (tyi P t).d = .slice el)
    {kl km : IntKind} {l m : Int} {z : List PV} (hz : (tyi P el).zero = some z)
    (h : 0 ≤ l ∧ l ≤ m ∧ (tyi P el).bytes * m ≤ 281474976710656 ∧ m ≤ 9223372036854775807 ∧ z.length = (tyi P el).size ∧ z.all PV.cell = true) :
    ∃ v w' μ', (Instr.makeSlice t (.int kl l) (.int km m)).run P w = .ok v w' ∧
      SR w' X (upd A nid ⟨List.replicate l.toNat z, some (some (tyi P el).size), false⟩) n' μ' ∧ Tr base w A μ w' (upd A nid ⟨List.replicate l.toNat z, some (some (tyi P el).size), false⟩) μ' ∧ (∀ i, i ≠ nid → μ' i = μ i) ∧
      VR w' (Av X (upd A nid ⟨List.replicate l.toNat z, some (some (tyi P el).size), false⟩) μ') μ' (.msl nid 0 l.toNat (decide (l = m))) v := by
  obtain ⟨h1, h2, h3, h4, h5, h6⟩ := h
  obtain ⟨i, v, hi, hzv, rfl⟩ := zero_spec hz
  obtain ⟨e1, e2, e3⟩ := cells_rel (w := w) (av := Av X A μ) (μ := μ) (ofConst_sound v) h6
  obtain ⟨s1, s2⟩ := info_size hi
  have hrun := run_make (P := P) w t el i v (tyi_slice hd) hi hzv kl km l m h1 h2 (by rw [s2]; exact h3) h4
  have hzs : v.cells.size = i.size := by omega
  have hsize := size_madeCells v.cells (m.toNat * i.size)
  obtain ⟨k1, k2, k3⟩ := hS.new hA hμ hn hnn (rows := List.replicate l.toNat (ofConst v).cells) (g := some (some (tyi P el).size)) (cells := madeCells v.cells (m.toNat * i.size)) (el := el) (sz := i.size) (by simp [s1])
    (fun r hr => by rw [(List.mem_replicate.1 hr).2]; omega) (by rw [hsize, List.length_replicate]; exact Nat.mul_le_mul_right _ (by omega))
    (fun a row j pv ha hj => by
      rw [List.getElem?_replicate] at ha
      split at ha
      · rename_i hal
        simp at ha; subst ha
        have hjl := (List.getElem?_eq_some_iff.1 hj).1
        have hjs : j < v.cells.size := by omega
        have hu : v.cells[j]? = some (v.cells[j]'hjs) := Array.getElem?_eq_getElem _
        refine ⟨v.cells[j]'hjs, ?_, e3 j _ hu, e2 j pv _ hj hu⟩
        have hlt : a * v.cells.size + j < m.toNat * i.size := by
          rw [hzs]
          have : (a + 1) * i.size ≤ m.toNat * i.size := Nat.mul_le_mul_right _ (by omega)
          rw [Nat.add_mul] at this; omega
        rw [← hzs, madeCells_get (by omega) hjs (by rw [hzs] at hlt ⊢; exact hlt)]
        exact hu
      · cases ha) hb
  refine ⟨_, _, _, hrun, k1, k2, k3, ?_⟩
  exact .msl nid 0 l.toNat _ _ m.toNat _ (upd_same μ nid _) (by omega) (by simp only [Nat.zero_add, hsize]; exact Nat.le_refl _) (fun hx => by simp at hx; omega) (fun _ => by simp)
variable {S : Store}
theorem src_sound0 (hS : SR w X A n μ) (hSA : Sees S A μ) {t : TypeId} (ht : (∃ e', P.underlying t = some (.slice e')) ∨ P.underlying t = some .string) {y : PV} {v : Value} (hv : VR w (Av X (A) μ) μ y v) {new : List (List PV)} (hy : rowsIn S y = some new) {sz : Nat} (hok : rowsOK sz new = true) :
    ∃ news : List Value, Src P sz t v new.length news w ∧ (∀ i row j pv, new[i]? = some row → row[j]? = some pv → ∃ u, news[i * sz + j]? = some u ∧ flat u = true ∧ VR w (Av X (A) μ) μ pv u) := by
  have key : ∀ (a : Option Addr) (ad : Addr) (cap : Nat), (new ≠ [] → a = some ad) → (a = none → new = []) → (∀ i row j pv, new[i]? = some row → row[j]? = some pv → ∃ u, w.cell? (ad.add (i * sz + j)) = some u ∧ flat u = true ∧ VR w (Av X (A) μ) μ pv u) →
      ∃ news : List Value, Src P sz t (.slice a new.length cap) new.length news w ∧ (∀ i row j pv, new[i]? = some row → row[j]? = some pv → ∃ u, news[i * sz + j]? = some u ∧ flat u = true ∧ VR w (Av X (A) μ) μ pv u) := by
    intro a ad cap h1 h2 h3
    cases a with
    | none =>
      have := h2 rfl
      subst this
      exact ⟨[], ⟨ht, fun _ => rfl, run_firstCells_none w sz 0 0 cap, run_firstCells_none w.drew sz 0 0 cap, by simp, fun _ h => by cases h⟩, by simp⟩
    | some a =>
      have hcell : ∀ k, k < new.length * sz → ∃ u, w.cell? (a.add k) = some u ∧ flat u = true := by
        intro k hk
        have hsz : 0 < sz := by rcases Nat.eq_zero_or_pos sz with h | h; · subst h; simp at hk
                                · exact h
        have hq : k / sz < new.length := by rw [Nat.div_lt_iff_lt_mul hsz]; exact hk
        have hne : new ≠ [] := by intro h0; subst h0; simp at hk
        have had : a = ad := by simpa using h1 hne
        have hrow : new[k / sz]? = some (new[k / sz]'hq) := List.getElem?_eq_getElem hq
        have hrl := rowsOK_spec hok _ (List.mem_of_getElem? hrow)
        have hj : k % sz < (new[k / sz]'hq).length := by rw [hrl]; exact Nat.mod_lt _ hsz
        obtain ⟨u, hu, hf, _⟩ := h3 (k / sz) _ (k % sz) _ hrow (List.getElem?_eq_getElem hj)
        rw [had]
        have e : k / sz * sz + k % sz = k := by rw [Nat.mul_comm]; exact Nat.div_add_mod k sz
        rw [e] at hu
        exact ⟨u, hu, hf⟩
      refine ⟨(List.range (new.length * sz)).map fun k => (w.cell? (a.add k)).getD undef, (fun hl h1 h2 => ⟨ht, fun _ => rfl, run_firstCells_some w sz new.length a new.length cap _ hl h1, run_firstCells_some w.drew sz new.length a new.length cap _ hl (by simpa using h1), hl, h2⟩ : ∀ (hl : ((List.range (new.length * sz)).map fun k => (w.cell? (a.add k)).getD undef).length = new.length * sz), _ → _ → Src P sz t (.slice (some a) new.length cap) new.length _ w) (by simp) (fun j u hu => ?_) (fun u hu => ?_), fun i row j pv hi hj => ?_⟩
      · rw [List.getElem?_map] at hu
        by_cases hjl : j < new.length * sz
        · rw [List.getElem?_range hjl] at hu
          obtain ⟨q, hq, _⟩ := hcell j hjl
          simp [hq] at hu; subst hu; exact hq
        · rw [List.getElem?_eq_none (by simpa using hjl)] at hu; cases hu
      · obtain ⟨k, hk, rfl⟩ := List.mem_map.1 hu
        obtain ⟨q, hq, hf⟩ := hcell k (List.mem_range.1 hk)
        rw [hq]; exact flat_oneCell hf
      · obtain ⟨u, hu, hf, hr⟩ := h3 i row j pv hi hj
        have hne : new ≠ [] := by intro h0; subst h0; simp at hi
        have had : a = ad := by simpa using h1 hne
        have hil := (List.getElem?_eq_some_iff.1 hi).1
        have hjl := (List.getElem?_eq_some_iff.1 hj).1
        rw [rowsOK_spec hok _ (List.mem_of_getElem? hi)] at hjl
        have hlt : i * sz + j < new.length * sz := by
          have : (i + 1) * sz ≤ new.length * sz := Nat.mul_le_mul_right _ (by omega)
          rw [Nat.add_mul] at this; omega
        refine ⟨u, ?_, hf, hr⟩
        rw [List.getElem?_map, List.getElem?_range hlt]
        simp [had, hu]
  cases y <;> simp only [rowsIn, reduceCtorEq, Option.some.injEq] at hy
  case sl rows ex =>
    subst hy
    cases hv with | fr hv =>
    cases hv with | sl _ _ a cap ad s c hcap hex ha had hsz hc hr =>
    refine key a ad cap had (fun h => List.eq_nil_of_length_eq_zero (by have := ha h; omega)) (fun i row j pv hi hj => ?_)
    have e : s = sz := by rw [← hsz _ (List.mem_of_getElem? hi)]; exact rowsOK_spec hok _ (List.mem_of_getElem? hi)
    have := hc i row j pv hi hj
    rw [e] at this
    exact ⟨_, this.1, FR.flat _ _ (hr i row j pv hi hj), .fr (hr i row j pv hi hj)⟩
  case msl id off len ex =>
    cases hr : rowsAt S id with
    | none => rw [hr] at hy; cases hy
    | some rows =>
      rw [hr] at hy
      simp only [Option.bind_some] at hy
      split at hy
      · rename_i hle
        simp at hy
        have hlen : new.length = len := by rw [← hy]; simp; omega
        cases hv with
        | fr hv => cases hv
        | mslNil _ _ a =>
          have hnew : new = [] := List.eq_nil_of_length_eq_zero hlen
          subst hnew
          exact key a default 0 (fun h => absurd rfl h) (fun _ => rfl) (by simp)
        | msl _ _ _ _ ad cap b hb hlenc htot hex had =>
          obtain ⟨g, f, ha⟩ := rowsAt_some hSA hr hb
          have k := key (some ad) ad cap (fun _ => rfl) (by simp) (fun i row j pv hi hj => by
            rw [← hy, List.getElem?_take] at hi
            split at hi
            · rename_i hil
              rw [List.getElem?_drop] at hi
              obtain ⟨h1, h2⟩ := hS.row ha hb hi
              obtain ⟨u, hu1, hu2, hu3⟩ := h2 j pv hj
              have hbs : b.sz = sz := by
                rw [← h1]
                refine rowsOK_spec hok _ ?_
                rw [← hy]
                refine List.mem_of_getElem? (i := i) ?_
                rw [List.getElem?_take_of_lt hil, List.getElem?_drop]; exact hi
              refine ⟨u, ?_, hu2, hu3⟩
              rw [had (by omega), add_plain, ← hbs, ← Nat.add_assoc, ← Nat.add_mul]; exact hu1
            · cases hi)
          rw [hlen] at k ⊢
          exact k
      · cases hy
theorem src_sound (hS : SR w X A n μ) (hSA : Sees S A μ) {t e' : TypeId} (ht : P.underlying t = some (.slice e')) {y : PV} {v : Value} (hv : VR w (Av X (A) μ) μ y v) {new : List (List PV)} (hy : rowsIn S y = some new) {sz : Nat} (hok : rowsOK sz new = true) :
    ∃ news : List Value, Src P sz t v new.length news w ∧ (∀ i row j pv, new[i]? = some row → row[j]? = some pv → ∃ u, news[i * sz + j]? = some u ∧ flat u = true ∧ VR w (Av X (A) μ) μ pv u) := src_sound0 hS hSA (.inl ⟨e', ht⟩) hv hy hok
theorem srcS_sound (hS : SR w X A n μ) (hSA : Sees S A μ) {t : TypeId} (ht : srcT (tyi P t).d = true) {y : PV} {v : Value} (hv : VR w (Av X (A) μ) μ y v) {new : List (List PV)} (hy : rowsS S y = some new) {sz : Nat} (hok : rowsOK sz new = true) :
    ∃ news : List Value, Src P sz t v new.length news w ∧ (∀ i row j pv, new[i]? = some row → row[j]? = some pv → ∃ u, news[i * sz + j]? = some u ∧ flat u = true ∧ VR w (Av X (A) μ) μ pv u) := by
  have hk : (∃ e', P.underlying t = some (.slice e')) ∨ P.underlying t = some .string := by
    unfold srcT at ht
    split at ht
    · rename_i e hd; exact .inl ⟨e, tyi_slice hd⟩
    · rename_i hd; exact .inr (tyi_str hd)
    · cases ht
  cases y
  case str s =>
    simp only [rowsS, Option.some.injEq] at hy
    subst hy
    obtain rfl := hv.str_inv
    have hl : (strRows s).length = s.size := by unfold strRows; rw [List.length_map, Array.length_toList]; rfl
    by_cases h0 : s.size = 0
    · have hb : s.data.toList = [] := List.eq_nil_of_length_eq_zero (by rw [Array.length_toList]; exact h0)
      have hr : strRows s = [] := by simp [strRows, hb]
      have hb2 : s = ByteArray.empty := by
        obtain ⟨d⟩ := s
        have : d = #[] := by simpa using hb
        rw [this]; rfl
      subst hb2
      rw [hr]
      exact ⟨[], ⟨hk, fun _ => rfl, by simp [Builtin.firstCells], by simp [Builtin.firstCells], by simp, fun _ h => by cases h⟩, by simp⟩
    · have h1 : sz = 1 := by
        have : ∃ r, r ∈ strRows s := List.exists_mem_of_length_pos (by omega)
        obtain ⟨r, hr⟩ := this
        have e := rowsOK_spec hok r hr
        simp only [strRows, List.mem_map] at hr
        obtain ⟨b, _, rfl⟩ := hr
        simpa using e.symm
      subst h1
      rw [hl]
      refine ⟨byteCells s, ⟨hk, fun _ => rfl, firstCells_string s w, firstCells_string s w.drew, by unfold byteCells; rw [List.length_map, Array.length_toList, Nat.mul_one]; rfl, ?_⟩, ?_⟩
      · intro u hu
        simp only [byteCells, List.mem_map] at hu
        obtain ⟨b, _, rfl⟩ := hu
        rfl
      · intro i row j pv hi hj
        simp only [strRows, List.getElem?_map, Option.map_eq_some_iff] at hi
        obtain ⟨b, hb, rfl⟩ := hi
        cases j with
        | zero =>
          cases hj
          exact ⟨.int .u8 b.toNat, by simp [byteCells, hb], rfl, .i⟩
        | succ j => simp at hj
  all_goals exact src_sound0 hS hSA hk hv hy hok
end
end Go.Vs
end

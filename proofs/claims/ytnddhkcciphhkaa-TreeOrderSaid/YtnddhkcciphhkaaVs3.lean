/- How pure values and the store stand for the machine's values and memory; that this lives on while the machine writes elsewhere. -/
import Derived.Test.YtnddhkcciphhkaaVs1
set_option linter.unusedVariables false
set_option linter.unusedSimpArgs false
namespace Go.Vs
open Go

theorem add_add (a : Addr) (m n : Nat) : (a.add m).add n = a.add (m + n) := by
  unfold Addr.add
  by_cases hm : m = 0
  · subst hm; simp
  · by_cases hn : n = 0
    · subst hn; simp
    · simp [hm, hn, Nat.add_assoc]
theorem add_plain (g o j : Nat) : (⟨g, o, none⟩ : Addr).add j = ⟨g, o + j, none⟩ := by
  unfold Addr.add; split <;> simp_all
theorem add_block (a : Addr) (n : Nat) : (a.add n).block = a.block := by unfold Addr.add; split <;> rfl

/-- Where an array lies: its block, an element's cells, the block's cells. -/
structure Blk where
  b : Nat
  sz : Nat
  tot : Nat
abbrev Mu := Nat → Option Blk
/-- An array of the store: its rows, may it grow, is it frozen. -/
structure Arr where
  rows : List (List PV)
  g : Option (Option Nat)
  f : Bool
abbrev Arrs := Nat → Option Arr
def arrs (S : Store) : Arrs := fun id => match S[id]? with
  | some (.arr rows g f) => some ⟨rows, g, f⟩
  | _ => none

section
variable (w : World) (av : Nat → Prop)
/-- A value in memory that is never written again (outside of the blocks `av`). -/
inductive FR : PV → Value → Prop
  | int (k : IntKind) (n : Int) : FR (.int k n) (.int k n)
  | bool (b : Bool) : FR (.bool b) (.bool b)
  | str (s : ByteArray) : FR (.str s) (.string s)
  | raw (v : Value) (h : flat v = true) : FR (.raw v) v
  | sl (rows : List (List PV)) (ex : Bool) (a : Option Addr) (cap : Nat) (ad : Addr) (sz : Nat) (c : Nat → Nat → Value)
      (hcap : rows.length ≤ cap) (hex : ex = true → cap = rows.length) (ha : a = none → cap = 0) (had : rows ≠ [] → a = some ad)
      (hsz : ∀ r ∈ rows, r.length = sz)
      (hc : ∀ i row j pv, rows[i]? = some row → row[j]? = some pv → w.cell? (ad.add (i * sz + j)) = some (c i j) ∧ ¬ av ad.block)
      (hr : ∀ i row j pv, rows[i]? = some row → row[j]? = some pv → FR pv (c i j)) : FR (.sl rows ex) (.slice a rows.length cap)
  | cp (row : List PV) (ad : Addr) (c : Nat → Value)
      (hc : ∀ j pv, row[j]? = some pv → w.cell? (ad.add j) = some (c j) ∧ ¬ av ad.block)
      (hr : ∀ j pv, row[j]? = some pv → FR pv (c j)) : FR (.cp row) (.pointer (some ad))
  | fn (f : FuncId) : FR (.fn f [] []) (.func (.func f) #[] #[])

theorem FR.flat {pv : PV} {v : Value} (h : FR w av pv v) : flat v = true := by cases h <;> first | rfl | assumption

variable (μ : Mu)
inductive VR : PV → Value → Prop
  | fr {pv : PV} {v : Value} (h : FR w av pv v) : VR pv v
  | undef (v : Value) : VR .undef v
  | skip : VR .skip Go.undef
  | raw (v : Value) : VR (.raw v) v
  | msl (id off len : Nat) (ex : Bool) (ad : Addr) (cap : Nat) (b : Blk) (hμ : μ id = some b) (hlen : len ≤ cap) (htot : (off + cap) * b.sz ≤ b.tot)
      (hex : ex = true → cap = len) (had : 0 < cap → ad = ⟨b.b, off * b.sz, none⟩) : VR (.msl id off len ex) (.slice (some ad) len cap)
  | mslNil (id : Nat) (ex : Bool) (a : Option Addr) : VR (.msl id 0 0 ex) (.slice a 0 0)
  | mp (id i off : Nat) (b : Blk) (hμ : μ id = some b) : VR (.mp id i off) (.pointer (some ⟨b.b, i * b.sz + off, none⟩))
  | agg (cells : List PV) (cs : Array Value) (hn : cells.length = cs.size) (hf : ∀ (j : Nat) (v : Value), cs[j]? = some v → Vs.flat v = true)
      (hr : ∀ (j : Nat) (pv : PV) (v : Value), cells[j]? = some pv → cs[j]? = some v → VR pv v) : VR (.agg cells) (.agg cs)
  | tup (vs : List PV) (us : Array Value) (hn : vs.length = us.size) (hr : ∀ (j : Nat) (pv : PV) (v : Value), vs[j]? = some pv → us[j]? = some v → VR pv v) : VR (.tup vs) (.tuple us)
  | fn (f : FuncId) (x y : List PV) (u v : Array Value) (hx : x.length = u.size) (hy : y.length = v.size)
      (rx : ∀ (j : Nat) (pv : PV) (v : Value), x[j]? = some pv → u[j]? = some v → VR pv v) (ry : ∀ (j : Nat) (pv : PV) (v' : Value), y[j]? = some pv → v[j]? = some v' → VR pv v') : VR (.fn f x y) (.func (.func f) u v)
end

theorem VR.flat_of_cell {w : World} {av : Nat → Prop} {μ : Mu} {pv : PV} {v : Value} (h : VR w av μ pv v) (hc : pv.cell = true) : flat v = true := by
  cases h with
  | fr h => exact FR.flat w av h
  | raw => simpa [PV.cell] using hc
  | msl => rfl
  | mslNil => rfl
  | mp => rfl
  | fn => rfl
  | undef => simp [PV.cell] at hc
  | skip => simp [PV.cell] at hc
  | agg => simp [PV.cell] at hc
  | tup => simp [PV.cell] at hc

/-- What is read outside of `av` in w is read outside of `av'` in w'. -/
def Keeps (w : World) (av : Nat → Prop) (w' : World) (av' : Nat → Prop) : Prop :=
  ∀ a u, w.cell? a = some u → ¬ av a.block → w'.cell? a = some u ∧ ¬ av' a.block
theorem Keeps.refl (w : World) (av : Nat → Prop) : Keeps w av w av := fun _ _ h k => ⟨h, k⟩
theorem Keeps.trans {w w1 w2 : World} {av av1 av2 : Nat → Prop} (h : Keeps w av w1 av1) (k : Keeps w1 av1 w2 av2) : Keeps w av w2 av2 :=
  fun a u h1 h2 => let ⟨x, y⟩ := h a u h1 h2; k a u x y
theorem Keeps.less {w : World} {av av' : Nat → Prop} (h : ∀ b, av' b → av b) : Keeps w av w av' := fun _ _ h1 h2 => ⟨h1, fun h3 => h2 (h _ h3)⟩

theorem FR.mono {w w' : World} {av av' : Nat → Prop} (hk : Keeps w av w' av') {pv : PV} {v : Value} (h : FR w av pv v) : FR w' av' pv v := by
  induction h with
  | int k n => exact .int k n
  | bool b => exact .bool b
  | str s => exact .str s
  | raw v h => exact .raw v h
  | sl rows ex a cap ad sz c hcap hex ha had hsz hc hr ih =>
    refine .sl rows ex a cap ad sz c hcap hex ha had hsz (fun i row j pv h1 h2 => ?_) ih
    have := hc i row j pv h1 h2
    have := hk _ _ this.1 (by rw [add_block]; exact this.2)
    rwa [add_block] at this
  | cp row ad c hc hr ih =>
    refine .cp row ad c (fun j pv h1 => ?_) ih
    have := hc j pv h1
    have := hk _ _ this.1 (by rw [add_block]; exact this.2)
    rwa [add_block] at this
  | fn f => exact .fn f

theorem mem_refsL {l : List PV} {j : Nat} {pv : PV} (h : l[j]? = some pv) {i : Nat} (hi : i ∈ pv.refs) : i ∈ refsL l := by
  induction l generalizing j with
  | nil => simp at h
  | cons a r ih =>
    simp only [refsL, List.mem_append]
    cases j with
    | zero => simp at h; subst h; exact .inl hi
    | succ j => simp at h; exact .inr (ih h)

theorem VR.mono {w w' : World} {av av' : Nat → Prop} {μ μ' : Mu} (hk : Keeps w av w' av') {pv : PV} {v : Value} (h : VR w av μ pv v)
    (hμ : ∀ i ∈ pv.refs, ∀ b, μ i = some b → μ' i = some b) : VR w' av' μ' pv v := by
  induction h with
  | fr h => exact .fr (h.mono hk)
  | undef v => exact .undef v
  | skip => exact .skip
  | raw v => exact .raw v
  | msl id off len ex ad cap b hm hlen htot hex had => exact .msl id off len ex ad cap b (hμ id (by simp [PV.refs]) b hm) hlen htot hex had
  | mslNil id ex a => exact .mslNil id ex a
  | mp id i off b hm => exact .mp id i off b (hμ id (by simp [PV.refs]) b hm)
  | agg cells cs hn hf hr ih => exact .agg cells cs hn hf fun j pv v h1 h2 => ih j pv v h1 h2 fun i hi => hμ i (by simp only [PV.refs]; exact mem_refsL h1 hi)
  | tup vs us hn hr ih => exact .tup vs us hn fun j pv v h1 h2 => ih j pv v h1 h2 fun i hi => hμ i (by simp only [PV.refs]; exact mem_refsL h1 hi)
  | fn f x y u v hx hy rx ry ihx ihy =>
    exact .fn f x y u v hx hy (fun j pv v h1 h2 => ihx j pv v h1 h2 fun i hi => hμ i (by simp only [PV.refs, List.mem_append]; exact .inl (mem_refsL h1 hi)))
      (fun j pv v h1 h2 => ihy j pv v h1 h2 fun i hi => hμ i (by simp only [PV.refs, List.mem_append]; exact .inr (mem_refsL h1 hi)))

/-- The blocks that may be written: those of arrays that are not frozen. -/
def Mut (A : Arrs) (μ : Mu) (b : Nat) : Prop := ∃ id rows g k, A id = some ⟨rows, g, false⟩ ∧ μ id = some k ∧ k.b = b
def Av (X : Nat → Prop) (A : Arrs) (μ : Mu) (b : Nat) : Prop := X b ∨ Mut A μ b

/-- The store stands for memory. X: blocks that others write. n: no array has this number or a greater one. -/
structure SR (w : World) (X : Nat → Prop) (A : Arrs) (n : Nat) (μ : Mu) : Prop where
  lt : ∀ id, n ≤ id → μ id = none ∧ A id = none
  blk : ∀ id a, A id = some a → ∀ b, μ id = some b → ∃ c el, w.heap[b.b]? = some (.cells c el (0, 0)) ∧ c.size = b.tot ∧ a.rows.length * b.sz ≤ b.tot ∧
      (∀ r ∈ a.rows, r.length = b.sz) ∧
      ∀ i row j pv, a.rows[i]? = some row → row[j]? = some pv → ∃ v, c[i * b.sz + j]? = some v ∧ flat v = true ∧ VR w (Av X A μ) μ pv v
  nob : ∀ id a, A id = some a → μ id = none → a.rows = []
  gsz : ∀ id a, A id = some a → (a.g = some none → μ id = none) ∧ ∀ k, a.g = some (some k) → ∀ b, μ id = some b → b.sz = k
  inj : ∀ id id' a a' b b', A id = some a → A id' = some a' → μ id = some b → μ id' = some b' → b.b = b'.b → id = id'
  out : ∀ id a b, A id = some a → μ id = some b → ¬ X b.b
  xlt : ∀ b, X b → b < w.heap.size

/-- From one state to a later one. Arrays below `base` keep their blocks. -/
structure Tr (base : Nat) (w : World) (A : Arrs) (μ : Mu) (w' : World) (A' : Arrs) (μ' : Mu) : Prop where
  os : w'.os = w.os
  tape : w'.tape = w.tape
  output : w'.output = w.output
  size : w.heap.size ≤ w'.heap.size
  keep : ∀ b, b < w.heap.size → ¬ Mut A μ b → w'.heap[b]? = w.heap[b]?
  less : ∀ b, b < w.heap.size → Mut A' μ' b → Mut A μ b
  mu : ∀ id, id < base → μ' id = μ id
theorem Tr.refl (base : Nat) (w : World) (A : Arrs) (μ : Mu) : Tr base w A μ w A μ := ⟨rfl, rfl, rfl, Nat.le_refl _, fun _ _ _ => rfl, fun _ _ h => h, fun _ _ => rfl⟩
theorem Tr.trans {base : Nat} {w w1 w2 : World} {A A1 A2 : Arrs} {μ μ1 μ2 : Mu} (h : Tr base w A μ w1 A1 μ1) (k : Tr base w1 A1 μ1 w2 A2 μ2) : Tr base w A μ w2 A2 μ2 :=
  ⟨k.os.trans h.os, k.tape.trans h.tape, k.output.trans h.output, Nat.le_trans h.size k.size,
   fun b hb hm => (k.keep b (Nat.lt_of_lt_of_le hb h.size) fun h1 => hm (h.less b hb h1)).trans (h.keep b hb hm),
   fun b hb hm => h.less b hb (k.less b (Nat.lt_of_lt_of_le hb h.size) hm), fun id hi => (k.mu id hi).trans (h.mu id hi)⟩
theorem block_lt {w : World} {a : Addr} {u : Value} (h : w.cell? a = some u) : a.block < w.heap.size := by
  unfold World.cell? at h
  cases hh : w.heap[a.block]? with
  | none => rw [hh] at h; simp at h
  | some o => exact (Array.getElem?_eq_some_iff.1 hh).1
theorem cell_of_heap {w w' : World} {a : Addr} (h : w'.heap[a.block]? = w.heap[a.block]?) : w'.cell? a = w.cell? a := by unfold World.cell?; rw [h]
theorem Tr.keeps {base : Nat} {w w' : World} {X : Nat → Prop} {A A' : Arrs} {μ μ' : Mu} (h : Tr base w A μ w' A' μ') : Keeps w (Av X A μ) w' (Av X A' μ') := by
  intro a u h1 h2
  have hl := block_lt h1
  have h3 : ¬ Mut A μ a.block := fun x => h2 (.inr x)
  refine ⟨by rw [cell_of_heap (h.keep _ hl h3)]; exact h1, fun hx => ?_⟩
  rcases hx with hx | hx
  · exact h2 (.inl hx)
  · exact h3 (h.less _ hl hx)
end Go.Vs

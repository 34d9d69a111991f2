/- tree.Name, tree.Sort, and the reference's: what they return. -/

import Derived.Test.YtnddhkcciphhkaaMQ7
import Derived.Test.YtnddhkcciphhkaaMQ9
import Derived.Test.YtnddhkcciphhkaaMQ10
import Derived.Test.YtnddhkcciphhkaaMQ11
section
set_option linter.unusedVariables false
set_option linter.unusedSimpArgs false
namespace Go.Vs
open Go Go.Proofs
def isLetter (c : Int) : Bool := decide (97 ≤ c ∧ c ≤ 122 ∨ 65 ≤ c ∧ c ≤ 90)
def isDigit (c : Int) : Bool := decide (48 ≤ c ∧ c ≤ 57)
theorem call66 (c : Int) : callL Try.prog hints 66 [.int .u8 c] = some (.bool (isLetter c)) := by
  refine F66.call (r := (.bool (isLetter c), [])) ?_ rfl
  simp only [go_sem]
  repeat' split
  all_goals (simp [isLetter] <;> omega)
theorem call67 (c : Int) : callL Try.prog hints 67 [.int .u8 c] = some (.bool (isLetter c)) := by
  refine F67.call (r := (.bool (isLetter c), [])) ?_ rfl
  simp only [go_sem]
  repeat' split
  all_goals (simp [isLetter] <;> omega)
@[go_sem] theorem callO66 (S : Store) (c : Int) : callO (callL Try.prog hints) S 66 [.int .u8 c] = some { v := .bool (isLetter c) } := callO_plain (call66 c) (by simp [Plain.int])
@[go_sem] theorem callO67 (S : Store) (c : Int) : callO (callL Try.prog hints) S 67 [.int .u8 c] = some { v := .bool (isLetter c) } := callO_plain (call67 c) (by simp [Plain.int])
/-- From byte i on, letters and digits alone. -/
def restOK (s : ByteArray) : Nat → Nat → Bool
  | 0, i => true
  | m + 1, i => (isLetter (byteAt s i) || isDigit (byteAt s i)) && restOK s m (i + 1)
/-- The first may be a letter alone. -/
def restOK' (s : ByteArray) : Nat → Nat → Bool
  | 0, i => true
  | m + 1, i => (isLetter (byteAt s i) || (decide (i ≠ 0) && isDigit (byteAt s i))) && restOK' s m (i + 1)
theorem restOK'_eq (s : ByteArray) : ∀ (m i : Nat), i ≠ 0 → restOK' s m i = restOK s m i
  | 0, i, h => rfl
  | m + 1, i, h => by simp [restOK, restOK', h, restOK'_eq s m (i + 1) (by omega)]
def keyword (s : ByteArray) : Bool := s.toList == (⟨#[116, 114, 117, 101]⟩ : ByteArray).toList || s.toList == (⟨#[102, 97, 108, 115, 101]⟩ : ByteArray).toList || s.toList == (⟨#[102, 111, 114, 97, 108, 108]⟩ : ByteArray).toList || s.toList == (⟨#[101, 120, 105, 115, 116, 115]⟩ : ByteArray).toList
theorem loop38 (s : ByteArray) (hs : s.size ≤ 12) : ∀ (m i : Nat), i + m = s.size → F38.L0 0 0 (.str s) (.int .i64 i) [] = some (.bool (restOK s m i && !keyword s), []) := by
  intro m
  induction m with
  | zero =>
    intro i hi
    apply F38.L0_step
    have h1 : ¬ (i : Int) < (s.size : Int) := by omega
    simp only [go_sem, h1]
    repeat' split
    all_goals simp_all [restOK, keyword]
  | succ m ih =>
    intro i hi
    apply F38.L0_step
    have h1 : (i : Int) < (s.size : Int) := by omega
    have h2 : IntKind.i64.wrap ((i : Int) + 1) = ((i + 1 : Nat) : Int) := by rw [IntKind.wrap_i64]; omega
    have h3 := ih (i + 1) (by omega)
    have h4 : 0 ≤ (i : Int) ∧ (i : Int) < (s.size : Int) := ⟨by omega, h1⟩
    simp only [go_sem, h1, h2, h3, h4]
    repeat' split
    all_goals (simp_all [restOK, isDigit] <;> omega)
theorem loop39 (s : ByteArray) (hs : s.size ≤ 12) : ∀ (m i : Nat), i + m = s.size → F39.L0 0 0 (.str s) (.int .i64 i) [] = some (.bool (restOK' s m i), []) := by
  intro m
  induction m with
  | zero =>
    intro i hi
    apply F39.L0_step
    have h1 : ¬ (i : Int) < (s.size : Int) := by omega
    simp only [go_sem, h1]
    rfl
  | succ m ih =>
    intro i hi
    apply F39.L0_step
    have h1 : (i : Int) < (s.size : Int) := by omega
    have h2 : IntKind.i64.wrap ((i : Int) + 1) = ((i + 1 : Nat) : Int) := by rw [IntKind.wrap_i64]; omega
    have h3 := ih (i + 1) (by omega)
    have h4 : 0 ≤ (i : Int) ∧ (i : Int) < (s.size : Int) := ⟨by omega, h1⟩
    simp only [go_sem, h1, h2, h3, h4]
    repeat' split
    all_goals (simp_all [restOK', isDigit] <;> omega)
/-- A name. -/
def nameOK (s : ByteArray) : Bool := decide (0 < s.size ∧ s.size ≤ 12) && isLetter (byteAt s 0) && restOK s s.size 0 && !keyword s
theorem call38 (s : ByteArray) : callL Try.prog hints 38 [.str s] = some (.bool (nameOK s)) := by
  refine F38.call (r := (.bool (nameOK s), [])) ?_ rfl
  by_cases h0 : s.size = 0
  · simp [go_sem, h0, nameOK]
  have h5 : ¬ (s.size : Int) = 0 := by omega
  by_cases h1 : s.size ≤ 12
  · have h2 := loop38 s h1 s.size 0 (by omega)
    have h3 : (0 : Int) < (s.size : Int) := by omega
    have h4 : ¬ (12 : Int) < (s.size : Int) := by omega
    simp only [Int.natCast_zero] at h2
    simp only [go_sem, h3, h4, h5, Int.le_refl, List.length_nil, h2, Int.toNat_zero]
    have h6 : 0 < s.size := by omega
    cases h7 : isLetter (byteAt s 0) <;> simp [nameOK, h7, h1, h6]
  · have h4 : (12 : Int) < (s.size : Int) := by omega
    simp only [go_sem, h4, h5]
    simp [nameOK, h1]
theorem call39 (s : ByteArray) : callL Try.prog hints 39 [.str s] = some (.bool (nameOK s)) := by
  refine F39.call (r := (.bool (nameOK s), [])) ?_ rfl
  by_cases h0 : s.size = 0
  · simp [go_sem, h0, nameOK]
  have h5 : ¬ (s.size : Int) = 0 := by omega
  by_cases h1 : s.size ≤ 12
  · have h2 := loop39 s h1 s.size 0 (by omega)
    have h4 : ¬ (12 : Int) < (s.size : Int) := by omega
    simp only [Int.natCast_zero] at h2
    simp only [go_sem, h4, h5, List.length_nil, h2]
    have h6 : 0 < s.size := by omega
    obtain ⟨m, hm⟩ : ∃ m, s.size = m + 1 := ⟨s.size - 1, by omega⟩
    have h7 : restOK' s s.size 0 = (isLetter (byteAt s 0) && restOK s s.size 0) := by
      rw [hm]
      simp only [restOK', restOK, restOK'_eq s m (0 + 1) (by omega)]
      cases isLetter (byteAt s 0) <;> simp
    have h8 : keyword s = (decide (s.toList = (⟨#[116, 114, 117, 101]⟩ : ByteArray).toList) || decide (s.toList = (⟨#[102, 97, 108, 115, 101]⟩ : ByteArray).toList) || decide (s.toList = (⟨#[102, 111, 114, 97, 108, 108]⟩ : ByteArray).toList) || decide (s.toList = (⟨#[101, 120, 105, 115, 116, 115]⟩ : ByteArray).toList)) := by
      simp [keyword, Bool.beq_eq_decide_eq]
    simp only [h7, nameOK, h8, h1, h6, and_self, decide_true, Bool.true_and]
    repeat' split
    all_goals simp_all
  · have h4 : (12 : Int) < (s.size : Int) := by omega
    simp only [go_sem, h4, h5]
    simp [nameOK, h1]
/-- The sort of an operator. -/
def sortOf (n : Int) : Int := if 1 ≤ n ∧ n ≤ 13 then 1 else if 20 ≤ n ∧ n ≤ 39 then 2 else if n = 55 ∨ n = 56 then 4 else if 50 ≤ n ∧ n ≤ 62 then 3 else 0
theorem call40 (n : Int) : callL Try.prog hints 40 [.int .i64 n] = some (.int .i64 (sortOf n)) := by
  refine F40.call (r := (.int .i64 (sortOf n), [])) ?_ rfl
  simp only [go_sem]
  repeat' split
  all_goals (simp [sortOf] <;> omega)
theorem call41 (n : Int) : callL Try.prog hints 41 [.int .i64 n] = some (.int .i64 (sortOf n)) := by
  refine F41.call (r := (.int .i64 (sortOf n), [])) ?_ rfl
  simp only [go_sem]
  repeat' split
  all_goals (simp [sortOf] <;> omega)
@[go_sem] theorem callO38 (S : Store) (s : ByteArray) : callO (callL Try.prog hints) S 38 [.str s] = some { v := .bool (nameOK s) } := callO_plain (call38 s) (by simp [Plain.str])
@[go_sem] theorem callO39 (S : Store) (s : ByteArray) : callO (callL Try.prog hints) S 39 [.str s] = some { v := .bool (nameOK s) } := callO_plain (call39 s) (by simp [Plain.str])
@[go_sem] theorem callO40 (S : Store) (n : Int) : callO (callL Try.prog hints) S 40 [.int .i64 n] = some { v := .int .i64 (sortOf n) } := callO_plain (call40 n) (by simp [Plain.int])
@[go_sem] theorem callO41 (S : Store) (n : Int) : callO (callL Try.prog hints) S 41 [.int .i64 n] = some { v := .int .i64 (sortOf n) } := callO_plain (call41 n) (by simp [Plain.int])
end Go.Vs
end
/- A law's arguments, by their types. -/
section
set_option linter.unusedVariables false
namespace Go.Vs
open Go Go.Proofs
theorem und3 : Try.prog.underlying 3 = some (.int .i64) := by kernel_rfl
theorem und4 : Try.prog.underlying 4 = some .bool := by kernel_rfl
theorem und9 : Try.prog.underlying 9 = some .string := by kernel_rfl
section
variable {P : Program} {k : Nat} {t : TypeId} {pv : PV} {pvs : List PV}
theorem Arg.str (hu : P.underlying t = some .string) (h : Arg P k t pv) : ∃ s : ByteArray, s.size ≤ maxLen ∧ pv = .str s := by
  simp only [Arg, hu] at h
  cases k with
  | zero => simp only [Dt] at h
  | succ k =>
    simp only [Dt, hu] at h
    obtain ⟨s, h1, h2⟩ := h
    exact ⟨s, h1, by simpa using h2⟩
theorem Arg.int {kd : IntKind} (hu : P.underlying t = some (.int kd)) (h : Arg P k t pv) : ∃ n, (Lit.int kd n).wf = true ∧ pv = .int kd n := by
  simp only [Arg, hu] at h
  cases k with
  | zero => simp only [Dt] at h
  | succ k =>
    simp only [Dt, hu] at h
    obtain ⟨s, h1, h2⟩ := h
    exact ⟨s, h1, by simpa using h2⟩
theorem Args.nil_inv (h : Args P [] pvs) : pvs = [] := by cases h; rfl
theorem Args.cons_inv {ts : List TypeId} (h : Args P (t :: ts) pvs) : ∃ pv r k, pvs = pv :: r ∧ Arg P k t pv ∧ Args P ts r := by
  cases h with
  | cons h r =>
    obtain ⟨k, h⟩ := h
    exact ⟨_, _, k, rfl, h, r⟩
end
end Go.Vs
end
/- Trees as data, and what operations do with them. -/
section
set_option linter.unusedVariables false
set_option linter.unusedSimpArgs false
namespace Go.Vs
open Go Go.Proofs

/-! ### Types -/
@[go_sem] theorem d54 : (tyi Try.prog 54).d = .struct [(0, 1, false), (1, 1, false), (2, 3, true), (5, 1, false)] := nr (by kernel_rfl)
@[go_sem] theorem d51 : (tyi Try.prog 51).d = .struct [(0, 1, false), (1, 1, false), (2, 1, false)] := nr (by kernel_rfl)
@[go_sem] theorem d52 : (tyi Try.prog 52).d = .slice 54 := nr (by kernel_rfl)
@[go_sem] theorem d49 : (tyi Try.prog 49).d = .slice 76 := nr (by kernel_rfl)
@[go_sem] theorem d22 : (tyi Try.prog 22).d = .slice 3 := nr (by kernel_rfl)
@[go_sem] theorem d23 : (tyi Try.prog 23).d = .slice 22 := nr (by kernel_rfl)
@[go_sem] theorem d3 : (tyi Try.prog 3).d = .int .i64 := nr (by kernel_rfl)
@[go_sem] theorem d76 : (tyi Try.prog 76).d = .int .u32 := nr (by kernel_rfl)
@[go_sem] theorem size54 : (tyi Try.prog 54).size = 6 := nr (by kernel_rfl)
@[go_sem] theorem size51 : (tyi Try.prog 51).size = 3 := nr (by kernel_rfl)
@[go_sem] theorem size22 : (tyi Try.prog 22).size = 1 := nr (by kernel_rfl)
@[go_sem] theorem size3 : (tyi Try.prog 3).size = 1 := nr (by kernel_rfl)
@[go_sem] theorem size4 : (tyi Try.prog 4).size = 1 := nr (by kernel_rfl)
@[go_sem] theorem size76 : (tyi Try.prog 76).size = 1 := nr (by kernel_rfl)
@[go_sem] theorem known54 : (tyi Try.prog 54).known = true := nr (by kernel_rfl)
@[go_sem] theorem known51 : (tyi Try.prog 51).known = true := nr (by kernel_rfl)
@[go_sem] theorem known52 : (tyi Try.prog 52).known = true := nr (by kernel_rfl)
@[go_sem] theorem known49 : (tyi Try.prog 49).known = true := nr (by kernel_rfl)
@[go_sem] theorem known22 : (tyi Try.prog 22).known = true := nr (by kernel_rfl)
@[go_sem] theorem known3 : (tyi Try.prog 3).known = true := nr (by kernel_rfl)
@[go_sem] theorem known4 : (tyi Try.prog 4).known = true := nr (by kernel_rfl)
@[go_sem] theorem known9 : (tyi Try.prog 9).known = true := nr (by kernel_rfl)
@[go_sem] theorem known76 : (tyi Try.prog 76).known = true := nr (by kernel_rfl)
@[go_sem] theorem zero54 : (tyi Try.prog 54).zero = some [.int .i64 0, .str ByteArray.empty, .bool false, .sl [] true, .sl [] true, .sl [] true] := nr (by kernel_rfl)
@[go_sem] theorem part3 (v : PV) (r : List PV) : part (tyi Try.prog 3) (v :: r) = some v := by simp [part, known3, TI.isAgg, d3]
@[go_sem] theorem part4 (v : PV) (r : List PV) : part (tyi Try.prog 4) (v :: r) = some v := by simp [part, known4, TI.isAgg, tyi4]
@[go_sem] theorem part9 (v : PV) (r : List PV) : part (tyi Try.prog 9) (v :: r) = some v := by simp [part, known9, TI.isAgg, tyi9]
@[go_sem] theorem part76 (v : PV) (r : List PV) : part (tyi Try.prog 76) (v :: r) = some v := by simp [part, known76, TI.isAgg, d76]
@[go_sem] theorem part49 (v : PV) (r : List PV) : part (tyi Try.prog 49) (v :: r) = some v := by simp [part, known49, TI.isAgg, d49]
@[go_sem] theorem part52 (v : PV) (r : List PV) : part (tyi Try.prog 52) (v :: r) = some v := by simp [part, known52, TI.isAgg, d52]
@[go_sem] theorem part22 (v : PV) (r : List PV) : part (tyi Try.prog 22) (v :: r) = some v := by simp [part, known22, TI.isAgg, d22]
@[go_sem] theorem part51 (a b c : PV) (r : List PV) : part (tyi Try.prog 51) (a :: b :: c :: r) = some (.agg [a, b, c]) := by simp [part, known51, TI.isAgg, d51, size51]
@[go_sem] theorem part54 (a b c d e f : PV) (r : List PV) : part (tyi Try.prog 54) (a :: b :: c :: d :: e :: f :: r) = some (.agg [a, b, c, d, e, f]) := by simp [part, known54, TI.isAgg, d54, size54]

/-! ### Memory -/
@[go_sem] theorem evLoad_cp (ti : TI) (S : Store) (r : List PV) : evLoad ti S (.cp r) = part ti r := nr rfl
@[go_sem] theorem evLoad_mp (ti : TI) (S : Store) (id i off : Nat) : evLoad ti S (.mp id i off) = (rowsAt S id).bind fun rows => if i < rows.length then part ti ((rows.getD i []).drop off) else none := nr rfl
@[go_sem] theorem rowsAt_zero (rows : List (List PV)) (g : Option (Option Nat)) (f : Bool) (S : Store) : rowsAt (.arr rows g f :: S) 0 = some rows := nr rfl
@[go_sem] theorem rowsAt_succ (o : Obj) (S : Store) (n : Nat) : rowsAt (o :: S) (n + 1) = rowsAt S n := nr rfl
attribute [go_sem] List.nil_append List.cons_append List.length_cons List.length_nil List.getD_cons_zero List.drop_zero List.drop_succ_cons Nat.zero_add Nat.add_zero Nat.lt_add_one
@[go_sem] theorem fa54_0 (id i off : Nat) : evFieldAddr (tyi Try.prog 54) 0 (.mp id i off) = some (.mp id i off) := by simp [evFieldAddr, d54]
@[go_sem] theorem fa54_1 (id i off : Nat) : evFieldAddr (tyi Try.prog 54) 1 (.mp id i off) = some (.mp id i (off + 1)) := by simp [evFieldAddr, d54]
@[go_sem] theorem fa54_2 (id i off : Nat) : evFieldAddr (tyi Try.prog 54) 2 (.mp id i off) = some (.mp id i (off + 2)) := by simp [evFieldAddr, d54]
@[go_sem] theorem fa54_3 (id i off : Nat) : evFieldAddr (tyi Try.prog 54) 3 (.mp id i off) = some (.mp id i (off + 5)) := by simp [evFieldAddr, d54]
@[go_sem] theorem fc54_0 (r : List PV) : evFieldAddr (tyi Try.prog 54) 0 (.cp r) = some (.cp r) := by simp [evFieldAddr, d54]
@[go_sem] theorem fc54_1 (r : List PV) : evFieldAddr (tyi Try.prog 54) 1 (.cp r) = some (.cp (r.drop 1)) := by simp [evFieldAddr, d54]
@[go_sem] theorem fc54_2 (r : List PV) : evFieldAddr (tyi Try.prog 54) 2 (.cp r) = some (.cp (r.drop 2)) := by simp [evFieldAddr, d54]
@[go_sem] theorem fc54_3 (r : List PV) : evFieldAddr (tyi Try.prog 54) 3 (.cp r) = some (.cp (r.drop 5)) := by simp [evFieldAddr, d54]
@[go_sem] theorem fa51_0 (id i off : Nat) : evFieldAddr (tyi Try.prog 51) 0 (.mp id i off) = some (.mp id i off) := by simp [evFieldAddr, d51]
@[go_sem] theorem fa51_1 (id i off : Nat) : evFieldAddr (tyi Try.prog 51) 1 (.mp id i off) = some (.mp id i (off + 1)) := by simp [evFieldAddr, d51]
@[go_sem] theorem fa51_2 (id i off : Nat) : evFieldAddr (tyi Try.prog 51) 2 (.mp id i off) = some (.mp id i (off + 2)) := by simp [evFieldAddr, d51]
@[go_sem] theorem fc51_0 (r : List PV) : evFieldAddr (tyi Try.prog 51) 0 (.cp r) = some (.cp r) := by simp [evFieldAddr, d51]
@[go_sem] theorem fc51_1 (r : List PV) : evFieldAddr (tyi Try.prog 51) 1 (.cp r) = some (.cp (r.drop 1)) := by simp [evFieldAddr, d51]
@[go_sem] theorem fc51_2 (r : List PV) : evFieldAddr (tyi Try.prog 51) 2 (.cp r) = some (.cp (r.drop 2)) := by simp [evFieldAddr, d51]
@[go_sem] theorem len52 (r : List (List PV)) (ex : Bool) : lenO (tyi Try.prog 52) (.sl r ex) = some (.int .i64 r.length) := lenO_sl _ d52 r ex
@[go_sem] theorem len49 (r : List (List PV)) (ex : Bool) : lenO (tyi Try.prog 49) (.sl r ex) = some (.int .i64 r.length) := lenO_sl _ d49 r ex
@[go_sem] theorem len22 (r : List (List PV)) (ex : Bool) : lenO (tyi Try.prog 22) (.sl r ex) = some (.int .i64 r.length) := lenO_sl _ d22 r ex
@[go_sem] theorem len23 (r : List (List PV)) (ex : Bool) : lenO (tyi Try.prog 23) (.sl r ex) = some (.int .i64 r.length) := lenO_sl _ d23 r ex

/-! ### Trees -/
inductive Node where
  | mk (op : Int) (name : ByteArray) (neg : Bool) (num den : List Int) (kids : List Node)
namespace Node
def op : Node → Int | mk a _ _ _ _ _ => a
def name : Node → ByteArray | mk _ a _ _ _ _ => a
def neg : Node → Bool | mk _ _ a _ _ _ => a
def num : Node → List Int | mk _ _ _ a _ _ => a
def den : Node → List Int | mk _ _ _ _ a _ => a
def kids : Node → List Node | mk _ _ _ _ _ a => a
instance : Inhabited Node := ⟨mk 0 ByteArray.empty false [] [] []⟩
end Node
/-- Words, as rows of memory. -/
def wordRows (l : List Int) : List (List PV) := l.map fun w => [.int .u32 w]
mutual
def Node.cells : Node → List PV
  | .mk a b c d e f => [.int .i64 a, .str b, .bool c, .sl (wordRows d) false, .sl (wordRows e) false, .sl (Node.rows f) false]
def Node.rows : List Node → List (List PV)
  | [] => []
  | n :: r => n.cells :: Node.rows r
end
mutual
/-- What a tree in memory is, besides: numbers in their bounds, lists in theirs. -/
def Node.ok : Node → Prop
  | .mk a b c d e f => (-9223372036854775808 ≤ a ∧ a ≤ 9223372036854775807) ∧ b.size ≤ maxLen ∧ d.length ≤ maxLen ∧ e.length ≤ maxLen ∧ (∀ w ∈ d, 0 ≤ w ∧ w ≤ 4294967295) ∧ (∀ w ∈ e, 0 ≤ w ∧ w ≤ 4294967295) ∧ f.length ≤ maxLen ∧ Node.oks f
def Node.oks : List Node → Prop
  | [] => True
  | n :: r => n.ok ∧ Node.oks r
end
theorem Node.oks_iff : ∀ {l : List Node}, Node.oks l ↔ ∀ n ∈ l, n.ok
  | [] => by simp [Node.oks]
  | n :: r => by simp [Node.oks, Node.oks_iff (l := r)]
theorem Node.ind' {P : Node → Prop} (h : ∀ n, (∀ k ∈ n.kids, P k) → P n) (n : Node) : P n :=
  Node.rec (motive_1 := P) (motive_2 := fun l => ∀ k ∈ l, P k) (fun a b c d e f ih => h (.mk a b c d e f) ih) (by simp)
    (fun n r hn hr k hk => by
      rcases List.mem_cons.1 hk with rfl | hk
      · exact hn
      · exact hr k hk) n
theorem Node.rows_eq : ∀ l, Node.rows l = l.map Node.cells
  | [] => rfl
  | n :: r => by rw [Node.rows, Node.rows_eq r]; rfl
@[go_sem] theorem Node.cells_length (n : Node) : n.cells.length = 6 := nr (by cases n; rfl)
@[go_sem] theorem Node.cells_cell (n : Node) : n.cells.all PV.cell = true := nr (by cases n; rfl)
@[go_sem] theorem Node.drop1 (n : Node) : n.cells.drop 1 = [.str n.name, .bool n.neg, .sl (wordRows n.num) false, .sl (wordRows n.den) false, .sl (Node.rows n.kids) false] := nr (by cases n; rfl)
@[go_sem] theorem Node.drop2 (n : Node) : n.cells.drop 2 = [.bool n.neg, .sl (wordRows n.num) false, .sl (wordRows n.den) false, .sl (Node.rows n.kids) false] := nr (by cases n; rfl)
@[go_sem] theorem Node.drop3 (n : Node) : n.cells.drop 3 = [.sl (wordRows n.num) false, .sl (wordRows n.den) false, .sl (Node.rows n.kids) false] := nr (by cases n; rfl)
@[go_sem] theorem Node.drop4 (n : Node) : n.cells.drop 4 = [.sl (wordRows n.den) false, .sl (Node.rows n.kids) false] := nr (by cases n; rfl)
@[go_sem] theorem Node.drop5 (n : Node) : n.cells.drop 5 = [.sl (Node.rows n.kids) false] := nr (by cases n; rfl)
@[go_sem] theorem Node.part54 (n : Node) : part (tyi Try.prog 54) n.cells = some (.agg n.cells) := by cases n; simp only [Node.cells, Vs.part54]
@[go_sem] theorem Node.part3 (n : Node) : part (tyi Try.prog 3) n.cells = some (.int .i64 n.op) := by cases n; simp only [Node.cells, Vs.part3]; rfl
theorem Node.plain (n : Node) : Plain (.agg n.cells) := by cases n; exact ⟨rfl, fun _ => rfl⟩
@[go_sem] theorem Node.fz (S : Store) (n : Node) : fzPV S (.agg n.cells) = some (.agg n.cells) := n.plain.2 S
@[go_sem] theorem Node.refs (n : Node) : refsL n.cells = [] := nr (by cases n; rfl)
@[go_sem] theorem Node.rows_length (l : List Node) : (Node.rows l).length = l.length := by rw [Node.rows_eq]; simp
@[go_sem] theorem wordRows_length (l : List Int) : (wordRows l).length = l.length := by simp [wordRows]
@[go_sem] theorem idx52 (S : Store) (l : List Node) (ex : Bool) (i : Int) : indexAddrO Try.prog 52 S (.sl (Node.rows l) ex) (.int .i64 i) = if 0 ≤ i ∧ i < l.length then some (.cp (l.getD i.toNat default).cells) else none := by
  have e1 : elemTy (tyi Try.prog 52) = 54 := by simp [elemTy, d52]
  have e2 : isSlice (tyi Try.prog 52) = true := by simp [isSlice, d52]
  simp only [indexAddrO, e1, e2, known54, size54, and_self, if_true, evIndexAddr, Node.rows_length]
  split
  · rename_i h
    have hl : i.toNat < l.length := by omega
    have e3 : (Node.rows l).getD i.toNat [] = (l.getD i.toNat default).cells := by
      rw [Node.rows_eq]
      simp [List.getD_eq_getElem?_getD, hl]
    rw [e3, if_pos (Node.cells_length _)]
  · rfl
@[go_sem] theorem idx49 (S : Store) (l : List Int) (ex : Bool) (i : Int) : indexAddrO Try.prog 49 S (.sl (wordRows l) ex) (.int .i64 i) = if 0 ≤ i ∧ i < l.length then some (.cp [.int .u32 (l.getD i.toNat 0)]) else none := by
  have e1 : elemTy (tyi Try.prog 49) = 76 := by simp [elemTy, d49]
  have e2 : isSlice (tyi Try.prog 49) = true := by simp [isSlice, d49]
  simp only [indexAddrO, e1, e2, known76, size76, and_self, if_true, evIndexAddr, wordRows_length]
  split
  · rename_i h
    have hl : i.toNat < l.length := by omega
    have e3 : (wordRows l).getD i.toNat [] = [.int .u32 (l.getD i.toNat 0)] := by
      simp [wordRows, List.getD_eq_getElem?_getD, hl]
    rw [e3]
    rfl
  · rfl
@[go_sem] theorem boxed_if (S : Store) (id k : Nat) (v : PV) : boxed S id k v = if v.cells.length = k ∧ v.cells.all PV.cell = true then some { v := .mp id 0 0, new := some ([v.cells], none) } else none := nr rfl
def zeroNode : List PV := [.int .i64 0, .str ByteArray.empty, .bool false, .sl [] true, .sl [] true, .sl [] true]
@[go_sem] theorem alloc54 (id : Nat) : allocO (tyi Try.prog 54) id = some { v := .mp id 0 0, new := some ([zeroNode], none) } := by
  simp [allocO, zero54, zeroNode, PV.cell]
theorem kids_drop {l : List Node} {i : Nat} (h : i < l.length) : l.drop i = l.getD i default :: l.drop (i + 1) := by
  rw [List.drop_eq_getElem_cons h]
  simp [List.getD_eq_getElem?_getD, h]
theorem kids_mem {l : List Node} {i : Nat} (h : i < l.length) : l.getD i default ∈ l := by
  simp [List.getD_eq_getElem?_getD, h]
end Go.Vs
end
/- Rules for stores of known arrays. -/
section
set_option linter.unusedVariables false
set_option linter.unusedSimpArgs false
namespace Go.Vs
open Go Go.Proofs
attribute [go_sem] List.all_cons List.all_nil Bool.and_self Bool.and_true Bool.true_and Bool.and_false Bool.false_and decide_true decide_false List.take_succ_cons List.take_zero List.take_nil List.drop_nil List.append_nil List.set_cons_zero List.set_cons_succ ge_iff_le
@[go_sem] theorem pvcells_agg (l : List PV) : PV.cells (.agg l) = l := nr rfl
@[go_sem] theorem pvcells_int (k : IntKind) (n : Int) : PV.cells (.int k n) = [.int k n] := nr rfl
@[go_sem] theorem pvcells_bool (b : Bool) : PV.cells (.bool b) = [.bool b] := nr rfl
@[go_sem] theorem pvcells_msl (a b c : Nat) (ex : Bool) : PV.cells (.msl a b c ex) = [.msl a b c ex] := nr rfl
@[go_sem] theorem cell_int (k : IntKind) (n : Int) : PV.cell (.int k n) = true := nr rfl
@[go_sem] theorem cell_bool (b : Bool) : PV.cell (.bool b) = true := nr rfl
@[go_sem] theorem cell_msl (a b c : Nat) (ex : Bool) : PV.cell (.msl a b c ex) = true := nr rfl
@[go_sem] theorem refs_undef : PV.refs .undef = [] := nr rfl
@[go_sem] theorem refs_int (k : IntKind) (n : Int) : PV.refs (.int k n) = [] := nr rfl
@[go_sem] theorem refs_bool (b : Bool) : PV.refs (.bool b) = [] := nr rfl
@[go_sem] theorem refs_str (b : ByteArray) : PV.refs (.str b) = [] := nr rfl
@[go_sem] theorem refs_sl (r : List (List PV)) (ex : Bool) : PV.refs (.sl r ex) = [] := nr rfl
@[go_sem] theorem refs_msl (a b c : Nat) (ex : Bool) : PV.refs (.msl a b c ex) = [a] := nr rfl
@[go_sem] theorem refs_mp (a b c : Nat) : PV.refs (.mp a b c) = [a] := nr rfl
@[go_sem] theorem refsL_nil : refsL [] = [] := nr rfl
@[go_sem] theorem refsL_cons (v : PV) (r : List PV) : refsL (v :: r) = v.refs ++ refsL r := nr rfl
@[go_sem] theorem rowsRefs_nil : rowsRefs [] = [] := nr rfl
@[go_sem] theorem rowsRefs_cons (v : List PV) (r : List (List PV)) : rowsRefs (v :: r) = refsL v ++ rowsRefs r := nr rfl
@[go_sem] theorem zeroNode_length : zeroNode.length = 6 := nr rfl
/-- Does all that is seen lie below a number? -/
def seenBelow (n : Nat) : Env → Bool
  | [] => true
  | (_, v) :: r => (v.refs.all fun i => decide (i < n)) && seenBelow n r
def heldBelow (n : Nat) : Nat → Store → Bool
  | 0, _ => true
  | _, [] => true
  | m + 1, .arr rows _ _ :: r => ((rowsRefs rows).all fun i => decide (i < n)) && heldBelow n m r
  | m + 1, .gone :: r => heldBelow n m r
theorem seenBelow_eq (n : Nat) : ∀ e : Env, (e.all fun (_, v) => v.refs.all fun i => decide (i < n)) = seenBelow n e
  | [] => rfl
  | (_, v) :: r => by simp only [List.all_cons, seenBelow, seenBelow_eq n r]
theorem heldBelow_eq (n : Nat) : ∀ (m : Nat) (S : Store), ((S.take m).all fun | .arr rows _ _ => (rowsRefs rows).all fun i => decide (i < n) | .gone => true) = heldBelow n m S
  | 0, S => by simp [heldBelow]
  | m + 1, [] => by simp [heldBelow]
  | m + 1, .arr rows g f :: r => by simp only [List.take_succ_cons, List.all_cons, heldBelow, heldBelow_eq n m r]
  | m + 1, .gone :: r => by simp only [List.take_succ_cons, List.all_cons, heldBelow, heldBelow_eq n m r, Bool.true_and]
@[go_sem] theorem gc_eq (n : Nat) (k : Nat) (v : PV) (e : Env) (o : Obj) (S : Store) : gc n ((k, v) :: e) (o :: S) = if seenBelow n ((k, v) :: e) = true ∧ heldBelow n n (o :: S) = true then (o :: S).take n else o :: S := by
  rw [← seenBelow_eq, ← heldBelow_eq]
  rfl
@[go_sem] theorem seenBelow_nil (n : Nat) : seenBelow n [] = true := nr rfl
@[go_sem] theorem seenBelow_cons (n k : Nat) (v : PV) (r : Env) : seenBelow n ((k, v) :: r) = ((v.refs.all fun i => decide (i < n)) && seenBelow n r) := nr rfl
@[go_sem] theorem heldBelow_zero (n : Nat) (S : Store) : heldBelow n 0 S = true := nr (by cases S <;> rfl)
@[go_sem] theorem heldBelow_nil (n m : Nat) : heldBelow n m [] = true := nr (by cases m <;> rfl)
@[go_sem] theorem heldBelow_cons (n m : Nat) (rows : List (List PV)) (g : Option (Option Nat)) (f : Bool) (r : Store) : heldBelow n (m + 1) (.arr rows g f :: r) = (((rowsRefs rows).all fun i => decide (i < n)) && heldBelow n m r) := nr rfl
@[go_sem] theorem storeE_eq (ti : TI) (S : Store) (a v : PV) : storeE ti S a v = if ti.known = true then (evStore ti.size S a v).map fun S => { v := .skip, S } else none := nr rfl
@[go_sem] theorem evStore_zero (n : Nat) (rows : List (List PV)) (g : Option (Option Nat)) (S : Store) (i off : Nat) (v : PV) : evStore n (.arr rows g false :: S) (.mp 0 i off) v =
    if i < rows.length ∧ off + n ≤ (rows.getD i []).length ∧ v.cells.length = n ∧ v.cells.all PV.cell = true then some (.arr (rows.set i (splice (rows.getD i []) off v.cells)) g false :: S) else none := nr rfl
@[go_sem] theorem evStore_succ (n : Nat) (o : Obj) (S : Store) (id i off : Nat) (v : PV) : evStore n (o :: S) (.mp (id + 1) i off) v = (evStore n S (.mp id i off) v).map fun S => o :: S := by
  simp only [evStore, List.getElem?_cons_succ]
  cases h : S[id]? with
  | none => rfl
  | some q =>
    cases q with
    | gone => rfl
    | arr rows g f =>
      cases f with
      | true => rfl
      | false =>
        simp only
        split <;> simp
@[go_sem] theorem splice_if (row : List PV) (off : Nat) (cs : List PV) : splice row off cs = if off = 0 ∧ cs.length = row.length then cs else row.take off ++ cs ++ row.drop (off + cs.length) := nr rfl
@[go_sem] theorem killE_nil' (e : Env) : killE [] e = e := nr rfl
attribute [go_sem] Nat.le_refl
theorem iteEq {α : Type} {c : Prop} [Decidable c] {a b v : α} (h1 : c → a = v) (h2 : ¬ c → b = v) : (if c then a else b) = v := by
  by_cases h : c
  · rw [if_pos h]; exact h1 h
  · rw [if_neg h]; exact h2 h
theorem iteBind {α β : Type} {c : Prop} [Decidable c] {a b : Option α} {f : α → Option β} {v : Option β} (h1 : c → a.bind f = v) (h2 : ¬ c → b.bind f = v) : (if c then a else b).bind f = v := by
  by_cases h : c
  · rw [if_pos h]; exact h1 h
  · rw [if_neg h]; exact h2 h
theorem bindCall {x : Option (PV × Store)} {y : Option PV} {v : PV} (hc : ∀ {r : PV × Store} {v : PV}, x = some r → fzPV r.2 r.1 = some v → y = some v) (h : (x.bind fun r => fzPV r.2 r.1) = some v) : y = some v := by
  obtain ⟨r, h1, h2⟩ := bind_some h
  exact hc h1 h2
@[go_sem] theorem buildSlice22 (id n : Nat) (is : List Nat) (rows : List (List PV)) : buildSliceO Try.prog 22 id n is rows = if is = List.range n ∧ rowsOK 1 rows = true ∧ (rows.all fun r => r.all PV.cell) = true ∧ n * 1 ≤ 16777216 then some { v := .msl id 0 n true, new := some (rows, some (some 1)) } else none := by
  have e : (tyi Try.prog 3).zero.isSome = true := by kernel_rfl
  simp [buildSliceO, d22, size3, e]
@[go_sem] theorem rowsOK_nil (n : Nat) : rowsOK n [] = true := nr rfl
@[go_sem] theorem rowsOK_cons (n : Nat) (r : List PV) (l : List (List PV)) : rowsOK n (r :: l) = (r.length == n && rowsOK n l) := nr rfl
@[go_sem] theorem range0 : List.range 0 = [] := nr rfl
attribute [go_sem] beq_self_eq_true
end Go.Vs
end
/- Printed by a program of mine (stage1.py): the functions 35, 43, 44, 45, piece by piece. -/
section
set_option linter.unusedVariables false
set_option linter.unusedSimpArgs false
namespace Go.Vs
open Go Go.Proofs
noncomputable section

/-! ### isochroneref08.Size -/
namespace F35
section
variable (b i n n0 : Nat) (K : KT) (x0 x1 x2 x3 x4 x9 : PV) (e : Env) (S : Store)
noncomputable def hint : Hint := { keep := [], loops := [(0, { live := [1, 3, 4], after := [3], own := [], fz := [] })], regs := [(0, [1]), (1, [1, 3]), (2, [1, 3, 4]), (3, [1, 3, 4, 9]), (4, [1, 3, 4]), (5, [1, 3, 4]), (6, [2])] }
noncomputable def C (b : Nat) : Ctx := ctxL Try.prog hints b hint
noncomputable def code : Code := Try.f35.body.get rfl
noncomputable def k0 (b : Nat) : KT := endC Try.prog Try.f35
def ee0 (x1 : PV) : Env := [(1, x1)]
def ee1 (x1 x3 : PV) : Env := [(1, x1), (3, x3)]
def ee2 (x1 x3 x4 : PV) : Env := [(1, x1), (3, x3), (4, x4)]
def ee3 (x1 x3 x4 x9 : PV) : Env := [(1, x1), (3, x3), (4, x4), (9, x9)]
def ee4 (x2 : PV) : Env := [(2, x2)]
def c1 : Code := at0 code
def c2 : Code := at1 code
def c3 : Code := at0 c2
def c4 : Code := at1 c2
def c5 : Code := at0 c4
def c6 : Code := at1 c4
def c7 : Code := at0 c6
def c8 : Code := at1 c6
def k9 (b : Nat) : KT := seqC (fun e S => execL (C b) 0 c8 (k0 b) e S) (k0 b)
@[go_sem] theorem k9_n : k9 b .normal (ee4 x2) S =
  (k0 b) .ret (ee4 x2) S := nr (seqN (execL_ret (by kernel_rfl)))
def k10 (b : Nat) : KT := seqC (fun e S => execL (C b) 0 c6 (k0 b) e S) (k0 b)
@[go_sem] theorem g11 : execL (C b) 0 c7 K (ee3 x1 x3 x4 x9) S =
  withV (some x3) fun x20 =>
    withV (some x20) fun x2 =>
    K .normal (ee4 x2) S := nr (by kernel_rfl)
@[go_sem] theorem k10_n : k10 b .normal e S = execL (C b) 0 c7 (k9 b) e S := nr (seqN (enterS (by kernel_rfl)))
def k12 (b : Nat) : KT := seqC (fun e S => execL (C b) 0 c4 (k0 b) e S) (k0 b)
def c13 : Code := at0 c5
def c14 : Code := at1 c5
def k15 (b : Nat) : KT := seqC (fun e S => execL (C b) 0 c14 (k10 b) e S) (k10 b)
def c16 : Code := atB c14
def k17 (b : Nat) : KT := blockC 0 (k10 b)
@[go_sem] theorem k17_exit : k17 b (.exit i) e S = if i = 0 then (k10 b) .normal e S else (k10 b) (.exit i) e S := nr (blockC_x _ _ _ _ _)
def c18 : Code := atL c16
def k19 (b n0 : Nat) : KT := afterC 0 n0 [3] (k17 b)
def L0g (b n0 : Nat) (e : Env) (S : Store) : RT := loopL (fun K e S => execL (C b) 0 c18 K e S) (normG [1, 3, 4] [] n0) (k19 b n0) e S
def L0 (b n0 : Nat) (x1 x3 x4 : PV) (S : Store) : RT := L0g b n0 (ee2 x1 x3 x4) S
def k20 (b n0 : Nat) : KT := stepC (normG [1, 3, 4] [] n0) (k19 b n0) (L0g b n0)
@[go_sem] theorem k20_n : k20 b n0 .normal (ee2 x1 x3 x4) S = L0 b n0 x1 x3 x4 (gc n0 (ee2 x1 x3 x4) S) := nr (by kernel_rfl)
@[go_sem] theorem k20_x1 : k20 b n0 (.exit 0) (ee3 x1 x3 x4 x9) S = (k17 b) (.exit 0) (ee3 .undef x3 .undef .undef) (gc n0 (ee3 .undef x3 .undef .undef) S) := nr ((show k20 b n0 (.exit 0) (ee3 x1 x3 x4 x9) S = (k19 b n0) (.exit 0) (ee3 x1 x3 x4 x9) S from stepC_x _ _ _ _ _ _).trans ((show (k19 b n0) (.exit 0) (ee3 x1 x3 x4 x9) S = _ from afterC_x _ _ _ _ _ _ _).trans (if_pos rfl)))
def c21 : Code := at0 c18
def c22 : Code := at1 c18
def c23 : Code := at0 c22
def c24 : Code := at1 c22
def k25 (b n0 : Nat) : KT := seqC (fun e S => execL (C b) 0 c24 (k20 b n0) e S) (k20 b n0)
@[go_sem] theorem g26 : execL (C b) 0 c24 K (ee2 x1 x3 x4) S =
  withV (some x4) fun x10 =>
    withV (evBin .add (tyi Try.prog 3) x10 (.int .i64 1)) fun x11 =>
    withV (some x11) fun x4 =>
    K .normal (ee2 x1 x3 x4) S := nr (by kernel_rfl)
@[go_sem] theorem k25_n : k25 b n0 .normal e S = execL (C b) 0 c24 (k20 b n0) e S := nr (seqN rfl)
def k27 (b n0 : Nat) : KT := seqC (fun e S => execL (C b) 0 c22 (k20 b n0) e S) (k20 b n0)
def c28 : Code := atB c23
def k29 (b n0 : Nat) : KT := blockC 1 (k25 b n0)
@[go_sem] theorem k29_n : k29 b n0 .normal e S = (k25 b n0) .normal e S := nr (blockC_n _ _ _ _)
@[go_sem] theorem g30 : execL (C b) 1 c28 K (ee3 x1 x3 x4 x9) S =
  withV (some x3) fun x12 =>
    withV (evFieldAddr (tyi Try.prog 54) 3 x1) fun x13 =>
    withV (evLoad (tyi Try.prog 52) S x13) fun x14 =>
    withV (some x4) fun x15 =>
    withV (indexAddrO Try.prog 52 S x14 x15) fun x16 =>
    withV (evLoad (tyi Try.prog 54) S x16) fun x17 =>
    withN (callO (callL Try.prog hints) S 35 [x17]) S fun x18 S =>
    withV (evBin .add (tyi Try.prog 3) x12 x18) fun x19 =>
    withV (some x19) fun x3 =>
    K .normal (ee2 x1 x3 x4) S := nr (by kernel_rfl)
@[go_sem] theorem k27_n : k27 b n0 .normal (ee3 x1 x3 x4 x9) S =
  execL (C b) 1 c28 (k29 b n0) (ee3 x1 x3 x4 x9) S := nr (seqN ((enterS (by kernel_rfl)).trans (blockE (by kernel_rfl))))
@[go_sem] theorem k27_exit : k27 b n0 (.exit i) e S = (k20 b n0) (.exit i) e S := nr (seqC_x _ _ _ _ _)
def c31 : Code := at0 c21
def c32 : Code := at1 c21
def k33 (b n0 : Nat) : KT := seqC (fun e S => execL (C b) 0 c32 (k27 b n0) e S) (k27 b n0)
@[go_sem] theorem k33_n : k33 b n0 .normal (ee3 x1 x3 x4 x9) S =
  condC x9 ((k27 b n0) .normal (ee3 x1 x3 x4 x9) S)
    ((k27 b n0) (.exit 0) (ee3 x1 x3 x4 x9) S) := nr (seqN (condE (t := 9) (by kernel_rfl) (execL_skip (by kernel_rfl)) (execL_exit (by kernel_rfl)) rfl))
@[go_sem] theorem g36 : execL (C b) 0 c31 K (ee2 x1 x3 x4) S =
  withV (some x4) fun x5 =>
    withV (evFieldAddr (tyi Try.prog 54) 3 x1) fun x6 =>
    withV (evLoad (tyi Try.prog 52) S x6) fun x7 =>
    withV (lenO (tyi Try.prog 52) x7) fun x8 =>
    withV (evBin .lss (tyi Try.prog 3) x5 x8) fun x9 =>
    K .normal (ee3 x1 x3 x4 x9) S := nr (by kernel_rfl)
def B0 (b n0 : Nat) (x1 x3 x4 : PV) (S : Store) : RT := execL (C b) 0 c18 (k20 b n0) (ee2 x1 x3 x4) S
@[go_sem] theorem B0_eq : B0 b n0 x1 x3 x4 S =
  execL (C b) 0 c31 (k33 b n0) (ee2 x1 x3 x4) S := nr ((enterS (by kernel_rfl)).trans (enterS (by kernel_rfl)))
theorem L0_step {b n0 : Nat} {x1 x3 x4 : PV} {S : Store} {z : PV × Store} (h : B0 b n0 x1 x3 x4 S = some z) : L0 b n0 x1 x3 x4 S = some z := loopL_step h
theorem L0_in (b : Nat) (x1 x3 x4 : PV) (S : Store) : execL (C b) 0 c16 (k17 b) (ee2 x1 x3 x4) S = L0 b (List.length S) x1 x3 x4 S := by kernel_rfl
@[go_sem] theorem k15_n : k15 b .normal (ee2 x1 x3 x4) S =
  L0 b (List.length S) x1 x3 x4 S := nr (seqN ((blockE (by kernel_rfl)).trans (L0_in b x1 x3 x4 S)))
@[go_sem] theorem g38 : execL (C b) 0 c13 K (ee1 x1 x3) S =
  withV (some (.int .i64 0)) fun x4 =>
    K .normal (ee2 x1 x3 x4) S := nr (by kernel_rfl)
@[go_sem] theorem k12_n : k12 b .normal (ee1 x1 x3) S =
  execL (C b) 0 c13 (k15 b) (ee1 x1 x3) S := nr (seqN ((enterS (by kernel_rfl)).trans (enterS (by kernel_rfl))))
def k39 (b : Nat) : KT := seqC (fun e S => execL (C b) 0 c2 (k0 b) e S) (k0 b)
@[go_sem] theorem g40 : execL (C b) 0 c3 K (ee0 x1) S =
  withV (some (.int .i64 1)) fun x3 =>
    K .normal (ee1 x1 x3) S := nr (by kernel_rfl)
@[go_sem] theorem k39_n : k39 b .normal e S = execL (C b) 0 c3 (k12 b) e S := nr (seqN (enterS (by kernel_rfl)))
@[go_sem] theorem g41 : execL (C b) 0 c1 K [(0, x0)] S =
  withN (boxed S (List.length S) (TI.size (tyi Try.prog 54)) x0) S fun x1 S =>
    withV (some (.int .i64 0)) fun x2 =>
    K .normal (ee0 x1) S := nr (by kernel_rfl)
def E (b : Nat) (x0 : PV) (S : Store) : RT := execL (C b) 0 code (k0 b) [(0, x0)] S
@[go_sem] theorem E_eq : E b x0 S =
  execL (C b) 0 c1 (k39 b) [(0, x0)] S := nr (enterS (by kernel_rfl))
@[go_sem] theorem gc_ee2 : gc n (ee2 x1 x3 x4) S = gc n [(1, x1), (3, x3), (4, x4)] S := nr (rfl)
@[go_sem] theorem gc_ee3 : gc n (ee3 x1 x3 x4 x9) S = gc n [(1, x1), (3, x3), (4, x4), (9, x9)] S := nr (rfl)
@[go_sem] theorem k0_ret4 : k0 b .ret (ee4 x2) S = some (x2, S) := nr (by kernel_rfl)
theorem call {x0 : PV} {r : PV × Store} {v : PV} (h : E 0 x0 [] = some r) (hv : fzPV r.2 r.1 = some v) : callL Try.prog hints 35 [x0] = some v := callL_of (fn := Try.f35) (c := code) (by kernel_rfl) (by kernel_rfl) (by decide) (by kernel_rfl) (Nat.le_of_ble_eq_true (by kernel_rfl)) h hv
end
end F35
/-! ### tree.Size -/
namespace F43
section
variable (b i n n0 : Nat) (K : KT) (x0 x1 x2 x3 x5 x7 x8 x9 x10 : PV) (e : Env) (S : Store)
noncomputable def hint : Hint := { keep := [], loops := [(0, { live := [3, 7, 8, 9], after := [3], own := [], fz := [] })], regs := [(0, [1]), (1, [1, 3]), (2, [3, 7, 8, 9]), (3, [3, 7, 8, 9, 10]), (4, [3, 5, 7, 8, 9]), (5, [3, 7, 8, 9]), (6, [3, 7, 8, 9]), (7, [2])] }
noncomputable def C (b : Nat) : Ctx := ctxL Try.prog hints b hint
noncomputable def code : Code := Try.f43.body.get rfl
noncomputable def k0 (b : Nat) : KT := endC Try.prog Try.f43
def ee0 (x1 : PV) : Env := [(1, x1)]
def ee1 (x1 x3 : PV) : Env := [(1, x1), (3, x3)]
def ee2 (x2 : PV) : Env := [(2, x2)]
def ee3 (x3 x5 x7 x8 x9 : PV) : Env := [(3, x3), (5, x5), (7, x7), (8, x8), (9, x9)]
def ee4 (x3 x7 x8 x9 : PV) : Env := [(3, x3), (7, x7), (8, x8), (9, x9)]
def ee5 (x3 x7 x8 x9 x10 : PV) : Env := [(3, x3), (7, x7), (8, x8), (9, x9), (10, x10)]
def c1 : Code := at0 code
def c2 : Code := at1 code
def c3 : Code := at0 c2
def c4 : Code := at1 c2
def c5 : Code := at0 c4
def c6 : Code := at1 c4
def c7 : Code := at0 c6
def c8 : Code := at1 c6
def k9 (b : Nat) : KT := seqC (fun e S => execL (C b) 0 c8 (k0 b) e S) (k0 b)
@[go_sem] theorem k9_n : k9 b .normal (ee2 x2) S =
  (k0 b) .ret (ee2 x2) S := nr (seqN (execL_ret (by kernel_rfl)))
def k10 (b : Nat) : KT := seqC (fun e S => execL (C b) 0 c6 (k0 b) e S) (k0 b)
@[go_sem] theorem g11 : execL (C b) 0 c7 K (ee5 x3 x7 x8 x9 x10) S =
  withV (some x3) fun x18 =>
    withV (some x18) fun x2 =>
    K .normal (ee2 x2) S := nr (by kernel_rfl)
@[go_sem] theorem k10_n : k10 b .normal e S = execL (C b) 0 c7 (k9 b) e S := nr (seqN (enterS (by kernel_rfl)))
def k12 (b : Nat) : KT := seqC (fun e S => execL (C b) 0 c4 (k0 b) e S) (k0 b)
def c13 : Code := at0 c5
def c14 : Code := at1 c5
def k15 (b : Nat) : KT := seqC (fun e S => execL (C b) 0 c14 (k10 b) e S) (k10 b)
def c16 : Code := atB c14
def k17 (b : Nat) : KT := blockC 0 (k10 b)
@[go_sem] theorem k17_exit : k17 b (.exit i) e S = if i = 0 then (k10 b) .normal e S else (k10 b) (.exit i) e S := nr (blockC_x _ _ _ _ _)
def c18 : Code := atL c16
def k19 (b n0 : Nat) : KT := afterC 0 n0 [3] (k17 b)
def L0g (b n0 : Nat) (e : Env) (S : Store) : RT := loopL (fun K e S => execL (C b) 0 c18 K e S) (normG [3, 7, 8, 9] [] n0) (k19 b n0) e S
def L0 (b n0 : Nat) (x3 x7 x8 x9 : PV) (S : Store) : RT := L0g b n0 (ee4 x3 x7 x8 x9) S
def k20 (b n0 : Nat) : KT := stepC (normG [3, 7, 8, 9] [] n0) (k19 b n0) (L0g b n0)
@[go_sem] theorem k20_n : k20 b n0 .normal (ee4 x3 x7 x8 x9) S = L0 b n0 x3 x7 x8 x9 (gc n0 (ee4 x3 x7 x8 x9) S) := nr (by kernel_rfl)
@[go_sem] theorem k20_x1 : k20 b n0 (.exit 0) (ee5 x3 x7 x8 x9 x10) S = (k17 b) (.exit 0) (ee5 x3 .undef .undef .undef .undef) (gc n0 (ee5 x3 .undef .undef .undef .undef) S) := nr ((show k20 b n0 (.exit 0) (ee5 x3 x7 x8 x9 x10) S = (k19 b n0) (.exit 0) (ee5 x3 x7 x8 x9 x10) S from stepC_x _ _ _ _ _ _).trans ((show (k19 b n0) (.exit 0) (ee5 x3 x7 x8 x9 x10) S = _ from afterC_x _ _ _ _ _ _ _).trans (if_pos rfl)))
def c21 : Code := at0 c18
def c22 : Code := at1 c18
def c24 : Code := at1 c22
def c25 : Code := at0 c24
def c26 : Code := at1 c24
def k27 (b n0 : Nat) : KT := seqC (fun e S => execL (C b) 0 c26 (k20 b n0) e S) (k20 b n0)
@[go_sem] theorem g28 : execL (C b) 0 c26 K (ee4 x3 x7 x8 x9) S =
  withV (evBin .add (tyi Try.prog 3) x9 (.int .i64 1)) fun x17 =>
    withV (some x17) fun x9 =>
    K .normal (ee4 x3 x7 x8 x9) S := nr (by kernel_rfl)
@[go_sem] theorem k27_n : k27 b n0 .normal e S = execL (C b) 0 c26 (k20 b n0) e S := nr (seqN rfl)
def k29 (b n0 : Nat) : KT := seqC (fun e S => execL (C b) 0 c24 (k20 b n0) e S) (k20 b n0)
def c30 : Code := atB c25
def k31 (b n0 : Nat) : KT := blockC 1 (k27 b n0)
@[go_sem] theorem k31_n : k31 b n0 .normal e S = (k27 b n0) .normal e S := nr (blockC_n _ _ _ _)
def c32 : Code := at0 c30
def c33 : Code := at1 c30
def k34 (b n0 : Nat) : KT := seqC (fun e S => execL (C b) 1 c33 (k31 b n0) e S) (k31 b n0)
@[go_sem] theorem g35 : execL (C b) 1 c33 K (ee3 x3 x5 x7 x8 x9) S =
  withV (some x3) fun x13 =>
    withV (evLoad (tyi Try.prog 54) S x5) fun x14 =>
    withN (callO (callL Try.prog hints) S 43 [x14]) S fun x15 S =>
    withV (evBin .add (tyi Try.prog 3) x13 x15) fun x16 =>
    withV (some x16) fun x3 =>
    K .normal (ee4 x3 x7 x8 x9) S := nr (by kernel_rfl)
@[go_sem] theorem k34_n : k34 b n0 .normal e S = execL (C b) 1 c33 (k31 b n0) e S := nr (seqN rfl)
@[go_sem] theorem g36 : execL (C b) 1 c32 K (ee5 x3 x7 x8 x9 x10) S =
  withV (indexAddrO Try.prog 52 S x7 x9) fun x11 =>
    withV (evLoad (tyi Try.prog 54) S x11) fun x12 =>
    withN (allocO (tyi Try.prog 54) (List.length S)) S fun x5 S =>
    withS (storeE (tyi Try.prog 54) S x5 x12) fun _u S =>
    K .normal (ee3 x3 x5 x7 x8 x9) S := nr (by kernel_rfl)
@[go_sem] theorem k29_n : k29 b n0 .normal (ee5 x3 x7 x8 x9 x10) S =
  execL (C b) 1 c32 (k34 b n0) (ee5 x3 x7 x8 x9 x10) S := nr (seqN ((enterS (by kernel_rfl)).trans ((blockE (by kernel_rfl)).trans (enterS (by kernel_rfl)))))
@[go_sem] theorem k29_exit : k29 b n0 (.exit i) e S = (k20 b n0) (.exit i) e S := nr (seqC_x _ _ _ _ _)
def k37 (b n0 : Nat) : KT := seqC (fun e S => execL (C b) 0 c22 (k20 b n0) e S) (k20 b n0)
@[go_sem] theorem k37_n : k37 b n0 .normal (ee5 x3 x7 x8 x9 x10) S =
  condC x10 ((k29 b n0) .normal (ee5 x3 x7 x8 x9 x10) S)
    ((k29 b n0) (.exit 0) (ee5 x3 x7 x8 x9 x10) S) := nr (seqN ((enterS (by kernel_rfl)).trans (condE (t := 10) (by kernel_rfl) (execL_skip (by kernel_rfl)) (execL_exit (by kernel_rfl)) rfl)))
@[go_sem] theorem g40 : execL (C b) 0 c21 K (ee4 x3 x7 x8 x9) S =
  withV (evBin .lss (tyi Try.prog 3) x9 x8) fun x10 =>
    K .normal (ee5 x3 x7 x8 x9 x10) S := nr (by kernel_rfl)
def B0 (b n0 : Nat) (x3 x7 x8 x9 : PV) (S : Store) : RT := execL (C b) 0 c18 (k20 b n0) (ee4 x3 x7 x8 x9) S
@[go_sem] theorem B0_eq : B0 b n0 x3 x7 x8 x9 S =
  execL (C b) 0 c21 (k37 b n0) (ee4 x3 x7 x8 x9) S := nr (enterS (by kernel_rfl))
theorem L0_step {b n0 : Nat} {x3 x7 x8 x9 : PV} {S : Store} {z : PV × Store} (h : B0 b n0 x3 x7 x8 x9 S = some z) : L0 b n0 x3 x7 x8 x9 S = some z := loopL_step h
theorem L0_in (b : Nat) (x3 x7 x8 x9 : PV) (S : Store) : execL (C b) 0 c16 (k17 b) (ee4 x3 x7 x8 x9) S = L0 b (List.length S) x3 x7 x8 x9 S := by kernel_rfl
@[go_sem] theorem k15_n : k15 b .normal (ee4 x3 x7 x8 x9) S =
  L0 b (List.length S) x3 x7 x8 x9 S := nr (seqN ((blockE (by kernel_rfl)).trans (L0_in b x3 x7 x8 x9 S)))
@[go_sem] theorem g42 : execL (C b) 0 c13 K (ee1 x1 x3) S =
  withV (evFieldAddr (tyi Try.prog 54) 3 x1) fun x6 =>
    withV (evLoad (tyi Try.prog 52) S x6) fun x7 =>
    withV (lenO (tyi Try.prog 52) x7) fun x8 =>
    withV (some (.int .i64 0)) fun x9 =>
    K .normal (ee4 x3 x7 x8 x9) S := nr (by kernel_rfl)
@[go_sem] theorem k12_n : k12 b .normal (ee1 x1 x3) S =
  execL (C b) 0 c13 (k15 b) (ee1 x1 x3) S := nr (seqN ((enterS (by kernel_rfl)).trans (enterS (by kernel_rfl))))
def k43 (b : Nat) : KT := seqC (fun e S => execL (C b) 0 c2 (k0 b) e S) (k0 b)
@[go_sem] theorem g44 : execL (C b) 0 c3 K (ee0 x1) S =
  withV (some (.int .i64 1)) fun x3 =>
    K .normal (ee1 x1 x3) S := nr (by kernel_rfl)
@[go_sem] theorem k43_n : k43 b .normal e S = execL (C b) 0 c3 (k12 b) e S := nr (seqN (enterS (by kernel_rfl)))
@[go_sem] theorem g45 : execL (C b) 0 c1 K [(0, x0)] S =
  withN (boxed S (List.length S) (TI.size (tyi Try.prog 54)) x0) S fun x1 S =>
    withV (some (.int .i64 0)) fun x2 =>
    K .normal (ee0 x1) S := nr (by kernel_rfl)
def E (b : Nat) (x0 : PV) (S : Store) : RT := execL (C b) 0 code (k0 b) [(0, x0)] S
@[go_sem] theorem E_eq : E b x0 S =
  execL (C b) 0 c1 (k43 b) [(0, x0)] S := nr (enterS (by kernel_rfl))
@[go_sem] theorem k0_ret2 : k0 b .ret (ee2 x2) S = some (x2, S) := nr (by kernel_rfl)
@[go_sem] theorem gc_ee4 : gc n (ee4 x3 x7 x8 x9) S = gc n [(3, x3), (7, x7), (8, x8), (9, x9)] S := nr (rfl)
@[go_sem] theorem gc_ee5 : gc n (ee5 x3 x7 x8 x9 x10) S = gc n [(3, x3), (7, x7), (8, x8), (9, x9), (10, x10)] S := nr (rfl)
theorem call {x0 : PV} {r : PV × Store} {v : PV} (h : E 0 x0 [] = some r) (hv : fzPV r.2 r.1 = some v) : callL Try.prog hints 43 [x0] = some v := callL_of (fn := Try.f43) (c := code) (by kernel_rfl) (by kernel_rfl) (by decide) (by kernel_rfl) (Nat.le_of_ble_eq_true (by kernel_rfl)) h hv
end
end F43
/-! ### tree.Levels -/
namespace F44
section
variable (b i n n0 : Nat) (K : KT) (x0 x1 x2 x3 x5 x7 x8 x9 x10 : PV) (e : Env) (S : Store)
end
end F44
/-! ### isochroneref08.Levels -/
namespace F45
section
variable (b i n n0 : Nat) (K : KT) (x0 x1 x2 x3 x4 x9 : PV) (e : Env) (S : Store)
noncomputable def hint : Hint := { keep := [], loops := [(0, { live := [1, 3, 4], after := [3], own := [], fz := [] })], regs := [(0, [1]), (1, [1, 3]), (2, [1, 3, 4]), (3, [1, 3, 4, 9]), (4, [1, 3, 4]), (5, [1, 3, 4]), (6, [2])] }
noncomputable def C (b : Nat) : Ctx := ctxL Try.prog hints b hint
noncomputable def code : Code := Try.f45.body.get rfl
noncomputable def k0 (b : Nat) : KT := endC Try.prog Try.f45
def ee0 (x1 : PV) : Env := [(1, x1)]
def ee1 (x1 x3 : PV) : Env := [(1, x1), (3, x3)]
def ee2 (x1 x3 x4 : PV) : Env := [(1, x1), (3, x3), (4, x4)]
def ee3 (x1 x3 x4 x9 : PV) : Env := [(1, x1), (3, x3), (4, x4), (9, x9)]
def ee4 (x2 : PV) : Env := [(2, x2)]
def c1 : Code := at0 code
def c2 : Code := at1 code
def c3 : Code := at0 c2
def c4 : Code := at1 c2
def c5 : Code := at0 c4
def c6 : Code := at1 c4
def c7 : Code := at0 c6
def c8 : Code := at1 c6
def k9 (b : Nat) : KT := seqC (fun e S => execL (C b) 0 c8 (k0 b) e S) (k0 b)
@[go_sem] theorem k9_n : k9 b .normal (ee4 x2) S =
  (k0 b) .ret (ee4 x2) S := nr (seqN (execL_ret (by kernel_rfl)))
def k10 (b : Nat) : KT := seqC (fun e S => execL (C b) 0 c6 (k0 b) e S) (k0 b)
@[go_sem] theorem g11 : execL (C b) 0 c7 K (ee3 x1 x3 x4 x9) S =
  withV (some x3) fun x20 =>
    withV (evBin .add (tyi Try.prog 3) x20 (.int .i64 1)) fun x21 =>
    withV (some x21) fun x2 =>
    K .normal (ee4 x2) S := nr (by kernel_rfl)
@[go_sem] theorem k10_n : k10 b .normal e S = execL (C b) 0 c7 (k9 b) e S := nr (seqN (enterS (by kernel_rfl)))
def k12 (b : Nat) : KT := seqC (fun e S => execL (C b) 0 c4 (k0 b) e S) (k0 b)
def c13 : Code := at0 c5
def c14 : Code := at1 c5
def k15 (b : Nat) : KT := seqC (fun e S => execL (C b) 0 c14 (k10 b) e S) (k10 b)
def c16 : Code := atB c14
def k17 (b : Nat) : KT := blockC 0 (k10 b)
@[go_sem] theorem k17_exit : k17 b (.exit i) e S = if i = 0 then (k10 b) .normal e S else (k10 b) (.exit i) e S := nr (blockC_x _ _ _ _ _)
def c18 : Code := atL c16
def k19 (b n0 : Nat) : KT := afterC 0 n0 [3] (k17 b)
def L0g (b n0 : Nat) (e : Env) (S : Store) : RT := loopL (fun K e S => execL (C b) 0 c18 K e S) (normG [1, 3, 4] [] n0) (k19 b n0) e S
def L0 (b n0 : Nat) (x1 x3 x4 : PV) (S : Store) : RT := L0g b n0 (ee2 x1 x3 x4) S
def k20 (b n0 : Nat) : KT := stepC (normG [1, 3, 4] [] n0) (k19 b n0) (L0g b n0)
@[go_sem] theorem k20_n : k20 b n0 .normal (ee2 x1 x3 x4) S = L0 b n0 x1 x3 x4 (gc n0 (ee2 x1 x3 x4) S) := nr (by kernel_rfl)
@[go_sem] theorem k20_x1 : k20 b n0 (.exit 0) (ee3 x1 x3 x4 x9) S = (k17 b) (.exit 0) (ee3 .undef x3 .undef .undef) (gc n0 (ee3 .undef x3 .undef .undef) S) := nr ((show k20 b n0 (.exit 0) (ee3 x1 x3 x4 x9) S = (k19 b n0) (.exit 0) (ee3 x1 x3 x4 x9) S from stepC_x _ _ _ _ _ _).trans ((show (k19 b n0) (.exit 0) (ee3 x1 x3 x4 x9) S = _ from afterC_x _ _ _ _ _ _ _).trans (if_pos rfl)))
def c21 : Code := at0 c18
def c22 : Code := at1 c18
def c23 : Code := at0 c22
def c24 : Code := at1 c22
def k25 (b n0 : Nat) : KT := seqC (fun e S => execL (C b) 0 c24 (k20 b n0) e S) (k20 b n0)
@[go_sem] theorem g26 : execL (C b) 0 c24 K (ee2 x1 x3 x4) S =
  withV (some x4) fun x10 =>
    withV (evBin .add (tyi Try.prog 3) x10 (.int .i64 1)) fun x11 =>
    withV (some x11) fun x4 =>
    K .normal (ee2 x1 x3 x4) S := nr (by kernel_rfl)
@[go_sem] theorem k25_n : k25 b n0 .normal e S = execL (C b) 0 c24 (k20 b n0) e S := nr (seqN rfl)
def k27 (b n0 : Nat) : KT := seqC (fun e S => execL (C b) 0 c22 (k20 b n0) e S) (k20 b n0)
def c28 : Code := atB c23
def k29 (b n0 : Nat) : KT := blockC 1 (k25 b n0)
@[go_sem] theorem k29_n : k29 b n0 .normal e S = (k25 b n0) .normal e S := nr (blockC_n _ _ _ _)
@[go_sem] theorem g30 : execL (C b) 1 c28 K (ee3 x1 x3 x4 x9) S =
  withV (some x3) fun x12 =>
    withV (evFieldAddr (tyi Try.prog 54) 3 x1) fun x13 =>
    withV (evLoad (tyi Try.prog 52) S x13) fun x14 =>
    withV (some x4) fun x15 =>
    withV (indexAddrO Try.prog 52 S x14 x15) fun x16 =>
    withV (evLoad (tyi Try.prog 54) S x16) fun x17 =>
    withN (callO (callL Try.prog hints) S 45 [x17]) S fun x18 S =>
    withV (maxO [x12, x18]) fun x19 =>
    withV (some x19) fun x3 =>
    K .normal (ee2 x1 x3 x4) S := nr (by kernel_rfl)
@[go_sem] theorem k27_n : k27 b n0 .normal (ee3 x1 x3 x4 x9) S =
  execL (C b) 1 c28 (k29 b n0) (ee3 x1 x3 x4 x9) S := nr (seqN ((enterS (by kernel_rfl)).trans (blockE (by kernel_rfl))))
@[go_sem] theorem k27_exit : k27 b n0 (.exit i) e S = (k20 b n0) (.exit i) e S := nr (seqC_x _ _ _ _ _)
def c31 : Code := at0 c21
def c32 : Code := at1 c21
def k33 (b n0 : Nat) : KT := seqC (fun e S => execL (C b) 0 c32 (k27 b n0) e S) (k27 b n0)
@[go_sem] theorem k33_n : k33 b n0 .normal (ee3 x1 x3 x4 x9) S =
  condC x9 ((k27 b n0) .normal (ee3 x1 x3 x4 x9) S)
    ((k27 b n0) (.exit 0) (ee3 x1 x3 x4 x9) S) := nr (seqN (condE (t := 9) (by kernel_rfl) (execL_skip (by kernel_rfl)) (execL_exit (by kernel_rfl)) rfl))
@[go_sem] theorem g36 : execL (C b) 0 c31 K (ee2 x1 x3 x4) S =
  withV (some x4) fun x5 =>
    withV (evFieldAddr (tyi Try.prog 54) 3 x1) fun x6 =>
    withV (evLoad (tyi Try.prog 52) S x6) fun x7 =>
    withV (lenO (tyi Try.prog 52) x7) fun x8 =>
    withV (evBin .lss (tyi Try.prog 3) x5 x8) fun x9 =>
    K .normal (ee3 x1 x3 x4 x9) S := nr (by kernel_rfl)
def B0 (b n0 : Nat) (x1 x3 x4 : PV) (S : Store) : RT := execL (C b) 0 c18 (k20 b n0) (ee2 x1 x3 x4) S
@[go_sem] theorem B0_eq : B0 b n0 x1 x3 x4 S =
  execL (C b) 0 c31 (k33 b n0) (ee2 x1 x3 x4) S := nr ((enterS (by kernel_rfl)).trans (enterS (by kernel_rfl)))
theorem L0_step {b n0 : Nat} {x1 x3 x4 : PV} {S : Store} {z : PV × Store} (h : B0 b n0 x1 x3 x4 S = some z) : L0 b n0 x1 x3 x4 S = some z := loopL_step h
theorem L0_in (b : Nat) (x1 x3 x4 : PV) (S : Store) : execL (C b) 0 c16 (k17 b) (ee2 x1 x3 x4) S = L0 b (List.length S) x1 x3 x4 S := by kernel_rfl
@[go_sem] theorem k15_n : k15 b .normal (ee2 x1 x3 x4) S =
  L0 b (List.length S) x1 x3 x4 S := nr (seqN ((blockE (by kernel_rfl)).trans (L0_in b x1 x3 x4 S)))
@[go_sem] theorem g38 : execL (C b) 0 c13 K (ee1 x1 x3) S =
  withV (some (.int .i64 0)) fun x4 =>
    K .normal (ee2 x1 x3 x4) S := nr (by kernel_rfl)
@[go_sem] theorem k12_n : k12 b .normal (ee1 x1 x3) S =
  execL (C b) 0 c13 (k15 b) (ee1 x1 x3) S := nr (seqN ((enterS (by kernel_rfl)).trans (enterS (by kernel_rfl))))
def k39 (b : Nat) : KT := seqC (fun e S => execL (C b) 0 c2 (k0 b) e S) (k0 b)
@[go_sem] theorem g40 : execL (C b) 0 c3 K (ee0 x1) S =
  withV (some (.int .i64 0)) fun x3 =>
    K .normal (ee1 x1 x3) S := nr (by kernel_rfl)
@[go_sem] theorem k39_n : k39 b .normal e S = execL (C b) 0 c3 (k12 b) e S := nr (seqN (enterS (by kernel_rfl)))
@[go_sem] theorem g41 : execL (C b) 0 c1 K [(0, x0)] S =
  withN (boxed S (List.length S) (TI.size (tyi Try.prog 54)) x0) S fun x1 S =>
    withV (some (.int .i64 0)) fun x2 =>
    K .normal (ee0 x1) S := nr (by kernel_rfl)
def E (b : Nat) (x0 : PV) (S : Store) : RT := execL (C b) 0 code (k0 b) [(0, x0)] S
@[go_sem] theorem E_eq : E b x0 S =
  execL (C b) 0 c1 (k39 b) [(0, x0)] S := nr (enterS (by kernel_rfl))
@[go_sem] theorem gc_ee2 : gc n (ee2 x1 x3 x4) S = gc n [(1, x1), (3, x3), (4, x4)] S := nr (rfl)
@[go_sem] theorem gc_ee3 : gc n (ee3 x1 x3 x4 x9) S = gc n [(1, x1), (3, x3), (4, x4), (9, x9)] S := nr (rfl)
@[go_sem] theorem k0_ret4 : k0 b .ret (ee4 x2) S = some (x2, S) := nr (by kernel_rfl)
theorem call {x0 : PV} {r : PV × Store} {v : PV} (h : E 0 x0 [] = some r) (hv : fzPV r.2 r.1 = some v) : callL Try.prog hints 45 [x0] = some v := callL_of (fn := Try.f45) (c := code) (by kernel_rfl) (by kernel_rfl) (by decide) (by kernel_rfl) (Nat.le_of_ble_eq_true (by kernel_rfl)) h hv
end
end F45
end
end Go.Vs
end
/- tree.Size, Levels, and the reference's: what they return. -/
section
set_option linter.unusedVariables false
set_option linter.unusedSimpArgs false
namespace Go.Vs
open Go Go.Proofs
mutual
/-- The number of nodes, as the machine counts. -/
def Node.size : Node → Int
  | .mk _ _ _ _ _ f => Node.sizes 1 f
def Node.sizes : Int → List Node → Int
  | a, [] => a
  | a, n :: r => Node.sizes (IntKind.i64.wrap (a + n.size)) r
end
mutual
/-- The number of levels, as the machine counts. -/
def Node.levels : Node → Int
  | .mk _ _ _ _ _ f => IntKind.i64.wrap (Node.most 0 f + 1)
def Node.most : Int → List Node → Int
  | a, [] => a
  | a, n :: r => Node.most (if a < n.levels then n.levels else a) r
end
theorem Node.size_eq (n : Node) : Node.sizes 1 n.kids = n.size := by cases n; rfl
theorem Node.levels_eq (n : Node) : IntKind.i64.wrap (Node.most 0 n.kids + 1) = n.levels := by cases n; rfl
theorem maxLen_le : maxLen ≤ 9223372036854775807 := by decide
theorem wrap_succ {i n : Nat} (h : i < n) (hn : n ≤ maxLen) : IntKind.i64.wrap ((i : Int) + 1) = ((i + 1 : Nat) : Int) := by
  have := maxLen_le
  rw [IntKind.wrap_i64]; omega
theorem callN {f : FuncId} {n : Node} {v : PV} (S : Store) (h : callL Try.prog hints f [.agg n.cells] = some v) : callO (callL Try.prog hints) S f [.agg n.cells] = some { v } := callO_plain h (by simp [Node.plain])
theorem loop43 (n : Node) (hk : n.kids.length ≤ maxLen) (ih : ∀ k ∈ n.kids, callL Try.prog hints 43 [.agg k.cells] = some (.int .i64 k.size)) : ∀ (m i : Nat), i + m = n.kids.length → ∀ (a : Int),
    F43.L0 0 1 (.int .i64 a) (.sl (Node.rows n.kids) false) (.int .i64 n.kids.length) (.int .i64 i) [.arr [n.cells] none false] = some (.int .i64 (Node.sizes a (n.kids.drop i)), [.arr [n.cells] none false]) := by
  intro m
  induction m with
  | zero =>
    intro i hi a
    apply F43.L0_step
    have h1 : ¬ (i : Int) < (n.kids.length : Int) := by omega
    simp only [go_sem, ↓reduceIte, Nat.reduceEqDiff, Nat.reduceBEq, Nat.reduceAdd, Nat.reduceMul, Nat.reduceSub, Nat.reduceLT, Nat.reduceLeDiff, reduceCtorEq, Int.reduceToNat, Int.reduceLE, Int.reduceLT, Int.reduceEq, h1]
    rw [List.drop_of_length_le (by omega)]
    rfl
  | succ m hm =>
    intro i hi a
    apply F43.L0_step
    have h1 : (i : Int) < (n.kids.length : Int) := by omega
    have h2 := wrap_succ (i := i) (n := n.kids.length) (by omega) hk
    have h4 : 0 ≤ (i : Int) ∧ (i : Int) < (n.kids.length : Int) := ⟨by omega, h1⟩
    have h5 := fun S => callN S (ih _ (kids_mem (l := n.kids) (i := i) (by omega)))
    simp only [go_sem, ↓reduceIte, Nat.reduceEqDiff, Nat.reduceBEq, Nat.reduceAdd, Nat.reduceMul, Nat.reduceSub, Nat.reduceLT, Nat.reduceLeDiff, reduceCtorEq, Int.reduceToNat, Int.reduceLE, Int.reduceLT, Int.reduceEq, h1, h2, h4, h5, hm (i + 1) (by omega)]
    rw [kids_drop (l := n.kids) (i := i) (by omega)]
    rfl
theorem call43 : ∀ n : Node, n.ok → callL Try.prog hints 43 [.agg n.cells] = some (.int .i64 n.size) := by
  refine Node.ind' fun n ih hn => ?_
  have hk : n.kids.length ≤ maxLen ∧ Node.oks n.kids := by cases n; exact ⟨hn.2.2.2.2.2.2.1, hn.2.2.2.2.2.2.2⟩
  refine F43.call (r := (.int .i64 n.size, [.arr [n.cells] none false])) ?_ rfl
  have h := loop43 n hk.1 (fun k hk' => ih k hk' (Node.oks_iff.1 hk.2 k hk')) n.kids.length 0 (by omega) 1
  simp only [Int.natCast_zero, List.drop_zero, Node.size_eq] at h
  simp only [go_sem, ↓reduceIte, Nat.reduceEqDiff, Nat.reduceBEq, Nat.reduceAdd, Nat.reduceMul, Nat.reduceSub, Nat.reduceLT, Nat.reduceLeDiff, reduceCtorEq, Int.reduceToNat, Int.reduceLE, Int.reduceLT, Int.reduceEq, h]
theorem loop35 (n : Node) (hk : n.kids.length ≤ maxLen) (ih : ∀ k ∈ n.kids, callL Try.prog hints 35 [.agg k.cells] = some (.int .i64 k.size)) : ∀ (m i : Nat), i + m = n.kids.length → ∀ (a : Int),
    F35.L0 0 1 (.mp 0 0 0) (.int .i64 a) (.int .i64 i) [.arr [n.cells] none false] = some (.int .i64 (Node.sizes a (n.kids.drop i)), [.arr [n.cells] none false]) := by
  intro m
  induction m with
  | zero =>
    intro i hi a
    apply F35.L0_step
    have h1 : ¬ (i : Int) < (n.kids.length : Int) := by omega
    simp only [go_sem, ↓reduceIte, Nat.reduceEqDiff, Nat.reduceBEq, Nat.reduceAdd, Nat.reduceMul, Nat.reduceSub, Nat.reduceLT, Nat.reduceLeDiff, reduceCtorEq, Int.reduceToNat, Int.reduceLE, Int.reduceLT, Int.reduceEq, h1]
    rw [List.drop_of_length_le (by omega)]
    rfl
  | succ m hm =>
    intro i hi a
    apply F35.L0_step
    have h1 : (i : Int) < (n.kids.length : Int) := by omega
    have h2 := wrap_succ (i := i) (n := n.kids.length) (by omega) hk
    have h4 : 0 ≤ (i : Int) ∧ (i : Int) < (n.kids.length : Int) := ⟨by omega, h1⟩
    have h5 := fun S => callN S (ih _ (kids_mem (l := n.kids) (i := i) (by omega)))
    simp only [go_sem, ↓reduceIte, Nat.reduceEqDiff, Nat.reduceBEq, Nat.reduceAdd, Nat.reduceMul, Nat.reduceSub, Nat.reduceLT, Nat.reduceLeDiff, reduceCtorEq, Int.reduceToNat, Int.reduceLE, Int.reduceLT, Int.reduceEq, h1, h2, h4, h5, hm (i + 1) (by omega)]
    rw [kids_drop (l := n.kids) (i := i) (by omega)]
    rfl
theorem call35 : ∀ n : Node, n.ok → callL Try.prog hints 35 [.agg n.cells] = some (.int .i64 n.size) := by
  refine Node.ind' fun n ih hn => ?_
  have hk : n.kids.length ≤ maxLen ∧ Node.oks n.kids := by cases n; exact ⟨hn.2.2.2.2.2.2.1, hn.2.2.2.2.2.2.2⟩
  refine F35.call (r := (.int .i64 n.size, [.arr [n.cells] none false])) ?_ rfl
  have h := loop35 n hk.1 (fun k hk' => ih k hk' (Node.oks_iff.1 hk.2 k hk')) n.kids.length 0 (by omega) 1
  simp only [Int.natCast_zero, List.drop_zero, Node.size_eq] at h
  simp only [go_sem, ↓reduceIte, Nat.reduceEqDiff, Nat.reduceBEq, Nat.reduceAdd, Nat.reduceMul, Nat.reduceSub, Nat.reduceLT, Nat.reduceLeDiff, reduceCtorEq, Int.reduceToNat, Int.reduceLE, Int.reduceLT, Int.reduceEq, h]
theorem loop45 (n : Node) (hk : n.kids.length ≤ maxLen) (ih : ∀ k ∈ n.kids, callL Try.prog hints 45 [.agg k.cells] = some (.int .i64 k.levels)) : ∀ (m i : Nat), i + m = n.kids.length → ∀ (a : Int),
    F45.L0 0 1 (.mp 0 0 0) (.int .i64 a) (.int .i64 i) [.arr [n.cells] none false] = some (.int .i64 (IntKind.i64.wrap (Node.most a (n.kids.drop i) + 1)), [.arr [n.cells] none false]) := by
  intro m
  induction m with
  | zero =>
    intro i hi a
    apply F45.L0_step
    have h1 : ¬ (i : Int) < (n.kids.length : Int) := by omega
    simp only [go_sem, ↓reduceIte, Nat.reduceEqDiff, Nat.reduceBEq, Nat.reduceAdd, Nat.reduceMul, Nat.reduceSub, Nat.reduceLT, Nat.reduceLeDiff, reduceCtorEq, Int.reduceToNat, Int.reduceLE, Int.reduceLT, Int.reduceEq, h1]
    rw [List.drop_of_length_le (by omega)]
    rfl
  | succ m hm =>
    intro i hi a
    apply F45.L0_step
    have h1 : (i : Int) < (n.kids.length : Int) := by omega
    have h2 := wrap_succ (i := i) (n := n.kids.length) (by omega) hk
    have h4 : 0 ≤ (i : Int) ∧ (i : Int) < (n.kids.length : Int) := ⟨by omega, h1⟩
    have h5 := fun S => callN S (ih _ (kids_mem (l := n.kids) (i := i) (by omega)))
    simp only [go_sem, ↓reduceIte, Nat.reduceEqDiff, Nat.reduceBEq, Nat.reduceAdd, Nat.reduceMul, Nat.reduceSub, Nat.reduceLT, Nat.reduceLeDiff, reduceCtorEq, Int.reduceToNat, Int.reduceLE, Int.reduceLT, Int.reduceEq, h1, h2, h4, h5, hm (i + 1) (by omega)]
    rw [kids_drop (l := n.kids) (i := i) (by omega)]
    rfl
theorem call45 : ∀ n : Node, n.ok → callL Try.prog hints 45 [.agg n.cells] = some (.int .i64 n.levels) := by
  refine Node.ind' fun n ih hn => ?_
  have hk : n.kids.length ≤ maxLen ∧ Node.oks n.kids := by cases n; exact ⟨hn.2.2.2.2.2.2.1, hn.2.2.2.2.2.2.2⟩
  refine F45.call (r := (.int .i64 n.levels, [.arr [n.cells] none false])) ?_ rfl
  have h := loop45 n hk.1 (fun k hk' => ih k hk' (Node.oks_iff.1 hk.2 k hk')) n.kids.length 0 (by omega) 0
  simp only [Int.natCast_zero, List.drop_zero, Node.levels_eq] at h
  simp only [go_sem, ↓reduceIte, Nat.reduceEqDiff, Nat.reduceBEq, Nat.reduceAdd, Nat.reduceMul, Nat.reduceSub, Nat.reduceLT, Nat.reduceLeDiff, reduceCtorEq, Int.reduceToNat, Int.reduceLE, Int.reduceLT, Int.reduceEq, h]
end Go.Vs
end

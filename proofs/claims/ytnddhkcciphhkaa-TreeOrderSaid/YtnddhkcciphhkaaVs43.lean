/- Trees as data, and what operations do with them. -/
import Derived.Test.YtnddhkcciphhkaaVs42
set_option linter.unusedVariables false
set_option linter.unusedSimpArgs false
namespace Go.Vs
open Go Go.Proofs

/-! ### Types -/
theorem und5 : Try.prog.underlying 5 = some (.int .u8) := by kernel_rfl
@[go_sem] theorem d54 : (tyi Try.prog 54).d = .struct [(0, 1, false), (1, 1, false), (2, 3, true), (5, 1, false)] := by kernel_rfl
@[go_sem] theorem d51 : (tyi Try.prog 51).d = .struct [(0, 1, false), (1, 1, false), (2, 1, false)] := by kernel_rfl
@[go_sem] theorem d52 : (tyi Try.prog 52).d = .slice 54 := by kernel_rfl
@[go_sem] theorem d49 : (tyi Try.prog 49).d = .slice 76 := by kernel_rfl
@[go_sem] theorem d22 : (tyi Try.prog 22).d = .slice 3 := by kernel_rfl
@[go_sem] theorem d23 : (tyi Try.prog 23).d = .slice 22 := by kernel_rfl
@[go_sem] theorem d3 : (tyi Try.prog 3).d = .int .i64 := by kernel_rfl
@[go_sem] theorem d76 : (tyi Try.prog 76).d = .int .u32 := by kernel_rfl
@[go_sem] theorem size54 : (tyi Try.prog 54).size = 6 := by kernel_rfl
@[go_sem] theorem size51 : (tyi Try.prog 51).size = 3 := by kernel_rfl
@[go_sem] theorem size52 : (tyi Try.prog 52).size = 1 := by kernel_rfl
@[go_sem] theorem size49 : (tyi Try.prog 49).size = 1 := by kernel_rfl
@[go_sem] theorem size22 : (tyi Try.prog 22).size = 1 := by kernel_rfl
@[go_sem] theorem size3 : (tyi Try.prog 3).size = 1 := by kernel_rfl
@[go_sem] theorem size4 : (tyi Try.prog 4).size = 1 := by kernel_rfl
@[go_sem] theorem size9 : (tyi Try.prog 9).size = 1 := by kernel_rfl
@[go_sem] theorem size76 : (tyi Try.prog 76).size = 1 := by kernel_rfl
@[go_sem] theorem known54 : (tyi Try.prog 54).known = true := by kernel_rfl
@[go_sem] theorem known51 : (tyi Try.prog 51).known = true := by kernel_rfl
@[go_sem] theorem known52 : (tyi Try.prog 52).known = true := by kernel_rfl
@[go_sem] theorem known49 : (tyi Try.prog 49).known = true := by kernel_rfl
@[go_sem] theorem known22 : (tyi Try.prog 22).known = true := by kernel_rfl
@[go_sem] theorem known3 : (tyi Try.prog 3).known = true := by kernel_rfl
@[go_sem] theorem known4 : (tyi Try.prog 4).known = true := by kernel_rfl
@[go_sem] theorem known9 : (tyi Try.prog 9).known = true := by kernel_rfl
@[go_sem] theorem known76 : (tyi Try.prog 76).known = true := by kernel_rfl
@[go_sem] theorem zero54 : (tyi Try.prog 54).zero = some [.int .i64 0, .str ByteArray.empty, .bool false, .sl [] true, .sl [] true, .sl [] true] := by kernel_rfl
@[go_sem] theorem zero51 : (tyi Try.prog 51).zero = some [.bool false, .sl [] true, .sl [] true] := by kernel_rfl
@[go_sem] theorem part3 (v : PV) (r : List PV) : part (tyi Try.prog 3) (v :: r) = some v := by simp [part, known3, TI.isAgg, d3]
@[go_sem] theorem part4 (v : PV) (r : List PV) : part (tyi Try.prog 4) (v :: r) = some v := by simp [part, known4, TI.isAgg, tyi4]
@[go_sem] theorem part9 (v : PV) (r : List PV) : part (tyi Try.prog 9) (v :: r) = some v := by simp [part, known9, TI.isAgg, tyi9]
@[go_sem] theorem part76 (v : PV) (r : List PV) : part (tyi Try.prog 76) (v :: r) = some v := by simp [part, known76, TI.isAgg, d76]
@[go_sem] theorem part49 (v : PV) (r : List PV) : part (tyi Try.prog 49) (v :: r) = some v := by simp [part, known49, TI.isAgg, d49]
@[go_sem] theorem part52 (v : PV) (r : List PV) : part (tyi Try.prog 52) (v :: r) = some v := by simp [part, known52, TI.isAgg, d52]
@[go_sem] theorem part22 (v : PV) (r : List PV) : part (tyi Try.prog 22) (v :: r) = some v := by simp [part, known22, TI.isAgg, d22]
@[go_sem] theorem part51 (a b c : PV) (r : List PV) : part (tyi Try.prog 51) (a :: b :: c :: r) = some (.agg [a, b, c]) := by simp [part, known51, TI.isAgg, d51, size51]
@[go_sem] theorem part54 (a b c d e f : PV) (r : List PV) : part (tyi Try.prog 54) (a :: b :: c :: d :: e :: f :: r) = some (.agg [a, b, c, d, e, f]) := by simp [part, known54, TI.isAgg, d54, size54]

/-! ### Memory -/
@[go_sem] theorem evLoad_cp (ti : TI) (S : Store) (r : List PV) : evLoad ti S (.cp r) = part ti r := nr rfl
@[go_sem] theorem evLoad_mp (ti : TI) (S : Store) (id i off : Nat) : evLoad ti S (.mp id i off) = (rowsAt S id).bind fun rows => if i < rows.length then part ti ((rows.getD i []).drop off) else none := nr rfl
@[go_sem] theorem rowsAt_zero (rows : List (List PV)) (g : Option (Option Nat)) (f : Bool) (S : Store) : rowsAt (.arr rows g f :: S) 0 = some rows := nr rfl
@[go_sem] theorem rowsAt_succ (o : Obj) (S : Store) (n : Nat) : rowsAt (o :: S) (n + 1) = rowsAt S n := nr rfl
attribute [go_sem] List.nil_append List.cons_append List.length_cons List.length_nil List.getD_cons_zero List.drop_zero List.drop_succ_cons Nat.zero_add Nat.add_zero Nat.lt_add_one
@[go_sem] theorem fa54_0 (id i off : Nat) : evFieldAddr (tyi Try.prog 54) 0 (.mp id i off) = some (.mp id i off) := by simp [evFieldAddr, d54]
@[go_sem] theorem fa54_1 (id i off : Nat) : evFieldAddr (tyi Try.prog 54) 1 (.mp id i off) = some (.mp id i (off + 1)) := by simp [evFieldAddr, d54]
@[go_sem] theorem fa54_2 (id i off : Nat) : evFieldAddr (tyi Try.prog 54) 2 (.mp id i off) = some (.mp id i (off + 2)) := by simp [evFieldAddr, d54]
@[go_sem] theorem fa54_3 (id i off : Nat) : evFieldAddr (tyi Try.prog 54) 3 (.mp id i off) = some (.mp id i (off + 5)) := by simp [evFieldAddr, d54]
@[go_sem] theorem fc54_0 (r : List PV) : evFieldAddr (tyi Try.prog 54) 0 (.cp r) = some (.cp r) := by simp [evFieldAddr, d54]
@[go_sem] theorem fc54_1 (r : List PV) : evFieldAddr (tyi Try.prog 54) 1 (.cp r) = some (.cp (r.drop 1)) := by simp [evFieldAddr, d54]
@[go_sem] theorem fc54_2 (r : List PV) : evFieldAddr (tyi Try.prog 54) 2 (.cp r) = some (.cp (r.drop 2)) := by simp [evFieldAddr, d54]
@[go_sem] theorem fc54_3 (r : List PV) : evFieldAddr (tyi Try.prog 54) 3 (.cp r) = some (.cp (r.drop 5)) := by simp [evFieldAddr, d54]
@[go_sem] theorem fa51_0 (id i off : Nat) : evFieldAddr (tyi Try.prog 51) 0 (.mp id i off) = some (.mp id i off) := by simp [evFieldAddr, d51]
@[go_sem] theorem fa51_1 (id i off : Nat) : evFieldAddr (tyi Try.prog 51) 1 (.mp id i off) = some (.mp id i (off + 1)) := by simp [evFieldAddr, d51]
@[go_sem] theorem fa51_2 (id i off : Nat) : evFieldAddr (tyi Try.prog 51) 2 (.mp id i off) = some (.mp id i (off + 2)) := by simp [evFieldAddr, d51]
@[go_sem] theorem fc51_0 (r : List PV) : evFieldAddr (tyi Try.prog 51) 0 (.cp r) = some (.cp r) := by simp [evFieldAddr, d51]
@[go_sem] theorem fc51_1 (r : List PV) : evFieldAddr (tyi Try.prog 51) 1 (.cp r) = some (.cp (r.drop 1)) := by simp [evFieldAddr, d51]
@[go_sem] theorem fc51_2 (r : List PV) : evFieldAddr (tyi Try.prog 51) 2 (.cp r) = some (.cp (r.drop 2)) := by simp [evFieldAddr, d51]
@[go_sem] theorem len52 (r : List (List PV)) (ex : Bool) : lenO (tyi Try.prog 52) (.sl r ex) = some (.int .i64 r.length) := lenO_sl _ d52 r ex
@[go_sem] theorem len49 (r : List (List PV)) (ex : Bool) : lenO (tyi Try.prog 49) (.sl r ex) = some (.int .i64 r.length) := lenO_sl _ d49 r ex
@[go_sem] theorem len22 (r : List (List PV)) (ex : Bool) : lenO (tyi Try.prog 22) (.sl r ex) = some (.int .i64 r.length) := lenO_sl _ d22 r ex
@[go_sem] theorem len23 (r : List (List PV)) (ex : Bool) : lenO (tyi Try.prog 23) (.sl r ex) = some (.int .i64 r.length) := lenO_sl _ d23 r ex

/-! ### Trees -/
inductive Node where
  | mk (op : Int) (name : ByteArray) (neg : Bool) (num den : List Int) (kids : List Node)
namespace Node
def op : Node → Int | mk a _ _ _ _ _ => a
def name : Node → ByteArray | mk _ a _ _ _ _ => a
def neg : Node → Bool | mk _ _ a _ _ _ => a
def num : Node → List Int | mk _ _ _ a _ _ => a
def den : Node → List Int | mk _ _ _ _ a _ => a
def kids : Node → List Node | mk _ _ _ _ _ a => a
instance : Inhabited Node := ⟨mk 0 ByteArray.empty false [] [] []⟩
end Node
/-- Words, as rows of memory. -/
def wordRows (l : List Int) : List (List PV) := l.map fun w => [.int .u32 w]
mutual
def Node.cells : Node → List PV
  | .mk a b c d e f => [.int .i64 a, .str b, .bool c, .sl (wordRows d) false, .sl (wordRows e) false, .sl (Node.rows f) false]
def Node.rows : List Node → List (List PV)
  | [] => []
  | n :: r => n.cells :: Node.rows r
end
mutual
/-- What a tree in memory is, besides: numbers in their bounds, lists in theirs. -/
def Node.ok : Node → Prop
  | .mk a b c d e f => (-9223372036854775808 ≤ a ∧ a ≤ 9223372036854775807) ∧ b.size ≤ maxLen ∧ d.length ≤ maxLen ∧ e.length ≤ maxLen ∧ (∀ w ∈ d, 0 ≤ w ∧ w ≤ 4294967295) ∧ (∀ w ∈ e, 0 ≤ w ∧ w ≤ 4294967295) ∧ f.length ≤ maxLen ∧ Node.oks f
def Node.oks : List Node → Prop
  | [] => True
  | n :: r => n.ok ∧ Node.oks r
end
theorem Node.oks_iff : ∀ {l : List Node}, Node.oks l ↔ ∀ n ∈ l, n.ok
  | [] => by simp [Node.oks]
  | n :: r => by simp [Node.oks, Node.oks_iff (l := r)]
theorem Node.ind' {P : Node → Prop} (h : ∀ n, (∀ k ∈ n.kids, P k) → P n) (n : Node) : P n :=
  Node.rec (motive_1 := P) (motive_2 := fun l => ∀ k ∈ l, P k) (fun a b c d e f ih => h (.mk a b c d e f) ih) (by simp)
    (fun n r hn hr k hk => by
      rcases List.mem_cons.1 hk with rfl | hk
      · exact hn
      · exact hr k hk) n
theorem Node.rows_eq : ∀ l, Node.rows l = l.map Node.cells
  | [] => rfl
  | n :: r => by rw [Node.rows, Node.rows_eq r]; rfl
theorem Node.cells_eq (n : Node) : n.cells = [.int .i64 n.op, .str n.name, .bool n.neg, .sl (wordRows n.num) false, .sl (wordRows n.den) false, .sl (Node.rows n.kids) false] := by cases n; rfl
@[go_sem] theorem Node.cells_length (n : Node) : n.cells.length = 6 := by cases n; rfl
@[go_sem] theorem Node.cells_cell (n : Node) : n.cells.all PV.cell = true := by cases n; rfl
@[go_sem] theorem Node.drop1 (n : Node) : n.cells.drop 1 = [.str n.name, .bool n.neg, .sl (wordRows n.num) false, .sl (wordRows n.den) false, .sl (Node.rows n.kids) false] := by cases n; rfl
@[go_sem] theorem Node.drop2 (n : Node) : n.cells.drop 2 = [.bool n.neg, .sl (wordRows n.num) false, .sl (wordRows n.den) false, .sl (Node.rows n.kids) false] := by cases n; rfl
@[go_sem] theorem Node.drop3 (n : Node) : n.cells.drop 3 = [.sl (wordRows n.num) false, .sl (wordRows n.den) false, .sl (Node.rows n.kids) false] := by cases n; rfl
@[go_sem] theorem Node.drop4 (n : Node) : n.cells.drop 4 = [.sl (wordRows n.den) false, .sl (Node.rows n.kids) false] := by cases n; rfl
@[go_sem] theorem Node.drop5 (n : Node) : n.cells.drop 5 = [.sl (Node.rows n.kids) false] := by cases n; rfl
@[go_sem] theorem Node.part54 (n : Node) : part (tyi Try.prog 54) n.cells = some (.agg n.cells) := by cases n; simp only [Node.cells, Vs.part54]
@[go_sem] theorem Node.part3 (n : Node) : part (tyi Try.prog 3) n.cells = some (.int .i64 n.op) := by cases n; simp only [Node.cells, Vs.part3]; rfl
theorem Node.plain (n : Node) : Plain (.agg n.cells) := by cases n; exact ⟨rfl, fun _ => rfl⟩
@[go_sem] theorem Node.fz (S : Store) (n : Node) : fzPV S (.agg n.cells) = some (.agg n.cells) := n.plain.2 S
@[go_sem] theorem Node.refs (n : Node) : refsL n.cells = [] := by cases n; rfl
@[go_sem] theorem Node.rows_length (l : List Node) : (Node.rows l).length = l.length := by rw [Node.rows_eq]; simp
@[go_sem] theorem wordRows_length (l : List Int) : (wordRows l).length = l.length := by simp [wordRows]
@[go_sem] theorem idx52 (S : Store) (l : List Node) (ex : Bool) (i : Int) : indexAddrO Try.prog 52 S (.sl (Node.rows l) ex) (.int .i64 i) = if 0 ≤ i ∧ i < l.length then some (.cp (l.getD i.toNat default).cells) else none := by
  have e1 : elemTy (tyi Try.prog 52) = 54 := by simp [elemTy, d52]
  have e2 : isSlice (tyi Try.prog 52) = true := by simp [isSlice, d52]
  simp only [indexAddrO, e1, e2, known54, size54, and_self, if_true, evIndexAddr, Node.rows_length]
  split
  · rename_i h
    have hl : i.toNat < l.length := by omega
    have e3 : (Node.rows l).getD i.toNat [] = (l.getD i.toNat default).cells := by
      rw [Node.rows_eq]
      simp [List.getD_eq_getElem?_getD, hl]
    rw [e3, if_pos (Node.cells_length _)]
  · rfl
@[go_sem] theorem idx49 (S : Store) (l : List Int) (ex : Bool) (i : Int) : indexAddrO Try.prog 49 S (.sl (wordRows l) ex) (.int .i64 i) = if 0 ≤ i ∧ i < l.length then some (.cp [.int .u32 (l.getD i.toNat 0)]) else none := by
  have e1 : elemTy (tyi Try.prog 49) = 76 := by simp [elemTy, d49]
  have e2 : isSlice (tyi Try.prog 49) = true := by simp [isSlice, d49]
  simp only [indexAddrO, e1, e2, known76, size76, and_self, if_true, evIndexAddr, wordRows_length]
  split
  · rename_i h
    have hl : i.toNat < l.length := by omega
    have e3 : (wordRows l).getD i.toNat [] = [.int .u32 (l.getD i.toNat 0)] := by
      simp [wordRows, List.getD_eq_getElem?_getD, hl]
    rw [e3]
    rfl
  · rfl
@[go_sem] theorem boxed_if (S : Store) (id k : Nat) (v : PV) : boxed S id k v = if v.cells.length = k ∧ v.cells.all PV.cell = true then some { v := .mp id 0 0, new := some ([v.cells], none) } else none := nr rfl
def zeroNode : List PV := [.int .i64 0, .str ByteArray.empty, .bool false, .sl [] true, .sl [] true, .sl [] true]
@[go_sem] theorem alloc54 (id : Nat) : allocO (tyi Try.prog 54) id = some { v := .mp id 0 0, new := some ([zeroNode], none) } := by
  simp [allocO, zero54, zeroNode, PV.cell]
theorem kids_drop {l : List Node} {i : Nat} (h : i < l.length) : l.drop i = l.getD i default :: l.drop (i + 1) := by
  rw [List.drop_eq_getElem_cons h]
  simp [List.getD_eq_getElem?_getD, h]
theorem kids_mem {l : List Node} {i : Nat} (h : i < l.length) : l.getD i default ∈ l := by
  simp [List.getD_eq_getElem?_getD, h]
end Go.Vs

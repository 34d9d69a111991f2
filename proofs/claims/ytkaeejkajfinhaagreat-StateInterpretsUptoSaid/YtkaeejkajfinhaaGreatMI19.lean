import Derived.Laws.Strings
import Derived.Test.YtkaeejkajfinhaaGreatMI18
section
set_option linter.unusedVariables false
set_option linter.unusedSimpArgs false
set_option maxRecDepth 100000
namespace Go.Vs
open Go Go.Proofs
structure RV where
  neg : Bool
  num : List Int
  den : List Int
def RV.cells (v : RV) : List PV := [.bool v.neg, .sl (kRows .u32 v.num) false, .sl (kRows .u32 v.den) false]
structure RV.ok (v : RV) : Prop where
  n : OkD WB v.num
  d : OkD WB v.den
  ln : v.num.length ≤ maxLen
  ld : v.den.length ≤ maxLen
structure Bd where
  name : ByteArray
  val : RV
def Bd.cells (b : Bd) : List PV := [.str b.name, .bool b.val.neg, .sl (kRows .u32 b.val.num) false, .sl (kRows .u32 b.val.den) false]
structure Bd.ok (b : Bd) : Prop where
  s : b.name.size ≤ maxLen
  v : b.val.ok
def bd0 : Bd := ⟨⟨#[]⟩, ⟨false, [], []⟩⟩
def stRows (L : List Bd) : List (List PV) := L.map Bd.cells
@[go_sem] theorem stRows_length (L : List Bd) : (stRows L).length = L.length := nr (by simp [stRows])
@[go_sem] theorem stRows_ok (L : List Bd) : rowsOK 4 (stRows L) = true := nr (enc_ok (enc := Bd.cells) (fun _ => rfl) L)
theorem d_Bind : (tyi Tryz.prog 98).d = .struct [(0, 1, false), (1, 3, true)] := by kernel_rfl
@[go_sem] theorem size_Bind : (tyi Tryz.prog 98).size = 4 := nr (by kernel_rfl)
@[go_sem] theorem known_Bind : (tyi Tryz.prog 98).known = true := nr (by kernel_rfl)
@[go_sem] theorem zero_Bind : (tyi Tryz.prog 98).zero = some [.str ⟨#[]⟩, .bool false, .sl [] true, .sl [] true] := nr (by kernel_rfl)
@[go_sem] theorem alloc_Bind (n : Nat) : allocO (tyi Tryz.prog 98) n = some { v := .mp n 0 0, new := some ([[.str ⟨#[]⟩, .bool false, .sl [] true, .sl [] true]], none) } := nr (by unfold allocO; rw [zero_Bind]; rfl)
@[go_sem] theorem build_Bind (l : List (Nat × PV)) : buildO (tyi Tryz.prog 98) l = (fillV [(0, 1, false), (1, 3, true)] [.str ⟨#[]⟩, .bool false, .sl [] true, .sl [] true] l).map .agg := nr (by unfold buildO; rw [d_Bind, zero_Bind]; rfl)
@[go_sem] theorem fm_Bind_0 (id i off : Nat) : evFieldAddr (tyi Tryz.prog 98) 0 (.mp id i off) = some (.mp id i (off + 0)) := by simp [evFieldAddr, d_Bind]
@[go_sem] theorem fk_Bind_0 (r : List PV) : evFieldAddr (tyi Tryz.prog 98) 0 (.cp r) = some (.cp (r.drop 0)) := by simp [evFieldAddr, d_Bind]
@[go_sem] theorem fv_Bind_0 (cs : List PV) : evField (tyi Tryz.prog 98) 0 (.agg cs) = cs[0]? := by simp [evField, d_Bind]
@[go_sem] theorem fm_Bind_1 (id i off : Nat) : evFieldAddr (tyi Tryz.prog 98) 1 (.mp id i off) = some (.mp id i (off + 1)) := by simp [evFieldAddr, d_Bind]
@[go_sem] theorem fk_Bind_1 (r : List PV) : evFieldAddr (tyi Tryz.prog 98) 1 (.cp r) = some (.cp (r.drop 1)) := by simp [evFieldAddr, d_Bind]
@[go_sem] theorem fv_Bind_1 (cs : List PV) : evField (tyi Tryz.prog 98) 1 (.agg cs) = if 1 + 3 ≤ cs.length then some (.agg ((cs.drop 1).take 3)) else none := by simp [evField, d_Bind]
theorem sl_st : SlT 35 98 4 72 := ⟨by kernel_rfl, by kernel_rfl, by kernel_rfl, by kernel_rfl, by kernel_rfl⟩
theorem sl_ss : SlT 45 9 1 16 := ⟨by kernel_rfl, by kernel_rfl, by kernel_rfl, by kernel_rfl, by kernel_rfl⟩
@[go_sem] theorem len_st (r : List (List PV)) (ex : Bool) : lenO (tyi Tryz.prog 35) (.sl r ex) = some (.int .i64 r.length) := nr (sl_st.len r ex)
@[go_sem] theorem lenm_st (i o l : Nat) (ex : Bool) : lenO (tyi Tryz.prog 35) (.msl i o l ex) = some (.int .i64 l) := nr (sl_st.lenm i o l ex)
@[go_sem] theorem len_ss (r : List (List PV)) (ex : Bool) : lenO (tyi Tryz.prog 45) (.sl r ex) = some (.int .i64 r.length) := nr (sl_ss.len r ex)
@[go_sem] theorem idx_st (S : Store) (L : List Bd) (ex : Bool) (i : Int) : indexAddrO Tryz.prog 35 S (.sl (stRows L) ex) (.int .i64 i) = if 0 ≤ i ∧ i < L.length then some (.cp (L.getD i.toNat bd0).cells) else none := nr (sl_st.idx (fun _ => rfl) bd0 S L ex i)
@[go_sem] theorem part_str (v : PV) (r : List PV) : part (tyi Tryz.prog 9) (v :: r) = some v := by
  have e : (tyi Tryz.prog 9).isAgg = false := by kernel_rfl
  simp [part, kn_str, e]
@[go_sem] theorem part_st (v : PV) (r : List PV) : part (tyi Tryz.prog 35) (v :: r) = some v := by
  have e : (tyi Tryz.prog 35).isAgg = false := by kernel_rfl
  have k : (tyi Tryz.prog 35).known = true := by kernel_rfl
  simp [part, k, e]
@[go_sem] theorem part_ss (v : PV) (r : List PV) : part (tyi Tryz.prog 45) (v :: r) = some v := by
  have e : (tyi Tryz.prog 45).isAgg = false := by kernel_rfl
  have k : (tyi Tryz.prog 45).known = true := by kernel_rfl
  simp [part, k, e]
@[go_sem] theorem size_st : (tyi Tryz.prog 35).size = 1 := nr (by kernel_rfl)
@[go_sem] theorem size_ss : (tyi Tryz.prog 45).size = 1 := nr (by kernel_rfl)
theorem d_Nms : (tyi Tryz.prog 47).d = .struct [(0, 1, false), (1, 1, false)] := by kernel_rfl
@[go_sem] theorem size_Nms : (tyi Tryz.prog 47).size = 2 := nr (by kernel_rfl)
@[go_sem] theorem known_Nms : (tyi Tryz.prog 47).known = true := nr (by kernel_rfl)
@[go_sem] theorem zero_Nms : (tyi Tryz.prog 47).zero = some [.bool false, .sl [] true] := nr (by kernel_rfl)
@[go_sem] theorem alloc_Nms (n : Nat) : allocO (tyi Tryz.prog 47) n = some { v := .mp n 0 0, new := some ([[.bool false, .sl [] true]], none) } := nr (by unfold allocO; rw [zero_Nms]; rfl)
@[go_sem] theorem build_Nms (l : List (Nat × PV)) : buildO (tyi Tryz.prog 47) l = (fillV [(0, 1, false), (1, 1, false)] [.bool false, .sl [] true] l).map .agg := nr (by unfold buildO; rw [d_Nms, zero_Nms]; rfl)
@[go_sem] theorem fm_Nms_0 (id i off : Nat) : evFieldAddr (tyi Tryz.prog 47) 0 (.mp id i off) = some (.mp id i (off + 0)) := by simp [evFieldAddr, d_Nms]
@[go_sem] theorem fk_Nms_0 (r : List PV) : evFieldAddr (tyi Tryz.prog 47) 0 (.cp r) = some (.cp (r.drop 0)) := by simp [evFieldAddr, d_Nms]
@[go_sem] theorem fv_Nms_0 (cs : List PV) : evField (tyi Tryz.prog 47) 0 (.agg cs) = cs[0]? := by simp [evField, d_Nms]
@[go_sem] theorem fm_Nms_1 (id i off : Nat) : evFieldAddr (tyi Tryz.prog 47) 1 (.mp id i off) = some (.mp id i (off + 1)) := by simp [evFieldAddr, d_Nms]
@[go_sem] theorem fk_Nms_1 (r : List PV) : evFieldAddr (tyi Tryz.prog 47) 1 (.cp r) = some (.cp (r.drop 1)) := by simp [evFieldAddr, d_Nms]
@[go_sem] theorem fv_Nms_1 (cs : List PV) : evField (tyi Tryz.prog 47) 1 (.agg cs) = cs[1]? := by simp [evField, d_Nms]
@[go_sem] theorem part_Nms (a b : PV) (r : List PV) : part (tyi Tryz.prog 47) (a :: b :: r) = some (.agg [a, b]) := by simp [part, known_Nms, TI.isAgg, d_Nms, size_Nms]
@[go_sem] theorem part_Bind (a b c d : PV) (r : List PV) : part (tyi Tryz.prog 98) (a :: b :: c :: d :: r) = some (.agg [a, b, c, d]) := by simp [part, known_Bind, TI.isAgg, d_Bind, size_Bind]
def RV.fit (v : RV) : Bool := decide (v.num.length ≤ 400) && decide (v.den.length ≤ 400) && validR v.neg v.num v.den 4096
section
attribute [local irreducible] Vs.callL Vs.callRL tyi callO callM callMV appendE storeE evLoad indexAddrO sliceO evFieldAddr evField buildO buildSliceO makeSliceO allocO boxed lenO copyE convertO indexO Vs.gc freezeAll
theorem rv_plain (v : RV) : Plain (.agg v.cells) := ratL_plain _ _ _
end
end Go.Vs
end
section
set_option linter.unusedVariables false
set_option linter.unusedSimpArgs false
set_option maxRecDepth 100000
namespace Go.Vs
open Go Go.Proofs
inductive Node where
  | mk (op : Int) (name : ByteArray) (neg : Bool) (num den : List Int) (kids : List Node)
namespace Node
def op : Node → Int | mk a _ _ _ _ _ => a
def name : Node → ByteArray | mk _ a _ _ _ _ => a
def neg : Node → Bool | mk _ _ a _ _ _ => a
def num : Node → List Int | mk _ _ _ a _ _ => a
def den : Node → List Int | mk _ _ _ _ a _ => a
def kids : Node → List Node | mk _ _ _ _ _ a => a
def val (n : Node) : RV := ⟨n.neg, n.num, n.den⟩
end Node
def nd0 : Node := .mk 0 ⟨#[]⟩ false [] [] []
instance : Inhabited Node := ⟨nd0⟩
mutual
def Node.cells : Node → List PV
  | .mk a b c d e f => [.int .i64 a, .str b, .bool c, .sl (kRows .u32 d) false, .sl (kRows .u32 e) false, .sl (Node.rows f) false]
def Node.rows : List Node → List (List PV)
  | [] => []
  | n :: r => n.cells :: Node.rows r
end
mutual
def Node.ok : Node → Prop
  | .mk a b c d e f => (-9223372036854775808 ≤ a ∧ a ≤ 9223372036854775807) ∧ b.size ≤ maxLen ∧ (RV.mk c d e).ok ∧ f.length ≤ maxLen ∧ Node.oks f
def Node.oks : List Node → Prop
  | [] => True
  | n :: r => n.ok ∧ Node.oks r
end
theorem Node.oks_iff : ∀ {l : List Node}, Node.oks l ↔ ∀ n ∈ l, n.ok
  | [] => by simp [Node.oks]
  | n :: r => by simp [Node.oks, Node.oks_iff (l := r)]
theorem Node.ind' {P : Node → Prop} (h : ∀ n, (∀ k ∈ n.kids, P k) → P n) (n : Node) : P n :=
  Node.rec (motive_1 := P) (motive_2 := fun l => ∀ k ∈ l, P k) (fun a b c d e f ih => h (.mk a b c d e f) ih) (by simp)
    (fun n r hn hr k hk => by
      rcases List.mem_cons.1 hk with rfl | hk
      · exact hn
      · exact hr k hk) n
theorem Node.rows_eq : ∀ l, Node.rows l = l.map Node.cells
  | [] => rfl
  | n :: r => by rw [Node.rows, Node.rows_eq r]; rfl
theorem Node.cells_eq (n : Node) : n.cells = [.int .i64 n.op, .str n.name, .bool n.neg, .sl (kRows .u32 n.num) false, .sl (kRows .u32 n.den) false, .sl (Node.rows n.kids) false] := by cases n; rfl
theorem Node.ok.op {n : Node} (h : n.ok) : -9223372036854775808 ≤ n.op ∧ n.op ≤ 9223372036854775807 := by cases n; exact h.1
theorem Node.ok.name {n : Node} (h : n.ok) : n.name.size ≤ maxLen := by cases n; exact h.2.1
theorem Node.ok.val {n : Node} (h : n.ok) : n.val.ok := by cases n; exact h.2.2.1
theorem Node.ok.len {n : Node} (h : n.ok) : n.kids.length ≤ maxLen := by cases n; exact h.2.2.2.1
theorem Node.ok.kids {n : Node} (h : n.ok) : ∀ k ∈ n.kids, k.ok := by cases n; exact Node.oks_iff.1 h.2.2.2.2
@[go_sem] theorem Node.cells_length (n : Node) : n.cells.length = 6 := nr (by cases n; rfl)
@[go_sem] theorem Node.cells_cell (n : Node) : n.cells.all PV.cell = true := nr (by cases n; rfl)
theorem Node.plain (n : Node) : Plain (.agg n.cells) := by cases n; exact ⟨rfl, fun _ => rfl⟩
@[go_sem] theorem Node.fz (S : Store) (n : Node) : fzPV S (.agg n.cells) = some (.agg n.cells) := n.plain.2 S
@[go_sem] theorem Node.refs (n : Node) : refsL n.cells = [] := nr (by cases n; rfl)
@[go_sem] theorem Node.rows_length (l : List Node) : (Node.rows l).length = l.length := by rw [Node.rows_eq]; simp
@[go_sem] theorem Node.rows_ok (l : List Node) : rowsOK 6 (Node.rows l) = true := by rw [Node.rows_eq]; exact enc_ok (enc := Node.cells) (fun n => by cases n; rfl) l
@[go_sem] theorem Node.rows_refs : ∀ l : List Node, rowsRefs (Node.rows l) = []
  | [] => rfl
  | n :: r => by
    have := Node.rows_refs r
    show refsL n.cells ++ rowsRefs (Node.rows r) = []
    rw [this, Node.refs]; rfl
theorem d_Nd : (tyi Tryz.prog 30).d = .struct [(0, 1, false), (1, 1, false), (2, 3, true), (5, 1, false)] := by kernel_rfl
@[go_sem] theorem size_Nd : (tyi Tryz.prog 30).size = 6 := nr (by kernel_rfl)
@[go_sem] theorem known_Nd : (tyi Tryz.prog 30).known = true := nr (by kernel_rfl)
@[go_sem] theorem zero_Nd : (tyi Tryz.prog 30).zero = some [.int .i64 0, .str ⟨#[]⟩, .bool false, .sl [] true, .sl [] true, .sl [] true] := nr (by kernel_rfl)
@[go_sem] theorem alloc_Nd (n : Nat) : allocO (tyi Tryz.prog 30) n = some { v := .mp n 0 0, new := some ([[.int .i64 0, .str ⟨#[]⟩, .bool false, .sl [] true, .sl [] true, .sl [] true]], none) } := nr (by unfold allocO; rw [zero_Nd]; rfl)
@[go_sem] theorem build_Nd (l : List (Nat × PV)) : buildO (tyi Tryz.prog 30) l = (fillV [(0, 1, false), (1, 1, false), (2, 3, true), (5, 1, false)] [.int .i64 0, .str ⟨#[]⟩, .bool false, .sl [] true, .sl [] true, .sl [] true] l).map .agg := nr (by unfold buildO; rw [d_Nd, zero_Nd]; rfl)
@[go_sem] theorem fm_Nd_0 (id i off : Nat) : evFieldAddr (tyi Tryz.prog 30) 0 (.mp id i off) = some (.mp id i (off + 0)) := by simp [evFieldAddr, d_Nd]
@[go_sem] theorem fk_Nd_0 (r : List PV) : evFieldAddr (tyi Tryz.prog 30) 0 (.cp r) = some (.cp (r.drop 0)) := by simp [evFieldAddr, d_Nd]
@[go_sem] theorem fv_Nd_0 (cs : List PV) : evField (tyi Tryz.prog 30) 0 (.agg cs) = cs[0]? := by simp [evField, d_Nd]
@[go_sem] theorem fm_Nd_1 (id i off : Nat) : evFieldAddr (tyi Tryz.prog 30) 1 (.mp id i off) = some (.mp id i (off + 1)) := by simp [evFieldAddr, d_Nd]
@[go_sem] theorem fk_Nd_1 (r : List PV) : evFieldAddr (tyi Tryz.prog 30) 1 (.cp r) = some (.cp (r.drop 1)) := by simp [evFieldAddr, d_Nd]
@[go_sem] theorem fv_Nd_1 (cs : List PV) : evField (tyi Tryz.prog 30) 1 (.agg cs) = cs[1]? := by simp [evField, d_Nd]
@[go_sem] theorem fm_Nd_2 (id i off : Nat) : evFieldAddr (tyi Tryz.prog 30) 2 (.mp id i off) = some (.mp id i (off + 2)) := by simp [evFieldAddr, d_Nd]
@[go_sem] theorem fk_Nd_2 (r : List PV) : evFieldAddr (tyi Tryz.prog 30) 2 (.cp r) = some (.cp (r.drop 2)) := by simp [evFieldAddr, d_Nd]
@[go_sem] theorem fv_Nd_2 (cs : List PV) : evField (tyi Tryz.prog 30) 2 (.agg cs) = if 2 + 3 ≤ cs.length then some (.agg ((cs.drop 2).take 3)) else none := by simp [evField, d_Nd]
@[go_sem] theorem fm_Nd_3 (id i off : Nat) : evFieldAddr (tyi Tryz.prog 30) 3 (.mp id i off) = some (.mp id i (off + 5)) := by simp [evFieldAddr, d_Nd]
@[go_sem] theorem fk_Nd_3 (r : List PV) : evFieldAddr (tyi Tryz.prog 30) 3 (.cp r) = some (.cp (r.drop 5)) := by simp [evFieldAddr, d_Nd]
@[go_sem] theorem fv_Nd_3 (cs : List PV) : evField (tyi Tryz.prog 30) 3 (.agg cs) = cs[5]? := by simp [evField, d_Nd]
theorem sl_nds : SlT 28 30 6 104 := ⟨by kernel_rfl, by kernel_rfl, by kernel_rfl, by kernel_rfl, by kernel_rfl⟩
@[go_sem] theorem len_nds (r : List (List PV)) (ex : Bool) : lenO (tyi Tryz.prog 28) (.sl r ex) = some (.int .i64 r.length) := nr (sl_nds.len r ex)
@[go_sem] theorem lenm_nds (i o l : Nat) (ex : Bool) : lenO (tyi Tryz.prog 28) (.msl i o l ex) = some (.int .i64 l) := nr (sl_nds.lenm i o l ex)
@[go_sem] theorem idx_nds (S : Store) (l : List Node) (ex : Bool) (i : Int) : indexAddrO Tryz.prog 28 S (.sl (Node.rows l) ex) (.int .i64 i) = if 0 ≤ i ∧ i < l.length then some (.cp (l.getD i.toNat nd0).cells) else none := by
  rw [Node.rows_eq]
  exact sl_nds.idx (fun n => by cases n; rfl) nd0 S l ex i
@[go_sem] theorem part_nds (v : PV) (r : List PV) : part (tyi Tryz.prog 28) (v :: r) = some v := by
  have e : (tyi Tryz.prog 28).isAgg = false := by kernel_rfl
  have k : (tyi Tryz.prog 28).known = true := by kernel_rfl
  simp [part, k, e]
@[go_sem] theorem size_nds : (tyi Tryz.prog 28).size = 1 := nr (by kernel_rfl)
@[go_sem] theorem known_nds : (tyi Tryz.prog 28).known = true := nr (by kernel_rfl)
@[go_sem] theorem part_Nd (n : Node) : part (tyi Tryz.prog 30) n.cells = some (.agg n.cells) := by cases n; simp [Node.cells, part, known_Nd, TI.isAgg, d_Nd, size_Nd]
@[go_sem] theorem Node.drop1 (n : Node) : n.cells.drop 1 = [.str n.name, .bool n.neg, .sl (kRows .u32 n.num) false, .sl (kRows .u32 n.den) false, .sl (Node.rows n.kids) false] := nr (by cases n; rfl)
@[go_sem] theorem Node.drop2 (n : Node) : n.cells.drop 2 = [.bool n.neg, .sl (kRows .u32 n.num) false, .sl (kRows .u32 n.den) false, .sl (Node.rows n.kids) false] := nr (by cases n; rfl)
@[go_sem] theorem Node.drop3 (n : Node) : n.cells.drop 3 = [.sl (kRows .u32 n.num) false, .sl (kRows .u32 n.den) false, .sl (Node.rows n.kids) false] := nr (by cases n; rfl)
@[go_sem] theorem Node.drop4 (n : Node) : n.cells.drop 4 = [.sl (kRows .u32 n.den) false, .sl (Node.rows n.kids) false] := nr (by cases n; rfl)
@[go_sem] theorem Node.drop5 (n : Node) : n.cells.drop 5 = [.sl (Node.rows n.kids) false] := nr (by cases n; rfl)
@[go_sem] theorem Node.part_int (n : Node) : part (tyi Tryz.prog 3) n.cells = some (.int .i64 n.op) := by
  have e : (tyi Tryz.prog 3).isAgg = false := by kernel_rfl
  cases n; simp [Node.cells, part, kn_int, e]; rfl
@[go_sem] theorem Node.part_rat (n : Node) (r : List PV) : part (tyi Tryz.prog 27) (.bool n.neg :: .sl (kRows .u32 n.num) false :: .sl (kRows .u32 n.den) false :: r) = some (.agg n.val.cells) := by
  simp [part, known_Rat, TI.isAgg, d_Rat, size_Rat, RV.cells, Node.val]
theorem kids_drop {l : List Node} {i : Nat} (h : i < l.length) : l.drop i = l.getD i nd0 :: l.drop (i + 1) := by
  rw [List.drop_eq_getElem_cons h]
  simp [List.getD_eq_getElem?_getD, h]
theorem kids_mem {l : List Node} {i : Nat} (h : i < l.length) : l.getD i nd0 ∈ l := by
  simp [List.getD_eq_getElem?_getD, h]
theorem callN {f : FuncId} {n : Node} {v : PV} (S : Store) (h : callL Tryz.prog hints f [.agg n.cells] = some v) : callO (callL Tryz.prog hints) S f [.agg n.cells] = some { v } := callO_plain h (by simp [Node.plain])
theorem callN2 {f : FuncId} {n m : Node} {v : PV} (S : Store) (h : callL Tryz.prog hints f [.agg n.cells, .agg m.cells] = some v) : callO (callL Tryz.prog hints) S f [.agg n.cells, .agg m.cells] = some { v } := callO_plain h (by simp [Node.plain])
end Go.Vs
end
section
set_option linter.unusedVariables false
set_option linter.unusedSimpArgs false
namespace Go.Vs
open Go Go.Proofs
def sortOf (n : Int) : Int := if 1 ≤ n ∧ n ≤ 13 then 1 else if 20 ≤ n ∧ n ≤ 39 then 2 else if n = 55 ∨ n = 56 then 4 else if 50 ≤ n ∧ n ≤ 62 then 3 else 0
mutual
def Node.size : Node → Int
  | .mk _ _ _ _ _ f => Node.sizes 1 f
def Node.sizes : Int → List Node → Int
  | a, [] => a
  | a, n :: r => Node.sizes (IntKind.i64.wrap (a + n.size)) r
end
mutual
def Node.levels : Node → Int
  | .mk _ _ _ _ _ f => IntKind.i64.wrap (Node.most 0 f + 1)
def Node.most : Int → List Node → Int
  | a, [] => a
  | a, n :: r => Node.most (if a < n.levels then n.levels else a) r
end
theorem Node.size_eq (n : Node) : Node.sizes 1 n.kids = n.size := by cases n; rfl
theorem Node.levels_eq (n : Node) : IntKind.i64.wrap (Node.most 0 n.kids + 1) = n.levels := by cases n; rfl
def cmpB (b : Bool) : Int := if b = true then -1 else 1
def seqI (x y : Int) : Int := if x ≠ 0 then x else y
def cmpStr (a b : ByteArray) : Int := if a.toList ≠ b.toList then cmpB (Op.bytesLess a.toList b.toList) else 0
def cmpNeg (a b : Bool) : Int := if a ≠ b then cmpB b else 0
def wordsTo (a b : List Int) : Nat → Int
  | 0 => 0
  | m + 1 => seqI (cmpI (a.getD m 0) (b.getD m 0)) (wordsTo a b m)
def cmpWords (a b : List Int) : Int := seqI (cmpI a.length b.length) (wordsTo a b a.length)
mutual
def Node.cmp : Node → Node → Int
  | .mk a b c d e f, m => seqI (cmpI a m.op) (seqI (cmpStr b m.name) (seqI (cmpNeg c m.neg) (seqI (cmpWords d m.num) (seqI (cmpWords e m.den) (seqI (cmpI f.length m.kids.length) (Node.cmps f m.kids))))))
def Node.cmps : List Node → List Node → Int
  | [], _ => 0
  | _ :: _, [] => 0
  | n :: r, m :: s => seqI (n.cmp m) (Node.cmps r s)
end
theorem Node.cmp_eq (n m : Node) : n.cmp m = seqI (cmpI n.op m.op) (seqI (cmpStr n.name m.name) (seqI (cmpNeg n.neg m.neg) (seqI (cmpWords n.num m.num) (seqI (cmpWords n.den m.den) (seqI (cmpI n.kids.length m.kids.length) (Node.cmps n.kids m.kids)))))) := by cases n; rfl
def lastOK (l : List Int) : Bool := decide (l.length = 0) || decide (l.getD (l.length - 1) 0 ≠ 0)
def natOK (neg : Bool) (num den : List Int) : Bool := !neg && (decide (den.length = 1) && (decide (den.getD 0 0 = 1) && (decide (num.length ≤ 20) && lastOK num)))
def diffLeaf (o : Int) : Bool := decide (o = 20) || decide (o = 21) || decide (22 ≤ o ∧ o ≤ 27) || decide (o = 37) || decide (o = 38)
mutual
def Node.diff : Node → Bool
  | .mk o _ _ _ _ f => diffLeaf o || ((decide (o = 29) || decide (o = 30)) && Node.diffs f)
def Node.diffs : List Node → Bool
  | [] => true
  | n :: r => n.diff && Node.diffs r
end
theorem Node.diff_eq (n : Node) : n.diff = (diffLeaf n.op || ((decide (n.op = 29) || decide (n.op = 30)) && Node.diffs n.kids)) := by cases n; rfl
def kidSorts (o : Int) : List Int :=
  if o = 4 ∨ o = 12 then [1] else if o = 59 ∨ o = 60 then [3] else if o = 53 ∨ o = 28 ∨ o = 39 then [2] else
  if (5 ≤ o ∧ o ≤ 9) ∨ (22 ≤ o ∧ o ≤ 27) then [1, 1] else if 29 ≤ o ∧ o ≤ 32 then [2, 2] else if o = 33 ∨ o = 34 then [2] else
  if o = 35 ∨ o = 36 then [3, 2] else if o = 50 ∨ o = 51 ∨ o = 55 then [1] else if o = 57 ∨ o = 58 then [3, 3] else []
def hasName (o : Int) : Bool := decide (o = 2 ∨ o = 3 ∨ o = 11 ∨ o = 33 ∨ o = 34 ∨ o = 38 ∨ o = 50 ∨ o = 51 ∨ o = 52 ∨ o = 55 ∨ o = 56 ∨ o = 61 ∨ o = 62)
theorem kidSorts_none {o : Int} (h1 : o ≠ 4 ∧ o ≠ 12 ∧ o ≠ 59 ∧ o ≠ 60 ∧ o ≠ 53 ∧ o ≠ 28 ∧ o ≠ 39) (h2 : ¬ (5 ≤ o ∧ o ≤ 9) ∧ ¬ (22 ≤ o ∧ o ≤ 27) ∧ ¬ (29 ≤ o ∧ o ≤ 36)) (h3 : ¬ (50 ≤ o ∧ o ≤ 51) ∧ o ≠ 55 ∧ o ≠ 57 ∧ o ≠ 58) : kidSorts o = [] := by
  unfold kidSorts
  repeat' (refine iteEq (fun _ => ?_) (fun _ => ?_))
  all_goals first | rfl | (exfalso; omega)
mutual
def Node.within : Node → Int → Int → Bool × Int
  | .mk _ _ _ _ _ f, left, lv => if left - 1 < 0 ∨ lv ≤ 0 then (false, left - 1) else Node.withins f (left - 1) (lv - 1)
def Node.withins : List Node → Int → Int → Bool × Int
  | [], left, _ => (true, left)
  | n :: r, left, lv => if (n.within left lv).1 = true then Node.withins r (n.within left lv).2 lv else (false, (n.within left lv).2)
end
theorem Node.within_eq (n : Node) (left lv : Int) : n.within left lv = if left - 1 < 0 ∨ lv ≤ 0 then (false, left - 1) else Node.withins n.kids (left - 1) (lv - 1) := by cases n; rfl
theorem withins_drop {l : List Node} {i : Nat} (h : i < l.length) (left lv : Int) : Node.withins (l.drop i) left lv = if ((l.getD i nd0).within left lv).1 = true then Node.withins (l.drop (i + 1)) ((l.getD i nd0).within left lv).2 lv else (false, ((l.getD i nd0).within left lv).2) := by
  rw [kids_drop h]; rfl
mutual
theorem within_range : ∀ (n : Node) (left lv : Int), 0 ≤ left → (n.within left lv).2 ≤ left ∧ -1 ≤ (n.within left lv).2 ∧ ((n.within left lv).1 = true → 0 ≤ (n.within left lv).2)
  | .mk a b c d e f, left, lv, h => by
    simp only [Node.within]
    split
    · refine ⟨by simp only; omega, by simp only; omega, fun h => by cases h⟩
    · have := withins_range f (left - 1) (lv - 1) (by omega)
      exact ⟨by omega, this.2.1, this.2.2⟩
theorem withins_range : ∀ (l : List Node) (left lv : Int), 0 ≤ left → (Node.withins l left lv).2 ≤ left ∧ -1 ≤ (Node.withins l left lv).2 ∧ ((Node.withins l left lv).1 = true → 0 ≤ (Node.withins l left lv).2)
  | [], left, lv, h => by simp only [Node.withins]; exact ⟨by omega, by omega, fun _ => h⟩
  | n :: r, left, lv, h => by
    have h1 := within_range n left lv h
    simp only [Node.withins]
    split
    · rename_i hok
      have := withins_range r (n.within left lv).2 lv (h1.2.2 hok)
      exact ⟨by omega, this.2.1, this.2.2⟩
    · exact ⟨h1.1, h1.2.1, fun h => by cases h⟩
end
mutual
def Node.count : Node → Nat
  | .mk _ _ _ _ _ f => Node.counts f + 1
def Node.counts : List Node → Nat
  | [] => 0
  | n :: r => n.count + Node.counts r
end
mutual
def Node.depth : Node → Nat
  | .mk _ _ _ _ _ f => Node.depths f + 1
def Node.depths : List Node → Nat
  | [] => 0
  | n :: r => max n.depth (Node.depths r)
end
mutual
theorem within_iff : ∀ (n : Node) (left lv : Int), 0 ≤ left → 0 ≤ lv → ((n.within left lv).1 = true ↔ (n.count : Int) ≤ left ∧ (n.depth : Int) ≤ lv) ∧ ((n.within left lv).1 = true → (n.within left lv).2 = left - n.count)
  | .mk a b c d e f, left, lv, h, hl => by
    simp only [Node.within, Node.count, Node.depth]
    split
    · rename_i hc
      refine ⟨⟨(fun h => by cases h), fun h => ?_⟩, fun h => by cases h⟩
      exfalso; omega
    · rename_i hc
      have h1 := withins_iff f (left - 1) (lv - 1) (by omega) (by omega)
      refine ⟨h1.1.trans ?_, fun h => ?_⟩
      · constructor <;> (intro h; omega)
      · rw [h1.2 h]; omega
theorem withins_iff : ∀ (l : List Node) (left lv : Int), 0 ≤ left → 0 ≤ lv → ((Node.withins l left lv).1 = true ↔ (Node.counts l : Int) ≤ left ∧ (Node.depths l : Int) ≤ lv) ∧ ((Node.withins l left lv).1 = true → (Node.withins l left lv).2 = left - Node.counts l)
  | [], left, lv, h, hl => by
    simp only [Node.withins, Node.counts, Node.depths, true_iff]
    exact ⟨⟨by omega, by omega⟩, fun _ => by omega⟩
  | n :: r, left, lv, h, hl => by
    have h1 := within_iff n left lv h hl
    simp only [Node.withins, Node.counts, Node.depths]
    split
    · rename_i hok
      have h2 := withins_iff r (n.within left lv).2 lv ((within_range n left lv h).2.2 hok) hl
      have h3 := h1.1.1 hok
      have h4 := h1.2 hok
      refine ⟨h2.1.trans ?_, fun h => ?_⟩
      · rw [h4]; omega
      · rw [h2.2 h, h4]; omega
    · rename_i hok
      refine ⟨⟨(fun h => by cases h), fun h => ?_⟩, fun h => by cases h⟩
      exact absurd (h1.1.2 (by omega)) hok
end
def noName (s : ByteArray) : Bool := s.toList == (⟨#[]⟩ : ByteArray).toList
def sortsFor (o : Int) (m : Nat) : List Int := if o = 10 ∨ o = 37 then List.replicate m 1 else if o = 54 then List.replicate (m - 1) 4 ++ [2] else kidSorts o
def tailOK (o : Int) (f : List Node) : Bool :=
  if o = 8 then decide ((f.getD 1 nd0).op = 1) && decide (0 < (f.getD 1 nd0).num.length)
  else if o = 9 then decide ((f.getD 1 nd0).op = 1) && (decide ((f.getD 1 nd0).num.length = 0) || (decide ((f.getD 1 nd0).num.length = 1) && decide ((f.getD 1 nd0).num.getD 0 0 ≤ 20)))
  else true
def otherVar (k o : Node) : Bool := !(decide (k.op = 55) && (o.name.toList == k.name.toList))
def flowAt (f : List Node) (last i : Nat) : Bool :=
  (decide ((f.getD i nd0).op = 55) || (decide ((f.getD i nd0).op = 56) && decide (i = last - 1))) && (f.take i).all (otherVar (f.getD i nd0))
def flowFrom (f : List Node) (last : Nat) : Nat → Nat → Bool
  | 0, _ => true
  | m + 1, i => flowAt f last i && flowFrom f last m (i + 1)
def flowOK (f : List Node) : Bool := flowFrom f (f.length - 1) (f.length - 1) 0
def headOK (o : Int) (nm : ByteArray) (ng : Bool) (nu de : List Int) : Bool :=
  (if o = 1 then natOK ng nu de else (!ng && (decide (nu.length = 0) && decide (de.length = 0)))) &&
  !((hasName o && !nameOK nm) || (!hasName o && (!noName nm && (decide (o ≠ 10) && decide (o ≠ 37)))))
def switchOK (o : Int) (nm : ByteArray) (f : List Node) (a b c : Bool) : Bool :=
  if o = 10 ∨ o = 37 then nameOK nm && decide (f.length ≤ 1)
  else if o = 54 then noName nm && (decide (2 ≤ f.length) && flowOK f)
  else if o = 3 then !(a || (b || c))
  else if o = 12 then !(a || c)
  else if o = 39 then !c && (decide (f.length = 1) && (f.getD 0 nd0).diff)
  else true
mutual
def Node.formed : Node → Bool → Bool → Bool → Bool
  | .mk o nm ng nu de f, a, b, c => headOK o nm ng nu de && (switchOK o nm f a b c && (decide (f.length = (sortsFor o f.length).length) && (Node.formeds f (sortsFor o f.length) (a || decide (o = 12)) (b || decide (o = 39)) (c || decide (o = 54)) && tailOK o f)))
def Node.formeds : List Node → List Int → Bool → Bool → Bool → Bool
  | [], _, _, _, _ => true
  | n :: r, s, a, b, c => decide (sortOf n.op = s.getD 0 0) && (n.formed a b c && Node.formeds r s.tail a b c)
end
theorem Node.formed_eq (n : Node) (a b c : Bool) : n.formed a b c = (headOK n.op n.name n.neg n.num n.den && (switchOK n.op n.name n.kids a b c && (decide (n.kids.length = (sortsFor n.op n.kids.length).length) && (Node.formeds n.kids (sortsFor n.op n.kids.length) (a || decide (n.op = 12)) (b || decide (n.op = 39)) (c || decide (n.op = 54)) && tailOK n.op n.kids)))) := by cases n; rfl
theorem formeds_drop {l : List Node} {i : Nat} (h : i < l.length) (s : List Int) (a b c : Bool) : Node.formeds (l.drop i) (s.drop i) a b c = (decide (sortOf (l.getD i nd0).op = s.getD i 0) && ((l.getD i nd0).formed a b c && Node.formeds (l.drop (i + 1)) (s.drop (i + 1)) a b c)) := by
  rw [kids_drop h]
  simp only [Node.formeds, List.tail_drop]
  have : (s.drop i).getD 0 0 = s.getD i 0 := by simp [List.getD_eq_getElem?_getD]
  rw [this]
def Node.rest (n : Node) (a b c : Bool) : Bool := switchOK n.op n.name n.kids a b c && (decide (n.kids.length = (sortsFor n.op n.kids.length).length) && (Node.formeds n.kids (sortsFor n.op n.kids.length) (a || decide (n.op = 12)) (b || decide (n.op = 39)) (c || decide (n.op = 54)) && tailOK n.op n.kids))
theorem take_drop_cons {l : List Node} {i j : Nat} (hj : j < i) (hi : i ≤ l.length) : (l.take i).drop j = l.getD j nd0 :: (l.take i).drop (j + 1) := by
  have h : j < (l.take i).length := by simp; omega
  rw [kids_drop h]
  congr 1
  simp [List.getD_eq_getElem?_getD, List.getElem?_take, hj]
theorem getD_take {l : List Node} {i j : Nat} (hj : j < i) : (l.take i).getD j nd0 = l.getD j nd0 := by
  simp [List.getD_eq_getElem?_getD, List.getElem?_take, hj]
theorem counts_le : ∀ (l : List Node), ∀ k ∈ l, k.count ≤ Node.counts l
  | [], k, h => by cases h
  | n :: r, k, h => by
    simp only [Node.counts]
    rcases List.mem_cons.1 h with rfl | h
    · omega
    · have := counts_le r k h; omega
theorem count_pos (n : Node) : 1 ≤ n.count := by cases n; simp [Node.count]
theorem counts_len : ∀ (l : List Node), l.length ≤ Node.counts l
  | [] => by simp
  | n :: r => by
    have := counts_len r
    have := count_pos n
    simp only [Node.counts, List.length_cons]; omega
theorem count_kids (n : Node) : n.count = Node.counts n.kids + 1 := by cases n; rfl
def Node.small (n : Node) : Bool := decide (n.count ≤ 4000) && decide (n.depth ≤ 60)
def Node.check (n : Node) (sort : Int) : Int :=
  if sort < 1 ∨ 3 < sort then 1 else if n.small = false then 2 else if sortOf n.op ≠ sort then 80 else if n.formed false false false = false then 3 else 0
def hasName' (o : Int) : Bool := hasName o || (decide (o = 10) || decide (o = 37))
theorem hasName'_no {o : Int} (h : o ≠ 2 ∧ o ≠ 3 ∧ o ≠ 10 ∧ o ≠ 11 ∧ o ≠ 33 ∧ o ≠ 34 ∧ o ≠ 37 ∧ o ≠ 38 ∧ o ≠ 50 ∧ o ≠ 51 ∧ o ≠ 52 ∧ o ≠ 55 ∧ o ≠ 56 ∧ o ≠ 61 ∧ o ≠ 62) : hasName' o = false := by
  have h1 : hasName o = false := by simp only [hasName, decide_eq_false_iff_not]; omega
  rw [hasName', h1, decide_eq_false h.2.2.1, decide_eq_false h.2.2.2.2.2.2.1]; rfl
def digits (l : List Int) : ByteArray := ⟨(l.map fun d => UInt8.ofNat (48 + d.toNat)).toArray⟩
def natVal (num : List Int) (most : Int) : Int := if num.length = 0 then 0 else if 1 < num.length ∨ most < num.getD 0 0 then -1 else num.getD 0 0
mutual
def Node.primed : Node → Bool
  | .mk o _ _ _ _ f => (decide (o = 3) || (decide (o = 12) || decide (o = 39))) || Node.primeds f
def Node.primeds : List Node → Bool
  | [] => false
  | n :: r => n.primed || Node.primeds r
end
theorem Node.primed_eq (n : Node) : n.primed = ((decide (n.op = 3) || (decide (n.op = 12) || decide (n.op = 39))) || Node.primeds n.kids) := by cases n; rfl
def sortsRef (o : Int) (m : Nat) : List Int := if (o = 10 ∨ o = 37) ∧ m = 1 then [1] else kidSorts o
def tailRef (o : Int) (f : List Node) : Bool :=
  if o = 8 then decide ((f.getD 1 nd0).op = 1) && decide (0 < (f.getD 1 nd0).num.length)
  else if o = 9 then decide ((f.getD 1 nd0).op = 1) && decide (0 ≤ natVal (f.getD 1 nd0).num 20)
  else if o = 39 then (f.getD 0 nd0).diff
  else true
mutual
def Node.well : Node → Int → Bool → Bool → Bool
  | .mk o nm ng nu de fs, s, t, f =>
    (decide (sortOf o = s) && (decide (hasName' o = nameOK nm) && (hasName' o || noName nm))) &&
    ((if o = 1 then natOK ng nu de else (!ng && (decide (nu.length = 0) && decide (de.length = 0)))) &&
    (!((t && decide (o = 12)) || ((t || f) && decide (o = 3))) &&
    (if o = 54 then decide (2 ≤ fs.length) && (!((decide (o = 3) || (decide (o = 12) || decide (o = 39))) || Node.primeds fs) && (Node.wells fs (List.replicate (fs.length - 1) 4 ++ [2]) t f && flowOK fs))
     else decide ((sortsRef o fs.length).length = fs.length) && (Node.wells fs (sortsRef o fs.length) (t || decide (o = 12)) (f || decide (o = 39)) && tailRef o fs))))
def Node.wells : List Node → List Int → Bool → Bool → Bool
  | [], _, _, _ => true
  | n :: r, s, t, f => n.well (s.getD 0 0) t f && Node.wells r s.tail t f
end
def flowRef (n : Node) (t f : Bool) : Bool := decide (2 ≤ n.kids.length) && (!n.primed && (Node.wells n.kids (List.replicate (n.kids.length - 1) 4 ++ [2]) t f && flowOK n.kids))
theorem Node.well_eq (n : Node) (s : Int) (t f : Bool) : n.well s t f = ((decide (sortOf n.op = s) && (decide (hasName' n.op = nameOK n.name) && (hasName' n.op || noName n.name))) &&
    ((if n.op = 1 then natOK n.neg n.num n.den else (!n.neg && (decide (n.num.length = 0) && decide (n.den.length = 0)))) &&
    (!((t && decide (n.op = 12)) || ((t || f) && decide (n.op = 3))) &&
    (if n.op = 54 then flowRef n t f
     else decide ((sortsRef n.op n.kids.length).length = n.kids.length) && (Node.wells n.kids (sortsRef n.op n.kids.length) (t || decide (n.op = 12)) (f || decide (n.op = 39)) && tailRef n.op n.kids))))) := by
  cases n
  simp only [Node.well, flowRef, Node.primed, Node.op, Node.name, Node.neg, Node.num, Node.den, Node.kids]
  rfl
def flowRest (f : List Node) (last : Nat) (t u : Bool) : Nat → Nat → Bool
  | 0, _ => true
  | m + 1, i => ((decide ((f.getD i nd0).op = 55) || (decide ((f.getD i nd0).op = 56) && decide (i = last - 1))) && (f.getD i nd0).well 4 t u) && ((f.take i).all (otherVar (f.getD i nd0)) && flowRest f last t u m (i + 1))
theorem wells_flow (l : List Node) (last : Nat) (hlast : last + 1 = l.length) (t f : Bool) : ∀ (m i : Nat), i + m = last →
    (Node.wells (l.drop i) (List.replicate m 4 ++ [2]) t f && flowFrom l last m i) = ((l.getD last nd0).well 2 t f && flowRest l last t f m i) := by
  intro m
  induction m with
  | zero =>
    intro i hi
    obtain rfl : i = last := by omega
    rw [kids_drop (by omega), List.drop_of_length_le (l := l) (by omega)]
    simp only [List.replicate_zero, List.nil_append, Node.wells, List.getD_cons_zero, flowFrom, flowRest, Bool.and_true]
  | succ m hm =>
    intro i hi
    have h := hm (i + 1) (by omega)
    rw [kids_drop (by omega)]
    simp only [List.replicate_succ, List.cons_append, Node.wells, List.getD_cons_zero, List.tail_cons, flowFrom, flowRest, flowAt]
    generalize (l.getD i nd0).well 4 t f = a at *
    generalize (decide ((l.getD i nd0).op = 55) || (decide ((l.getD i nd0).op = 56) && decide (i = last - 1))) = c at *
    generalize (l.take i).all (otherVar (l.getD i nd0)) = d at *
    cases a <;> cases c <;> cases d <;> simp [h]
@[go_sem] theorem digits_size (l : List Int) : (digits l).size = l.length := by simp [digits, ByteArray.size]
theorem digits_at {l : List Int} {i : Nat} (h : i < l.length) (hd : 0 ≤ l.getD i 0 ∧ l.getD i 0 ≤ 100) : byteAt (digits l) i = 48 + l.getD i 0 := by
  have e : (digits l).data.toList.getD i 0 = UInt8.ofNat (48 + (l.getD i 0).toNat) := by
    simp [digits, List.getD_eq_getElem?_getD, h]
  simp only [byteAt, e]
  generalize l.getD i 0 = d at hd ⊢
  have : (UInt8.ofNat (48 + d.toNat)).toNat = 48 + d.toNat := by
    simp; omega
  rw [this]
  omega
theorem iteProp {α : Type} {P : α → Prop} {c : Prop} [Decidable c] {a b : α} (h1 : c → P a) (h2 : ¬ c → P b) : P (if c then a else b) := by
  by_cases h : c
  · rw [if_pos h]; exact h1 h
  · rw [if_neg h]; exact h2 h
theorem kidSorts_small (o : Int) : ∀ d ∈ kidSorts o, 0 ≤ d ∧ d ≤ 100 := by
  have key : ∀ l : List Int, l = [1] ∨ l = [2] ∨ l = [3] ∨ l = [1, 1] ∨ l = [2, 2] ∨ l = [3, 2] ∨ l = [3, 3] ∨ l = [] → ∀ d ∈ l, 0 ≤ d ∧ d ≤ 100 := by
    intro l h d hd
    rcases h with rfl | rfl | rfl | rfl | rfl | rfl | rfl | rfl <;> simp at hd <;> omega
  refine key _ ?_
  unfold kidSorts
  repeat' (first | (apply iteProp (P := fun l : List Int => l = [1] ∨ l = [2] ∨ l = [3] ∨ l = [1, 1] ∨ l = [2, 2] ∨ l = [3, 2] ∨ l = [3, 3] ∨ l = []) <;> intro _))
  all_goals simp
def Node.wellKids (n : Node) (t f : Bool) : Bool := decide ((sortsRef n.op n.kids.length).length = n.kids.length) && (Node.wells n.kids (sortsRef n.op n.kids.length) (t || decide (n.op = 12)) (f || decide (n.op = 39)) && tailRef n.op n.kids)
def Node.checkRef (n : Node) (sort : Int) : Int :=
  if sort < 1 ∨ 3 < sort then 1 else if 4000 < n.size ∨ 60 < n.levels then 2 else if sortOf n.op ≠ sort then 80 else if n.well sort false false = false then 3 else 0
mutual
theorem size_count : ∀ n : Node, n.count ≤ 1000000000 → n.size = n.count
  | .mk a b c d e f, h => by
    simp only [Node.count] at h ⊢
    simp only [Node.size]
    rw [sizes_counts f 1 (by omega) (by omega)]
    omega
theorem sizes_counts : ∀ (l : List Node) (a : Int), 0 ≤ a → a + Node.counts l ≤ 1000000000 → Node.sizes a l = a + Node.counts l
  | [], a, h0, h => by simp only [Node.sizes, Node.counts]; omega
  | n :: r, a, h0, h => by
    simp only [Node.counts] at h ⊢
    simp only [Node.sizes]
    have hs := size_count n (by omega)
    have hw : IntKind.i64.wrap (a + n.size) = a + n.count := by rw [hs, IntKind.wrap_i64]; omega
    rw [hw, sizes_counts r (a + n.count) (by omega) (by omega)]
    omega
end
mutual
theorem depth_count : ∀ n : Node, n.depth ≤ n.count
  | .mk a b c d e f => by
    have := depths_counts f
    simp only [Node.depth, Node.count]; omega
theorem depths_counts : ∀ l : List Node, Node.depths l ≤ Node.counts l
  | [] => by simp [Node.depths, Node.counts]
  | n :: r => by
    have := depth_count n
    have := depths_counts r
    simp only [Node.depths, Node.counts]; omega
end
mutual
theorem levels_depth : ∀ n : Node, n.count ≤ 1000000000 → n.levels = n.depth
  | .mk a b c d e f, h => by
    simp only [Node.count] at h
    have hd := depths_counts f
    simp only [Node.levels, Node.depth]
    rw [most_depths f 0 (by omega) (by omega), IntKind.wrap_i64]
    omega
theorem most_depths : ∀ (l : List Node) (a : Int), 0 ≤ a → Node.counts l ≤ 1000000000 → Node.most a l = max a (Node.depths l)
  | [], a, h0, h => by simp only [Node.most, Node.depths]; omega
  | n :: r, a, h0, h => by
    simp only [Node.counts] at h
    simp only [Node.most, Node.depths]
    rw [levels_depth n (by omega)]
    rw [most_depths r _ (by split <;> omega) (by omega)]
    split <;> omega
end
theorem noName_not {s : ByteArray} (h : noName s = true) : nameOK s = false := by
  have h1 : s.toList = (⟨#[]⟩ : ByteArray).toList := by simpa only [noName, beq_iff_eq] using h
  rw [ByteArray.toList_eq, ByteArray.toList_eq] at h1
  have h2 : s.size = 0 := by
    have e : s.data.toList.length = s.size := rfl
    rw [← e, h1]; rfl
  simp only [nameOK, h2]
  rfl
theorem formed_flow : ∀ n : Node, ∀ a b, n.formed a b true = (n.formed a b false && !n.primed) := by
  refine Node.ind' fun n ih a b => ?_
  have kids : ∀ (l : List Node), (∀ k ∈ l, k ∈ n.kids) → ∀ s a b, Node.formeds l s a b true = (Node.formeds l s a b false && !Node.primeds l) := by
    intro l
    induction l with
    | nil => intro _ s a b; rfl
    | cons k r ihr =>
      intro hsub s a b
      simp only [Node.formeds, Node.primeds, ih k (hsub k (by simp)), ihr (fun x hx => hsub x (by simp [hx]))]
      cases decide (sortOf k.op = s.getD 0 0) <;> cases k.formed a b false <;> cases k.primed <;> simp
  have hk := kids n.kids (fun k hk => hk)
  rw [Node.formed_eq, Node.formed_eq, Node.primed_eq]
  simp only [switchOK]
  by_cases h1 : n.op = 10 ∨ n.op = 37
  · have h3 : ¬ n.op = 3 := by omega
    have h12 : ¬ n.op = 12 := by omega
    have h39 : ¬ n.op = 39 := by omega
    have h54 : ¬ n.op = 54 := by omega
    simp only [h1, h3, h12, h39, h54, if_true, decide_false, Bool.or_false, Bool.true_or, Bool.false_or, hk]
    generalize headOK n.op n.name n.neg n.num n.den = x1
    generalize Node.formeds n.kids (sortsFor n.op n.kids.length) a b false = x2
    generalize tailOK n.op n.kids = x3
    cases x1 <;> cases x2 <;> cases x3 <;> cases Node.primeds n.kids <;> simp
  by_cases h54 : n.op = 54
  · have h3 : ¬ n.op = 3 := by omega
    have h12 : ¬ n.op = 12 := by omega
    have h39 : ¬ n.op = 39 := by omega
    simp only [h1, h3, h12, h39, h54, if_true, if_false, decide_false, decide_true, Bool.or_false, Bool.or_true, Bool.true_or, Bool.false_or, hk, Int.reduceEq, or_self]
    generalize headOK 54 n.name n.neg n.num n.den = x1
    generalize Node.formeds n.kids (sortsFor 54 n.kids.length) a b false = x2
    generalize tailOK 54 n.kids = x3
    cases x1 <;> cases x2 <;> cases x3 <;> cases Node.primeds n.kids <;> simp
  by_cases h3 : n.op = 3
  · simp [h3]
  by_cases h12 : n.op = 12
  · simp [h12]
  by_cases h39 : n.op = 39
  · simp [h39]
  · simp only [h1, h3, h12, h39, h54, if_false, decide_false, Bool.or_false, Bool.true_or, Bool.false_or, hk]
    generalize headOK n.op n.name n.neg n.num n.den = x1
    generalize Node.formeds n.kids (sortsFor n.op n.kids.length) a b false = x2
    generalize tailOK n.op n.kids = x3
    cases x1 <;> cases x2 <;> cases x3 <;> cases Node.primeds n.kids <;> simp
theorem formeds_flow : ∀ (l : List Node) (s : List Int) (a b : Bool), Node.formeds l s a b true = (Node.formeds l s a b false && !Node.primeds l)
  | [], s, a, b => rfl
  | k :: r, s, a, b => by
    simp only [Node.formeds, Node.primeds, formed_flow k, formeds_flow r]
    cases decide (sortOf k.op = s.getD 0 0) <;> cases k.formed a b false <;> cases k.primed <;> simp
theorem tail_same (n : Node) (hn : n.ok) (h : n.op = 9 → n.kids.length = 2) (h39 : n.op ≠ 39) : tailRef n.op n.kids = tailOK n.op n.kids := by
  unfold tailRef tailOK
  by_cases h8 : n.op = 8
  · rw [if_pos h8, if_pos h8]
  by_cases h9 : n.op = 9
  · rw [if_neg h8, if_neg h8, if_pos h9, if_pos h9]
    have hl := h h9
    have hk := hn.kids _ (kids_mem (l := n.kids) (i := 1) (by omega))
    generalize n.kids.getD 1 nd0 = k at hk ⊢
    have hw : ∀ w ∈ k.num, 0 ≤ w ∧ w ≤ 4294967295 := fun w hm => by have := hk.val.n w hm; unfold WB at this; omega
    congr 1
    unfold natVal
    by_cases l0 : k.num.length = 0
    · rw [if_pos l0]; simp [l0]
    · rw [if_neg l0]
      have hmem : k.num.getD 0 0 ∈ k.num := by
        have : 0 < k.num.length := by omega
        simp [List.getD_eq_getElem?_getD, this]
      have hb := hw _ hmem
      generalize k.num.getD 0 0 = w at hb ⊢
      by_cases l1 : k.num.length = 1
      · by_cases hw20 : w ≤ 20
        · have : ¬ (1 < k.num.length ∨ 20 < w) := by omega
          rw [if_neg this]; simp [l1, hw20, hb.1]
        · have : 1 < k.num.length ∨ 20 < w := by omega
          rw [if_pos this]; simp [l1, hw20]
      · have : 1 < k.num.length ∨ 20 < w := by omega
        rw [if_pos this]; simp [l0, l1]
  · rw [if_neg h8, if_neg h8, if_neg h9, if_neg h9, if_neg h39]
theorem name_same (o : Int) (nm : ByteArray) (h : o ≠ 10 ∧ o ≠ 37) : (decide (hasName' o = nameOK nm) && (hasName' o || noName nm)) = !((hasName o && !nameOK nm) || (!hasName o && (!noName nm && (decide (o ≠ 10) && decide (o ≠ 37))))) := by
  have e : hasName' o = hasName o := by simp [hasName', h.1, h.2]
  rw [e]
  have := @noName_not nm
  simp only [ne_eq, h.1, h.2, not_false_eq_true, decide_true, Bool.and_true]
  revert this
  cases hasName o <;> cases nameOK nm <;> cases noName nm <;> simp
theorem well_formed : ∀ n : Node, n.ok → ∀ s t f, n.well s t f = (decide (sortOf n.op = s) && n.formed t f false) := by
  refine Node.ind' fun n ih hn s t f => ?_
  have kids : ∀ (l : List Node), (∀ k ∈ l, k ∈ n.kids) → ∀ s t f, Node.wells l s t f = Node.formeds l s t f false := by
    intro l
    induction l with
    | nil => intro _ s t f; rfl
    | cons k r ihr =>
      intro hsub s t f
      simp only [Node.wells, Node.formeds, ih k (hsub k (by simp)) (hn.kids k (hsub k (by simp))), ihr (fun x hx => hsub x (by simp [hx])), Bool.and_assoc]
  have hk := kids n.kids (fun k hk => hk)
  rw [Node.well_eq, Node.formed_eq]
  simp only [headOK, switchOK]
  generalize decide (sortOf n.op = s) = x0
  generalize hnum : (if n.op = 1 then natOK n.neg n.num n.den else (!n.neg && (decide (n.num.length = 0) && decide (n.den.length = 0)))) = x1
  by_cases h1 : n.op = 10 ∨ n.op = 37
  · have h3 : ¬ n.op = 3 := by omega
    have h12 : ¬ n.op = 12 := by omega
    have h39 : ¬ n.op = 39 := by omega
    have h54 : ¬ n.op = 54 := by omega
    have e1 : hasName' n.op = true := by rcases h1 with h | h <;> rw [h] <;> rfl
    have e2 : hasName n.op = false := by rcases h1 with h | h <;> rw [h] <;> rfl
    have e3 : (decide (n.op ≠ 10) && decide (n.op ≠ 37)) = false := by rcases h1 with h | h <;> rw [h] <;> rfl
    have e4 : tailRef n.op n.kids = true := by unfold tailRef; rw [if_neg (by omega), if_neg (by omega), if_neg h39]
    have e5 : tailOK n.op n.kids = true := by unfold tailOK; rw [if_neg (by omega), if_neg (by omega)]
    have e6 : sortsFor n.op n.kids.length = List.replicate n.kids.length 1 := by unfold sortsFor; rw [if_pos h1]
    have e7 : kidSorts n.op = [] := by rcases h1 with h | h <;> rw [h] <;> rfl
    simp only [h1, h3, h12, h39, h54, if_true, if_false, decide_false, Bool.or_false, Bool.false_or, Bool.and_false, e1, e2, e3, e4, e5, e6, Bool.true_or, Bool.and_true, Bool.false_and, Bool.not_false, Bool.true_and, hk]
    by_cases l0 : n.kids.length = 0
    · have : n.kids = [] := List.eq_nil_of_length_eq_zero l0
      simp only [this, sortsRef, e7, List.length_nil]
      cases x0 <;> cases x1 <;> cases nameOK n.name <;> simp [Node.formeds]
    · by_cases l1 : n.kids.length = 1
      · have : sortsRef n.op n.kids.length = [1] := by simp [sortsRef, h1, l1]
        rw [this, l1]
        cases x0 <;> cases x1 <;> cases nameOK n.name <;> simp
      · have : sortsRef n.op n.kids.length = [] := by simp [sortsRef, l1, e7]
        have l2 : ¬ n.kids.length ≤ 1 := by omega
        rw [this]
        cases x0 <;> cases x1 <;> cases nameOK n.name <;> simp [l2, l0] <;> omega
  have hne : n.op ≠ 10 ∧ n.op ≠ 37 := ⟨fun h => h1 (.inl h), fun h => h1 (.inr h)⟩
  rw [name_same n.op n.name hne]
  generalize hname : (!((hasName n.op && !nameOK n.name) || (!hasName n.op && (!noName n.name && (decide (n.op ≠ 10) && decide (n.op ≠ 37)))))) = x2
  have e6 : n.op ≠ 54 → sortsFor n.op n.kids.length = kidSorts n.op := fun h => by unfold sortsFor; rw [if_neg h1, if_neg h]
  have e8 : sortsRef n.op n.kids.length = kidSorts n.op := by unfold sortsRef; rw [if_neg (by intro h; exact h1 h.1)]
  have hsym : decide ((kidSorts n.op).length = n.kids.length) = decide (n.kids.length = (kidSorts n.op).length) := by
    by_cases h : n.kids.length = (kidSorts n.op).length
    · simp [h]
    · have h' : ¬ (kidSorts n.op).length = n.kids.length := fun e => h e.symm
      simp [h, h']
  by_cases h54 : n.op = 54
  · have h3 : ¬ n.op = 3 := by omega
    have h12 : ¬ n.op = 12 := by omega
    have h39 : ¬ n.op = 39 := by omega
    have ex2 : x2 = noName n.name := by
      rw [← hname, h54]
      have : hasName 54 = false := rfl
      rw [this]
      cases noName n.name <;> simp
    have e1 : n.primed = Node.primeds n.kids := by rw [Node.primed_eq]; simp [h3, h12, h39]
    have e2 : sortsFor n.op n.kids.length = List.replicate (n.kids.length - 1) 4 ++ [2] := by unfold sortsFor; rw [if_neg h1, if_pos h54]
    have e3 : tailOK n.op n.kids = true := by unfold tailOK; rw [if_neg (by omega), if_neg (by omega)]
    have e4 : decide (n.op = 54) = true := by simp [h54]
    rw [ex2]
    simp only [h1, if_false, h3, h12, h39, decide_false, Bool.and_false, Bool.or_false, Bool.not_false, Bool.true_and, e2, e3, e4, Bool.or_true, if_pos h54, flowRef, e1, hk, formeds_flow, Bool.and_true]
    by_cases l2 : 2 ≤ n.kids.length
    · have l3 : n.kids.length = (List.replicate (n.kids.length - 1) (4 : Int) ++ [2]).length := by simp; omega
      rw [decide_eq_true l2, decide_eq_true l3]
      generalize Node.formeds n.kids (List.replicate (n.kids.length - 1) 4 ++ [2]) t f false = x3
      generalize Node.primeds n.kids = x4
      generalize flowOK n.kids = x5
      cases x0 <;> cases x1 <;> cases noName n.name <;> cases x3 <;> cases x4 <;> cases x5 <;> rfl
    · rw [decide_eq_false l2]
      cases x0 <;> cases x1 <;> cases noName n.name <;> simp
  rw [e8, hsym, e6 h54]
  have d54 : decide (n.op = 54) = false := by simp [h54]
  by_cases hl : n.kids.length = (kidSorts n.op).length
  case neg =>
    rw [decide_eq_false hl]
    simp only [if_neg h54, Bool.false_and, Bool.and_false]
  rw [decide_eq_true hl]
  by_cases h3 : n.op = 3
  · have ht : tailRef n.op n.kids = tailOK n.op n.kids := tail_same n hn (by omega) (by omega)
    rw [ht]
    simp only [h1, h54, if_false, hk, h3, if_true, decide_true, Int.reduceEq, decide_false, Bool.and_false, Bool.and_true, Bool.or_false, Bool.false_or, or_self, Bool.true_and]
    generalize Node.formeds n.kids (kidSorts 3) t f false = x3
    generalize tailOK 3 n.kids = x4
    cases x0 <;> cases x1 <;> cases x2 <;> cases x3 <;> cases x4 <;> cases t <;> cases f <;> rfl
  by_cases h12 : n.op = 12
  · have ht : tailRef n.op n.kids = tailOK n.op n.kids := tail_same n hn (by omega) (by omega)
    rw [ht]
    simp only [h1, h54, h3, if_false, hk, h12, if_true, decide_true, Int.reduceEq, decide_false, Bool.and_false, Bool.and_true, Bool.or_false, Bool.false_or, Bool.or_true, or_self, Bool.true_and]
    generalize Node.formeds n.kids (kidSorts 12) true f false = x3
    generalize tailOK 12 n.kids = x4
    cases x0 <;> cases x1 <;> cases x2 <;> cases x3 <;> cases x4 <;> cases t <;> cases f <;> rfl
  by_cases h39 : n.op = 39
  · have l1 : n.kids.length = 1 := by rw [hl, h39]; rfl
    have e3 : tailOK n.op n.kids = true := by unfold tailOK; rw [if_neg (by omega), if_neg (by omega)]
    have e4 : tailRef n.op n.kids = (n.kids.getD 0 nd0).diff := by unfold tailRef; rw [if_neg (by omega), if_neg (by omega), if_pos h39]
    rw [e3, e4]
    simp only [h1, h54, h3, h12, if_false, hk, h39, if_true, decide_true, Int.reduceEq, decide_false, Bool.and_false, Bool.and_true, Bool.or_false, Bool.false_or, Bool.or_true, or_self, Bool.true_and, l1, Bool.not_false]
    generalize Node.formeds n.kids (kidSorts 39) t true false = x3
    generalize (n.kids.getD 0 nd0).diff = x4
    cases x0 <;> cases x1 <;> cases x2 <;> cases x3 <;> cases x4 <;> rfl
  · have ht : tailRef n.op n.kids = tailOK n.op n.kids := tail_same n hn (fun h => by rw [hl, h]; rfl) h39
    simp only [h1, h54, h3, h12, h39, if_false, ht, hk, decide_false, Bool.and_false, Bool.or_false, Bool.not_false, Bool.true_and]
    generalize Node.formeds n.kids (kidSorts n.op) t f false = x3
    generalize tailOK n.op n.kids = x4
    cases x0 <;> cases x1 <;> cases x2 <;> cases x3 <;> cases x4 <;> rfl
theorem check_same (n : Node) (hn : n.ok) (hc : n.count ≤ 1000000000) (s : Int) : n.checkRef s = n.check s := by
  have e1 := size_count n hc
  have e2 := levels_depth n hc
  have hs : (4000 < n.size ∨ 60 < n.levels) ↔ n.small = false := by
    rw [e1, e2]
    simp only [Node.small]
    by_cases h1 : n.count ≤ 4000 <;> by_cases h2 : n.depth ≤ 60 <;> simp [h1, h2] <;> omega
  unfold Node.checkRef Node.check
  by_cases h1 : s < 1 ∨ 3 < s
  · rw [if_pos h1, if_pos h1]
  rw [if_neg h1, if_neg h1]
  by_cases h2 : n.small = false
  · rw [if_pos h2, if_pos (hs.2 h2)]
  rw [if_neg h2, if_neg (fun h => h2 (hs.1 h))]
  by_cases h3 : sortOf n.op = s
  · simp only [h3, ne_eq, not_true_eq_false, if_false, well_formed n hn, decide_true, Bool.true_and]
  · rw [if_pos h3, if_pos h3]
end Go.Vs
end

/- tree.Copy: it returns the same tree. -/

import Derived.Test.YtnddhkcciphhkaaMP17
import Derived.Test.YtnddhkcciphhkaaMP18
section
set_option linter.unusedVariables false
set_option linter.unusedSimpArgs false
namespace Go.Vs
open Go Go.Proofs
/- No list of a tree is too long to be appended to. -/
mutual
def Node.brief : Node → Prop
  | .mk _ _ _ d e f => d.length ≤ 1048576 ∧ e.length ≤ 1048576 ∧ f.length ≤ 1048576 ∧ Node.briefs f
def Node.briefs : List Node → Prop
  | [] => True
  | n :: r => n.brief ∧ Node.briefs r
end
theorem Node.briefs_mem : ∀ {l : List Node}, Node.briefs l → ∀ n ∈ l, n.brief
  | [], _, n, h => by cases h
  | x :: r, h, n, hn => by
    rcases List.mem_cons.1 hn with rfl | hn
    · exact h.1
    · exact Node.briefs_mem h.2 n hn
theorem Node.brief_eq (n : Node) : n.brief ↔ n.num.length ≤ 1048576 ∧ n.den.length ≤ 1048576 ∧ n.kids.length ≤ 1048576 ∧ Node.briefs n.kids := by cases n; exact Iff.rfl
/-- A cell that freezes to a value, refers but below, and isn't hurt by what comes behind. -/
structure CellOK (A B R0 : Obj) (T : Store) (v w : PV) : Prop where
  cell : v.cell = true
  low : (v.refs.all fun i => decide (i < T.length + 3)) = true
  fz : ∀ A B R U d, fzCell (A :: B :: R :: (T ++ U)) (d + 2) v = some w
  ne : ∀ i, T.length + 3 ≤ i → (v.refs.any fun x => [i].contains x) = false
def copyRow (n : Node) (u v : PV) (k : PV) : List PV := [.int .i64 n.op, .str n.name, .bool n.neg, u, v, k]
theorem copyRow_low {n : Node} {T : Store} {u v w w' : PV} (hu : CellOK .gone .gone .gone T u w) (hv : CellOK .gone .gone .gone T v w') (i : Nat) : ((refsL (copyRow n u v (.msl (T.length + 3) 0 i false))).all fun x => decide (x < T.length + 4)) = true := by
  have h1 := hu.low
  have h2 := hv.low
  simp only [List.all_eq_true, decide_eq_true_eq] at h1 h2
  simp only [copyRow, refsL, PV.refs, List.nil_append, List.append_nil, List.all_append, Bool.and_eq_true, List.all_eq_true, decide_eq_true_eq, List.mem_singleton]
  refine ⟨fun x hx => by have := h1 x hx; omega, fun x hx => by have := h2 x hx; omega, fun x hx => by omega⟩
theorem copyRow_part (n : Node) (u v x : PV) : part (tyi Try.prog 54) (copyRow n u v x) = some (.agg (copyRow n u v x)) := part54 _ _ _ _ _ _ _
theorem copyRow_len (n : Node) (u v x : PV) : (copyRow n u v x).length = 6 := rfl
theorem copyRow_all {n : Node} {u v x : PV} (hu : u.cell = true) (hv : v.cell = true) (hx : x.cell = true) : (copyRow n u v x).all PV.cell = true := by
  simp only [copyRow, List.all_cons, List.all_nil, hu, hv, hx, cell_int, cell_str, cell_bool, Bool.and_self]
theorem copyRow_drop5 (n : Node) (u v x : PV) : (copyRow n u v x).drop 5 = [x] := rfl
theorem copyRow_splice5 (n : Node) (u v x y : PV) : splice (copyRow n u v x) 5 [y] = copyRow n u v y := rfl
/-- A kid more. -/
theorem append79 (n : Node) (i : Nat) (hi : i < n.kids.length) (hb : n.kids.length ≤ 1048576) (T : Store) (hT : Quiet T) (u v : PV) {w w' : PV} (hu : CellOK .gone .gone .gone T u w) (hv : CellOK .gone .gone .gone T v w') (g : Option Nat) (hg : g = none ∨ g = some 6) (a b : List PV) (ha : refsL a = []) (hb' : refsL b = []) (k : Node) (c d : List PV) (hc : refsL c = []) (hd : refsL d = []) :
    appendE Try.prog 0 52 52 (.arr [a] none false :: .arr [b] none false :: .arr [copyRow n u v (.msl (T.length + 3) 0 i false)] none false ::
      (T ++ [.arr (Node.rows (n.kids.take i)) (some g) false, .arr [c] none false, .arr [d] none false, .arr [k.cells] (some (some 6)) false])) (.msl (T.length + 3) 0 i false) (.msl (T.length + 3 + 1 + 1 + 1) 0 1 true) =
    some { v := .msl (T.length + 3) 0 (i + 1) false, S := .arr [a] none false :: .arr [b] none false :: .arr [copyRow n u v .undef] none false ::
      (T ++ [.arr (Node.rows (n.kids.take i) ++ [k.cells]) (some (some 6)) false, .arr [c] none false, .arr [d] none false, .arr [k.cells] (some (some 6)) false]), kill := [T.length + 3] } := by
  have hlen : (n.kids.take i).length = i := by rw [List.length_take]; omega
  have hu2 := hu.ne (T.length + 3) (Nat.le_refl _)
  have hv2 := hv.ne (T.length + 3) (Nat.le_refl _)
  have hk : killRows [T.length + 3] [copyRow n u v (.msl (T.length + 3) 0 i false)] = [copyRow n u v .undef] := by
    have e : ((rowsRefs [copyRow n u v (.msl (T.length + 3) 0 i false)]).any fun i => [T.length + 3].contains i) = true := by
      simp [rowsRefs, copyRow, refsL, PV.refs]
    rw [killRows_eq, if_pos e]
    simp only [copyRow, List.map_cons, List.map_nil, kill1_eq, hu2, hv2]
    simp [PV.refs]
  have hq : ∀ r : List PV, refsL r = [] → ∀ g f, killObj [T.length + 3] (.arr [r] g f) = .arr [r] g f := fun r hr g f => by
    rw [killObj_arr, killRows_eq, rowsRefs_cons, hr]; rfl
  have hq2 : ∀ l : List Node, ∀ g f, killObj [T.length + 3] (.arr (Node.rows l) g f) = .arr (Node.rows l) g f := fun l g f => by
    rw [killObj_arr, killRows_eq, nodeRows_refs]; rfl
  rw [appendE52, append_known (rows := Node.rows (n.kids.take i)) (new := [k.cells]) (g := g) (b := 0) (id := T.length + 3) ?h1 ?h2 (Nat.zero_le _) ?h3 hg (nodeRows_ok _) ?h4 ?h5 ?h6 ?h7]
  case h1 => simp only [List.getElem?_cons_succ]; rw [List.getElem?_append_right (Nat.le_refl _), Nat.sub_self]; rfl
  case h2 =>
    have e : rowsAt (.arr [a] none false :: .arr [b] none false :: .arr [copyRow n u v (.msl (T.length + 3) 0 i false)] none false ::
      (T ++ [.arr (Node.rows (n.kids.take i)) (some g) false, .arr [c] none false, .arr [d] none false, .arr [k.cells] (some (some 6)) false])) (T.length + 3 + 1 + 1 + 1) = some [k.cells] := by
      rw [rowsAt_succ, rowsAt_succ, rowsAt_succ, rowsAt_tail1]; rfl
    rw [rowsIn_msl, e]; rfl
  case h3 => rw [Node.rows_length, hlen]
  case h4 => rw [rowsOK_cons, Node.cells_length]; rfl
  case h5 => rw [Node.rows_length, hlen]; simp only [List.length_cons, List.length_nil]; omega
  case h6 => rw [Node.rows_length, hlen]; simp only [List.length_cons, List.length_nil]; omega
  case h7 => rw [nodeRows_refs, rowsRefs_cons, Node.refs]; rfl
  rw [Node.rows_length, hlen]
  simp only [List.map_cons, List.map_append, List.map_nil, hT.kill, hq a ha, hq b hb', hq c hc, hq d hd, hq k.cells (Node.refs k), hq2, killObj_arr, hk, List.set_cons_succ, set_tail0, List.set_cons_zero, List.length_cons, List.length_nil]
theorem loop79 (n : Node) (hn : n.ok) (hb : n.kids.length ≤ 1048576) (T : Store) (hT : Quiet T) (u v : PV) (hu : CellOK .gone .gone .gone T u (.sl (wordRows n.num) false)) (hv : CellOK .gone .gone .gone T v (.sl (wordRows n.den) false))
    (ih : ∀ k ∈ n.kids, callL Try.prog hints 79 [.agg k.cells] = some (.agg k.cells)) :
    ∀ (m i : Nat), i + m = n.kids.length → ∀ (g : Option Nat), g = none ∨ g = some 6 →
      ∃ g', F79.L0 0 (T.length + 4) (.mp 1 0 0) (.mp 2 0 0) (.sl (Node.rows n.kids) false) (.int .i64 n.kids.length) (.int .i64 i)
        (.arr [n.cells] none false :: .arr [zeroNode] none false :: .arr [copyRow n u v (.msl (T.length + 3) 0 i false)] none false :: (T ++ [.arr (Node.rows (n.kids.take i)) (some g) false])) =
        some (.agg (copyRow n u v (.msl (T.length + 3) 0 n.kids.length false)), .arr [n.cells] none false :: .arr [copyRow n u v (.msl (T.length + 3) 0 n.kids.length false)] none false :: .arr [copyRow n u v (.msl (T.length + 3) 0 n.kids.length false)] none false :: (T ++ [.arr (Node.rows n.kids) (some g') false])) := by
  intro m
  induction m with
  | zero =>
    intro i hi g hg
    have h1 : ¬ (i : Int) < (n.kids.length : Int) := by omega
    obtain rfl : i = n.kids.length := by omega
    refine ⟨g, F79.L0_step ?_⟩
    have e2 := copyRow_low (n := n) hu hv n.kids.length
    have e3 := copyRow_all (n := n) hu.cell hv.cell (cell_msl (T.length + 3) 0 n.kids.length false)
    have d1 : 1 < T.length + 4 := by omega
    have d2 : 2 < T.length + 4 := by omega
    simp only [go_sem, ↓reduceIte, Nat.reduceEqDiff, Nat.reduceBEq, Nat.reduceAdd, Nat.reduceMul, Nat.reduceSub, Nat.reduceLT, Nat.reduceLeDiff, reduceCtorEq, Int.reduceToNat, Int.reduceLE, Int.reduceLT, Int.reduceEq, h1, hT.held, take_len, e2, e3, d1, d2, List.take_length, copyRow_part, copyRow_len]
  | succ m hm =>
    intro i hi g hg
    have h1 : (i : Int) < (n.kids.length : Int) := by omega
    have h2 := wrap_succ (i := i) (n := n.kids.length) (by omega) hn.len
    have h4 : 0 ≤ (i : Int) ∧ (i : Int) < (n.kids.length : Int) := ⟨by omega, h1⟩
    have h5 := fun S => callN S (ih _ (kids_mem (l := n.kids) (i := i) (by omega)))
    obtain ⟨g', h6⟩ := hm (i + 1) (by omega) (some 6) (.inr rfl)
    refine ⟨g', F79.L0_step ?_⟩
    have e2 := copyRow_low (n := n) hu hv (i + 1)
    have e3 := copyRow_all (n := n) hu.cell hv.cell (cell_msl (T.length + 3) 0 i false)
    have d1 : 1 < T.length + 4 := by omega
    have d2 : 2 < T.length + 4 := by omega
    have b1 : (1 == T.length + 3) = false := by simp
    have b2 : (2 == T.length + 3) = false := by simp
    have e4 := copyRow_all (n := n) (x := .undef) hu.cell hv.cell
    have e5 := append79 n i (by omega) hb T hT u v hu hv g hg n.cells zeroNode (Node.refs n) rfl (n.kids.getD i default) _ _ (Node.refs (n.kids.getD i default)) (Node.refs (n.kids.getD i default))
    have e6 : Node.rows (n.kids.take i) ++ [(n.kids.getD i default).cells] = Node.rows (n.kids.take (i + 1)) := by
      rw [Node.rows_eq, Node.rows_eq, List.take_add_one, List.map_append]
      simp [List.getD_eq_getElem?_getD, show i < n.kids.length by omega]
    rw [e6] at e5
    simp only [go_sem, ↓reduceIte, Nat.reduceEqDiff, Nat.reduceBEq, Nat.reduceAdd, Nat.reduceMul, Nat.reduceSub, Nat.reduceLT, Nat.reduceLeDiff, reduceCtorEq, Int.reduceToNat, Int.reduceLE, Int.reduceLT, Int.reduceEq, h1, h2, h4, h5, hT.held, take_len, e2, e3, d1, d2, b1, b2, e5, List.take_length, copyRow_part, copyRow_len, copyRow_drop5, copyRow_splice5, ↓h6]
/-- A slice of words that lie in the store. -/
theorem fzCell_words {S : Store} {id : Nat} {l : List Int} {ex : Bool} (h : rowsAt S id = some (wordRows l)) (d : Nat) : fzCell S (d + 2) (.msl id 0 l.length ex) = some (.sl (wordRows l) false) := by
  have e1 : rowsIn S (.msl id 0 l.length false) = some (wordRows l) := by
    have : l.length = (wordRows l).length := (wordRows_length l).symm
    simp only [rowsIn, h, Option.bind_some, Nat.zero_add, List.drop_zero, wordRows_length, Nat.le_refl, if_true]
    rw [this, List.take_length]
  have e2 : mapO (mapO (fzCell S (d + 1))) (wordRows l) = some (wordRows l) := by
    have := mapO_all (f := mapO (fzCell S (d + 1))) (g := fun x => x) (l := wordRows l) (fun a ha => by
      obtain ⟨w, _, rfl⟩ := List.mem_map.1 ha
      rfl)
    simpa using this
  show ((rowsIn S (.msl id 0 l.length false)).bind fun rows => (mapO (mapO (fzCell S (d + 1))) rows).map fun rows => PV.sl rows false) = _
  rw [e1]
  simp only [Option.bind_some, e2, Option.map_some]
theorem fzCell_nodes {S : Store} {id : Nat} {l : List Node} {ex : Bool} (h : rowsAt S id = some (Node.rows l)) (d : Nat) : fzCell S (d + 2) (.msl id 0 l.length ex) = some (.sl (Node.rows l) false) := by
  have e1 : rowsIn S (.msl id 0 l.length false) = some (Node.rows l) := by
    have : l.length = (Node.rows l).length := (Node.rows_length l).symm
    simp only [rowsIn, h, Option.bind_some, Nat.zero_add, List.drop_zero, Node.rows_length, Nat.le_refl, if_true]
    rw [this, List.take_length]
  have e2 : mapO (mapO (fzCell S (d + 1))) (Node.rows l) = some (Node.rows l) := by
    have := mapO_all (f := mapO (fzCell S (d + 1))) (g := fun x => x) (l := Node.rows l) (fun a ha => by
      rw [Node.rows_eq] at ha
      obtain ⟨w, _, rfl⟩ := List.mem_map.1 ha
      cases w; rfl)
    simpa using this
  show ((rowsIn S (.msl id 0 l.length false)).bind fun rows => (mapO (mapO (fzCell S (d + 1))) rows).map fun rows => PV.sl rows false) = _
  rw [e1]
  simp only [Option.bind_some, e2, Option.map_some]
theorem CellOK.none {A B R0 : Obj} {T : Store} {l : List Int} (h : l.length = 0) : CellOK A B R0 T (.sl [] true) (.sl (wordRows l) false) := by
  obtain rfl := List.eq_nil_of_length_eq_zero h
  exact ⟨rfl, rfl, fun _ _ _ _ _ => rfl, fun _ _ => rfl⟩
theorem CellOK.some {A B R0 : Obj} {T : Store} {l : List Int} {j : Nat} (hj : j < T.length) (h : ∀ U, rowsAt (T ++ U) j = some (wordRows l)) : CellOK A B R0 T (.msl (j + 3) 0 l.length false) (.sl (wordRows l) false) := by
  refine ⟨rfl, ?_, fun A B R U d => fzCell_words ?_ d, fun i hi => ?_⟩
  · simp [PV.refs]; omega
  · rw [rowsAt_succ, rowsAt_succ, rowsAt_succ]; exact h U
  · simp [PV.refs]; omega
theorem call79 : ∀ n : Node, n.ok → n.brief → callL Try.prog hints 79 [.agg n.cells] = some (.agg n.cells) := by
  refine Node.ind' fun n ih hn hb => ?_
  rw [Node.brief_eq] at hb
  have hih := fun k hk => ih k hk (hn.kids k hk) (Node.briefs_mem hb.2.2.2 k hk)
  have key : ∀ (T : Store), Quiet T → ∀ u v, CellOK .gone .gone .gone T u (.sl (wordRows n.num) false) → CellOK .gone .gone .gone T v (.sl (wordRows n.den) false) →
      ∃ r, F79.L0 0 (T.length + 4) (.mp 1 0 0) (.mp 2 0 0) (.sl (Node.rows n.kids) false) (.int .i64 n.kids.length) (.int .i64 0)
        (.arr [n.cells] none false :: .arr [zeroNode] none false :: .arr [copyRow n u v (.msl (T.length + 3) 0 0 false)] none false :: (T ++ [.arr [] (some none) false])) = some r ∧ fzPV r.2 r.1 = some (.agg n.cells) := by
    intro T hT u v hu hv
    obtain ⟨g', h⟩ := loop79 n hn hb.2.2.1 T hT u v hu hv hih n.kids.length 0 (by omega) none (.inl rfl)
    refine ⟨_, h, ?_⟩
    have e1 := hu.fz (.arr [n.cells] none false) (.arr [copyRow n u v (.msl (T.length + 3) 0 n.kids.length false)] none false) (.arr [copyRow n u v (.msl (T.length + 3) 0 n.kids.length false)] none false) [.arr (Node.rows n.kids) (some g') false] 6
    have e2 := hv.fz (.arr [n.cells] none false) (.arr [copyRow n u v (.msl (T.length + 3) 0 n.kids.length false)] none false) (.arr [copyRow n u v (.msl (T.length + 3) 0 n.kids.length false)] none false) [.arr (Node.rows n.kids) (some g') false] 6
    have e3 : fzCell (.arr [n.cells] none false :: .arr [copyRow n u v (.msl (T.length + 3) 0 n.kids.length false)] none false :: .arr [copyRow n u v (.msl (T.length + 3) 0 n.kids.length false)] none false :: (T ++ [.arr (Node.rows n.kids) (some g') false])) (6 + 2) (.msl (T.length + 3) 0 n.kids.length false) = some (.sl (Node.rows n.kids) false) := fzCell_nodes (by rw [rowsAt_succ, rowsAt_succ, rowsAt_succ, rowsAt_tail]; rfl) 6
    simp only [fzPV, fzPV1, copyRow, mapO_cons, mapO_nil, fzCell_int, fzCell_str, fzCell_bool, some_bind, some_map] at e1 e2 e3 ⊢
    rw [e1, e2, e3, Node.cells_eq]
    rfl
  have a1 : ∀ (S : Store), n.num.length ≠ 0 → appendE Try.prog 0 49 49 S (.sl [] true) (.sl (wordRows n.num) false) = _ := fun S h => append49_nil 0 S n.num (by omega) hb.1
  have a2 : ∀ (S : Store), n.den.length ≠ 0 → appendE Try.prog 0 49 49 S (.sl [] true) (.sl (wordRows n.den) false) = _ := fun S h => append49_nil 0 S n.den (by omega) hb.2.1
  by_cases h1 : n.num.length = 0
  · have p1 : ¬ (0 : Int) < (n.num.length : Int) := by omega
    by_cases h2 : n.den.length = 0
    · have p2 : ¬ (0 : Int) < (n.den.length : Int) := by omega
      obtain ⟨r, h, hz⟩ := key [] .nil _ _ (.none h1) (.none h2)
      refine F79.call (r := r) ?_ hz
      rw [← h]
      cases hg : n.neg <;> simp only [go_sem, ↓reduceIte, Nat.reduceEqDiff, Nat.reduceBEq, Nat.reduceAdd, Nat.reduceMul, Nat.reduceSub, Nat.reduceLT, Nat.reduceLeDiff, reduceCtorEq, Int.reduceToNat, Int.reduceLE, Int.reduceLT, Int.reduceEq, p1, p2, hg, copyRow] <;> rfl
    · have p2 : (0 : Int) < (n.den.length : Int) := by omega
      have a2 := fun S => a2 S h2
      obtain ⟨r, h, hz⟩ := key [.arr (wordRows n.den) (some (some 1)) false] (.cons (wordRows_refs _) .nil) _ _ (.none h1) (.some (j := 0) (Nat.zero_lt_one) fun U => rfl)
      refine F79.call (r := r) ?_ hz
      rw [← h]
      cases hg : n.neg <;> simp only [go_sem, ↓reduceIte, Nat.reduceEqDiff, Nat.reduceBEq, Nat.reduceAdd, Nat.reduceMul, Nat.reduceSub, Nat.reduceLT, Nat.reduceLeDiff, reduceCtorEq, Int.reduceToNat, Int.reduceLE, Int.reduceLT, Int.reduceEq, p1, p2, hg, a2, copyRow] <;> rfl
  · have p1 : (0 : Int) < (n.num.length : Int) := by omega
    have a1 := fun S => a1 S h1
    by_cases h2 : n.den.length = 0
    · have p2 : ¬ (0 : Int) < (n.den.length : Int) := by omega
      obtain ⟨r, h, hz⟩ := key [.arr (wordRows n.num) (some (some 1)) false] (.cons (wordRows_refs _) .nil) _ _ (.some (j := 0) (Nat.zero_lt_one) fun U => rfl) (.none h2)
      refine F79.call (r := r) ?_ hz
      rw [← h]
      cases hg : n.neg <;> simp only [go_sem, ↓reduceIte, Nat.reduceEqDiff, Nat.reduceBEq, Nat.reduceAdd, Nat.reduceMul, Nat.reduceSub, Nat.reduceLT, Nat.reduceLeDiff, reduceCtorEq, Int.reduceToNat, Int.reduceLE, Int.reduceLT, Int.reduceEq, p1, p2, hg, a1, copyRow] <;> rfl
    · have p2 : (0 : Int) < (n.den.length : Int) := by omega
      have a2 := fun S => a2 S h2
      obtain ⟨r, h, hz⟩ := key [.arr (wordRows n.num) (some (some 1)) false, .arr (wordRows n.den) (some (some 1)) false] (.cons (wordRows_refs _) (.cons (wordRows_refs _) .nil)) _ _ (.some (j := 0) (show (0 : Nat) < 2 by decide) fun U => rfl) (.some (j := 1) (show (1 : Nat) < 2 by decide) fun U => rfl)
      refine F79.call (r := r) ?_ hz
      rw [← h]
      cases hg : n.neg <;> simp only [go_sem, ↓reduceIte, Nat.reduceEqDiff, Nat.reduceBEq, Nat.reduceAdd, Nat.reduceMul, Nat.reduceSub, Nat.reduceLT, Nat.reduceLeDiff, reduceCtorEq, Int.reduceToNat, Int.reduceLE, Int.reduceLT, Int.reduceEq, p1, p2, hg, a1, a2, copyRow] <;> rfl
end Go.Vs
end
/- tree.put: the tree with another node at a place. -/
section
set_option linter.unusedVariables false
set_option linter.unusedSimpArgs false
namespace Go.Vs
open Go Go.Proofs
/-- The tree with w at a place. -/
def Node.put (w : Node) : List Int → Node → Node
  | [], _ => w
  | p :: ps, n => .mk n.op n.name n.neg n.num n.den (n.kids.mapIdx fun i k => if (i : Int) = p then Node.put w ps k else k)
def putKids (w : Node) (p : Int) (ps : List Int) (l : List Node) : List Node := l.mapIdx fun i k => if (i : Int) = p then Node.put w ps k else k
theorem putKids_length (w : Node) (p : Int) (ps : List Int) (l : List Node) : (putKids w p ps l).length = l.length := by simp [putKids]
theorem putKids_get (w : Node) (p : Int) (ps : List Int) (l : List Node) {i : Nat} (h : i < l.length) : (putKids w p ps l).getD i default = if (i : Int) = p then Node.put w ps (l.getD i default) else l.getD i default := by
  simp [putKids, List.getD_eq_getElem?_getD, h]
theorem rows_take {l : List Node} {i : Nat} (h : i < l.length) : Node.rows (l.take i) ++ [(l.getD i default).cells] = Node.rows (l.take (i + 1)) := by
  rw [Node.rows_eq, Node.rows_eq, List.take_add_one, List.map_append]
  simp [List.getD_eq_getElem?_getD, h]
/-- A call whose arguments mention no array, by what they freeze to. -/
theorem callO_fz {S : Store} {f : FuncId} {l l' : List PV} {v : PV} (hr : l.flatMap PV.refs = []) (hf : mapO (fzPV S) l = some l') (h : callL Try.prog hints f l' = some v) : callO (callL Try.prog hints) S f l = some { v } := by
  simp [callO, hr, reach_nil, hf, h]
@[go_sem] theorem slice22_from (S : Store) (l : List Int) (h : 0 < l.length) : sliceO Try.prog 22 S (.sl (intRows l) false) (some (.int .i64 1)) none none = some (.sl (intRows (l.drop 1)) false) := by
  have e1 : elemTy (tyi Try.prog 22) = 3 := by simp [elemTy, d22]
  have e5 : (intRows l).drop 1 = intRows (l.drop 1) := by simp [intRows, List.map_drop]
  have e6 : 1 ≤ l.length := h
  have e7 : (intRows l).take l.length = intRows l := by rw [← intRows_length l, List.take_length]
  simp [sliceO, e1, known3, size3, evSlice, d22, bound, intRows_ok, intRows_length, e6, e7, e5]
@[go_sem] theorem slice22_cons (S : Store) (p : Int) (l : List Int) : sliceO Try.prog 22 S (.sl (intRows (p :: l)) false) (some (.int .i64 1)) none none = some (.sl (intRows l) false) := slice22_from S (p :: l) (by simp)
def putRow (n : Node) (k : PV) : List PV := [.int .i64 n.op, .str n.name, .bool n.neg, .sl (wordRows n.num) false, .sl (wordRows n.den) false, k]
theorem putRow_part (n : Node) (x : PV) : part (tyi Try.prog 54) (putRow n x) = some (.agg (putRow n x)) := part54 _ _ _ _ _ _ _
theorem putRow_len (n : Node) (x : PV) : (putRow n x).length = 6 := rfl
theorem putRow_drop5 (n : Node) (x : PV) : (putRow n x).drop 5 = [x] := rfl
theorem putRow_splice5 (n : Node) (x y : PV) : splice (putRow n x) 5 [y] = putRow n y := rfl
theorem putRow_refs (n : Node) (x : PV) : refsL (putRow n x) = x.refs := by simp [putRow, refsL, PV.refs]
theorem append81 (l : List Node) (i : Nat) (hi : l.length = i) (hb : i < 1048576) (n : Node) (g : Option Nat) (hg : g = none ∨ g = some 6) (a b z c d : List PV) (ha : refsL a = []) (hb' : refsL b = []) (hz : refsL z = []) (hc : refsL c = []) (hd : refsL d = []) (k : Node) :
    appendE Try.prog 0 52 52 [.arr [a] none false, .arr [b] none false, .arr [z] none false, .arr [putRow n (.msl 4 0 i false)] none false, .arr (Node.rows l) (some g) false, .arr [c] none false, .arr [d] none false, .arr [k.cells] (some (some 6)) false] (.msl 4 0 i false) (.msl 7 0 1 true) =
    some { v := .msl 4 0 (i + 1) false, S := [.arr [a] none false, .arr [b] none false, .arr [z] none false, .arr [putRow n .undef] none false, .arr (Node.rows l ++ [k.cells]) (some (some 6)) false, .arr [c] none false, .arr [d] none false, .arr [k.cells] (some (some 6)) false], kill := [4] } := by
  have hk : killRows [4] [putRow n (.msl 4 0 i false)] = [putRow n .undef] := rfl
  have hq : ∀ r : List PV, refsL r = [] → ∀ g f, killObj [4] (.arr [r] g f) = .arr [r] g f := fun r hr g f => by
    rw [killObj_arr, killRows_eq, rowsRefs_cons, hr]; rfl
  have hq2 : ∀ g f, killObj [4] (.arr (Node.rows l) g f) = .arr (Node.rows l) g f := fun g f => by
    rw [killObj_arr, killRows_eq, nodeRows_refs]; rfl
  rw [appendE52, append_known (rows := Node.rows l) (new := [k.cells]) (g := g) (b := 0) (id := 4) rfl rfl (Nat.zero_le _) ?h3 hg (nodeRows_ok _) ?h4 ?h5 ?h6 ?h7]
  case h3 => rw [Node.rows_length, hi]
  case h4 => rw [rowsOK_cons, Node.cells_length]; rfl
  case h5 => rw [Node.rows_length, hi]; simp only [List.length_cons, List.length_nil]; omega
  case h6 => rw [Node.rows_length, hi]; simp only [List.length_cons, List.length_nil]; omega
  case h7 => rw [nodeRows_refs, rowsRefs_cons, Node.refs]; rfl
  rw [Node.rows_length, hi]
  simp only [List.map_cons, List.map_nil, hq a ha, hq b hb', hq z hz, hq c hc, hq d hd, hq k.cells (Node.refs k), hq2, killObj_arr, hk, List.set_cons_succ, List.set_cons_zero, List.length_cons, List.length_nil]
theorem call79num (n : Node) (hn : n.ok) (hb : n.brief) (S : Store) : callO (callL Try.prog hints) S 79 [.agg [.int .i64 0, .str ByteArray.empty, .bool n.neg, .sl (wordRows n.num) false, .sl (wordRows n.den) false, .sl [] true]] =
    some { v := .agg (Node.mk 0 ByteArray.empty n.neg n.num n.den []).cells } := by
  refine callO_fz (l' := [.agg (Node.mk 0 ByteArray.empty n.neg n.num n.den []).cells]) rfl rfl (call79 _ ?_ ?_)
  · cases n; exact ⟨by omega, Nat.zero_le _, hn.2.2.1, hn.2.2.2.1, hn.2.2.2.2.1, hn.2.2.2.2.2.1, Nat.zero_le _, trivial⟩
  · rw [Node.brief_eq] at hb; exact ⟨hb.1, hb.2.1, Nat.zero_le _, trivial⟩
@[go_sem] theorem node_field2 (n : Node) : evField (tyi Try.prog 54) 2 (.agg n.cells) = some (.agg (ratCells n.neg n.num n.den)) := by
  cases n; simp [evField, d54, Node.cells, ratCells, Node.neg, Node.num, Node.den]
theorem putRow_store (n : Node) (x : PV) : (putRow n x).take 2 ++ (ratCells n.neg n.num n.den ++ (putRow n x).drop 5) = putRow n x := rfl
theorem loop81 (n w : Node) (p : Int) (ps : List Int) (hn : n.ok) (hb : n.brief)
    (ih : ∀ k ∈ n.kids, callL Try.prog hints 81 [.agg k.cells, .sl (intRows ps) false, .agg w.cells] = some (.agg (Node.put w ps k).cells)) :
    ∀ (m i : Nat), i + m = n.kids.length → ∀ (g : Option Nat), g = none ∨ g = some 6 →
      ∃ g', F81.L0 0 5 (.sl (intRows (p :: ps)) false) (.mp 0 0 0) (.mp 1 0 0) (.mp 2 0 0) (.mp 3 0 0) (.sl (Node.rows n.kids) false) (.int .i64 n.kids.length) (.int .i64 i)
        [.arr [n.cells] none false, .arr [w.cells] none false, .arr [zeroNode] none false, .arr [putRow n (.msl 4 0 i false)] none false, .arr (Node.rows ((putKids w p ps n.kids).take i)) (some g) false] =
        some (.agg (putRow n (.msl 4 0 n.kids.length false)), [.arr [n.cells] none false, .arr [w.cells] none false, .arr [putRow n (.msl 4 0 n.kids.length false)] none false, .arr [putRow n (.msl 4 0 n.kids.length false)] none false, .arr (Node.rows (putKids w p ps n.kids)) (some g') false]) := by
  have hb0 := hb
  rw [Node.brief_eq] at hb0
  intro m
  induction m with
  | zero =>
    intro i hi g hg
    have h1 : ¬ (i : Int) < (n.kids.length : Int) := by omega
    obtain rfl : i = n.kids.length := by omega
    refine ⟨g, F81.L0_step ?_⟩
    have e3 : (putRow n (.msl 4 0 n.kids.length false)).all PV.cell = true := rfl
    have e4 := call79num n hn hb
    have e5 : (putKids w p ps n.kids).take n.kids.length = putKids w p ps n.kids := by rw [← putKids_length w p ps n.kids, List.take_length]
    have e6 : (Node.mk 0 ByteArray.empty n.neg n.num n.den []).neg = n.neg ∧ (Node.mk 0 ByteArray.empty n.neg n.num n.den []).num = n.num ∧ (Node.mk 0 ByteArray.empty n.neg n.num n.den []).den = n.den := ⟨rfl, rfl, rfl⟩
    simp only [go_sem, ↓reduceIte, Nat.reduceEqDiff, Nat.reduceBEq, Nat.reduceAdd, Nat.reduceMul, Nat.reduceSub, Nat.reduceLT, Nat.reduceLeDiff, reduceCtorEq, Int.reduceToNat, Int.reduceLE, Int.reduceLT, Int.reduceEq, h1, e3, e4, e5, e6, putRow_part, putRow_len, putRow_refs, putRow_store]
  | succ m hm =>
    intro i hi g hg
    have h1 : (i : Int) < (n.kids.length : Int) := by omega
    have h2 := wrap_succ (i := i) (n := n.kids.length) (by omega) hn.len
    have h4 : 0 ≤ (i : Int) ∧ (i : Int) < (n.kids.length : Int) := ⟨by omega, h1⟩
    have hmem := kids_mem (l := n.kids) (i := i) (by omega)
    obtain ⟨g', h6⟩ := hm (i + 1) (by omega) (some 6) (.inr rfl)
    refine ⟨g', F81.L0_step ?_⟩
    have e2 : ((putKids w p ps n.kids).take i).length = i := by rw [List.length_take, putKids_length]; omega
    have e3 : (putRow n (.msl 4 0 i false)).all PV.cell = true := rfl
    have e4 : (0 : Int) ≤ 0 ∧ (0 : Int) < ((p :: ps).length : Int) := ⟨by omega, by simp only [List.length_cons]; omega⟩
    have e5 : 0 < (p :: ps).length := by simp
    have e10 : (0 : Int) < ((ps.length + 1 : Nat) : Int) := by omega
    have e7 : (p :: ps).drop 1 = ps := rfl
    have e8 := rows_take (l := putKids w p ps n.kids) (i := i) (by rw [putKids_length]; omega)
    rw [putKids_get _ _ _ _ (by omega)] at e8
    by_cases hp : (i : Int) = p
    · subst hp
      rw [if_pos rfl] at e8
      have h5 := fun S => callO_plain (S := S) (ih _ hmem) (by simp [Node.plain, Plain.sl])
      have e9 := append81 ((putKids w _ ps n.kids).take i) i e2 (by omega) n g hg n.cells w.cells zeroNode (n.kids.getD i default).cells (Node.put w ps (n.kids.getD i default)).cells (Node.refs _) (Node.refs _) rfl (Node.refs _) (Node.refs _) (Node.put w ps (n.kids.getD i default))
      rw [e8] at e9
      simp only [go_sem, ↓reduceIte, Nat.reduceEqDiff, Nat.reduceBEq, Nat.reduceAdd, Nat.reduceMul, Nat.reduceSub, Nat.reduceLT, Nat.reduceLeDiff, reduceCtorEq, Int.reduceToNat, Int.reduceLE, Int.reduceLT, Int.reduceEq, h1, h2, h4, h5, e3, e4, e5, e7, e9, e10, List.getD_cons_zero, putRow_part, putRow_len, putRow_refs, putRow_drop5, putRow_splice5, ↓h6]
    · rw [if_neg hp] at e8
      have h5 := fun S => callN S (call79 _ (hn.kids _ hmem) (Node.briefs_mem hb0.2.2.2 _ hmem))
      have e9 := append81 ((putKids w _ ps n.kids).take i) i e2 (by omega) n g hg n.cells w.cells zeroNode (n.kids.getD i default).cells (n.kids.getD i default).cells (Node.refs _) (Node.refs _) rfl (Node.refs _) (Node.refs _) (n.kids.getD i default)
      rw [e8] at e9
      simp only [go_sem, ↓reduceIte, Nat.reduceEqDiff, Nat.reduceBEq, Nat.reduceAdd, Nat.reduceMul, Nat.reduceSub, Nat.reduceLT, Nat.reduceLeDiff, reduceCtorEq, Int.reduceToNat, Int.reduceLE, Int.reduceLT, Int.reduceEq, h1, h2, h4, h5, hp, e3, e4, e5, e7, e9, e10, List.getD_cons_zero, putRow_part, putRow_len, putRow_refs, putRow_drop5, putRow_splice5, ↓h6]
theorem call81 (w : Node) (hw : w.ok) (hwb : w.brief) : ∀ (path : List Int), path.length ≤ maxLen → ∀ n : Node, n.ok → n.brief → callL Try.prog hints 81 [.agg n.cells, .sl (intRows path) false, .agg w.cells] = some (.agg (Node.put w path n).cells)
  | [], _, n, hn, hb => by
    refine F81.call (r := (.agg w.cells, [.arr [n.cells] none false, .arr [w.cells] none false, .arr [w.cells] none false])) ?_ (Node.fz _ _)
    have h5 := fun S => callN S (call79 w hw hwb)
    simp only [go_sem, ↓reduceIte, Nat.reduceEqDiff, Nat.reduceBEq, Nat.reduceAdd, Nat.reduceMul, Nat.reduceSub, Nat.reduceLT, Nat.reduceLeDiff, reduceCtorEq, Int.reduceToNat, Int.reduceLE, Int.reduceLT, Int.reduceEq, h5, Int.natCast_zero]
  | p :: ps, hl, n, hn, hb => by
    have hb0 := hb
    rw [Node.brief_eq] at hb0
    have hl' : ps.length ≤ maxLen := by simp only [List.length_cons] at hl; omega
    obtain ⟨g', h⟩ := loop81 n w p ps hn hb (fun k hk => call81 w hw hwb ps hl' k (hn.kids k hk) (Node.briefs_mem hb0.2.2.2 k hk)) n.kids.length 0 (by omega) none (.inl rfl)
    refine F81.call (r := _) (v := .agg (Node.put w (p :: ps) n).cells) (Eq.trans ?_ h) ?_
    · have e1 : ¬ ((ps.length + 1 : Nat) : Int) = 0 := by omega
      have e2 : n.cells.take 5 ++ .sl [] true :: n.cells.drop 6 = putRow n (.sl [] true) := by cases n; rfl
      simp only [go_sem, ↓reduceIte, Nat.reduceEqDiff, Nat.reduceBEq, Nat.reduceAdd, Nat.reduceMul, Nat.reduceSub, Nat.reduceLT, Nat.reduceLeDiff, reduceCtorEq, Int.reduceToNat, Int.reduceLE, Int.reduceLT, Int.reduceEq, e1, e2]
      rfl
    · have e3 : fzCell [.arr [n.cells] none false, .arr [w.cells] none false, .arr [putRow n (.msl 4 0 n.kids.length false)] none false, .arr [putRow n (.msl 4 0 n.kids.length false)] none false, .arr (Node.rows (putKids w p ps n.kids)) (some g') false] (6 + 2) (.msl 4 0 n.kids.length false) = some (.sl (Node.rows (putKids w p ps n.kids)) false) := by
        rw [← putKids_length w p ps n.kids]
        exact fzCell_nodes rfl 6
      simp only [fzPV, fzPV1, putRow, mapO_cons, mapO_nil, fzCell_int, fzCell_str, fzCell_bool, fzCell_sl, some_bind, some_map] at e3 ⊢
      rw [e3]
      rfl
end Go.Vs
end
/- tree.shape: what it returns. -/
section
set_option linter.unusedVariables false
set_option linter.unusedSimpArgs false
namespace Go.Vs
open Go Go.Proofs
/-- The sorts of an operator's kids; what differs by the node is not told here. -/
def kidSorts (o : Int) : List Int :=
  if o = 4 ∨ o = 12 then [1] else if o = 59 ∨ o = 60 then [3] else if o = 53 ∨ o = 28 ∨ o = 39 then [2] else
  if (5 ≤ o ∧ o ≤ 9) ∨ (22 ≤ o ∧ o ≤ 27) then [1, 1] else if 29 ≤ o ∧ o ≤ 32 then [2, 2] else if o = 33 ∨ o = 34 then [2] else
  if o = 35 ∨ o = 36 then [3, 2] else if o = 50 ∨ o = 51 ∨ o = 55 then [1] else if o = 57 ∨ o = 58 then [3, 3] else []
/-- Has a node of an operator a name? -/
def hasName (o : Int) : Bool := decide (o = 2 ∨ o = 3 ∨ o = 11 ∨ o = 33 ∨ o = 34 ∨ o = 38 ∨ o = 50 ∨ o = 51 ∨ o = 52 ∨ o = 55 ∨ o = 56 ∨ o = 61 ∨ o = 62)
def kidsV (l : List Int) : PV := .sl (intRows l) l.isEmpty
@[go_sem] theorem withV_kids {R : Type} (l : List Int) (K : PV → Option R) : withV (some (kidsV l)) K = K (kidsV l) := nr rfl
@[go_sem ↓] theorem pre_withV_kids {R : Type} (l : List Int) (K : PV → Option R) : withV (some (kidsV l)) K = K (kidsV l) := nr rfl
theorem kidSorts_none {o : Int} (h1 : o ≠ 4 ∧ o ≠ 12 ∧ o ≠ 59 ∧ o ≠ 60 ∧ o ≠ 53 ∧ o ≠ 28 ∧ o ≠ 39) (h2 : ¬ (5 ≤ o ∧ o ≤ 9) ∧ ¬ (22 ≤ o ∧ o ≤ 27) ∧ ¬ (29 ≤ o ∧ o ≤ 36)) (h3 : ¬ (50 ≤ o ∧ o ≤ 51) ∧ o ≠ 55 ∧ o ≠ 57 ∧ o ≠ 58) : kidSorts o = [] := by
  unfold kidSorts
  repeat' (refine iteEq (fun _ => ?_) (fun _ => ?_))
  all_goals first | rfl | (exfalso; omega)
theorem call85 (o : Int) : callL Try.prog hints 85 [.int .i64 o] = some (.tup [.bool (hasName o), kidsV (kidSorts o)]) := by
  refine bindCall F85.call ?_
  simp only [go_sem, ↓reduceIte, Nat.reduceEqDiff, Nat.reduceBEq, Nat.reduceAdd, Nat.reduceMul, Nat.reduceSub, Nat.reduceLT, Nat.reduceLeDiff, reduceCtorEq, Int.reduceToNat, Int.reduceLE, Int.reduceLT, Int.reduceEq]
  repeat' (refine iteBind ?_ ?_ <;> intro _)
  all_goals first
    | (subst_vars; rfl)
    | (exfalso; omega)
    | (rw [kidSorts_none (by omega) (by omega) (by omega), show hasName o = false by simp only [hasName, decide_eq_false_iff_not]; omega]; rfl)
@[go_sem] theorem callO85 (S : Store) (o : Int) : callO (callL Try.prog hints) S 85 [.int .i64 o] = some { v := .tup [.bool (hasName o), kidsV (kidSorts o)] } := callO_plain (call85 o) (by simp [Plain.int])
end Go.Vs
end
/- tree.formed: what it returns. -/
section
set_option linter.unusedVariables false
set_option linter.unusedSimpArgs false
namespace Go.Vs
open Go Go.Proofs
def noName (s : ByteArray) : Bool := s.toList == (⟨#[]⟩ : ByteArray).toList
/-- The sorts of a node's kids. -/
def sortsFor (o : Int) (m : Nat) : List Int := if o = 10 ∨ o = 37 then List.replicate m 1 else if o = 54 then List.replicate (m - 1) 4 ++ [2] else kidSorts o
/-- The last test: a quotient's, a power's second kid. -/
def tailOK (o : Int) (f : List Node) : Bool :=
  if o = 8 then decide ((f.getD 1 default).op = 1) && decide (0 < (f.getD 1 default).num.length)
  else if o = 9 then decide ((f.getD 1 default).op = 1) && (decide ((f.getD 1 default).num.length = 0) || (decide ((f.getD 1 default).num.length = 1) && decide ((f.getD 1 default).num.getD 0 0 ≤ 20)))
  else true
theorem tail64 (n : Node) (T : Store) (x3 x6 x208 x209 x210 x211 : PV) (h2 : n.op = 8 ∨ n.op = 9 → n.kids.length = 2) :
    ∃ S', F64.k40 0 .normal (F64.ee27 (.mp 0 0 0) x3 x6 x208 x209 x210 x211) (.arr [n.cells] none false :: T) = some (.bool (tailOK n.op n.kids), S') := by
  by_cases h8 : n.op = 8
  · have h1 : (n.kids.length : Int) = 2 := by have := h2 (.inl h8); omega
    refine ⟨.arr [n.cells] none false :: T, ?_⟩
    have key : tailOK n.op n.kids = (decide ((n.kids.getD 1 default).op = 1) && decide (0 < (n.kids.getD 1 default).num.length)) := by
      unfold tailOK; rw [if_pos h8]
    rw [key]
    simp only [go_sem, ↓reduceIte, Nat.reduceEqDiff, Nat.reduceBEq, Nat.reduceAdd, Nat.reduceMul, Nat.reduceSub, Nat.reduceLT, Nat.reduceLeDiff, reduceCtorEq, Int.reduceToNat, Int.reduceLE, Int.reduceLT, Int.reduceEq, h8, h1]
    generalize n.kids.getD 1 default = k
    by_cases e1 : k.op = 1 <;> by_cases e2 : 0 < k.num.length <;> simp [e1, e2]
  by_cases h9 : n.op = 9
  · have h1 : (n.kids.length : Int) = 2 := by have := h2 (.inr h9); omega
    refine ⟨.arr [n.cells] none false :: (T ++ [.arr [(n.kids.getD 1 default).cells] none false]), ?_⟩
    have key : tailOK n.op n.kids = (decide ((n.kids.getD 1 default).op = 1) && (decide ((n.kids.getD 1 default).num.length = 0) || (decide ((n.kids.getD 1 default).num.length = 1) && decide ((n.kids.getD 1 default).num.getD 0 0 ≤ 20)))) := by
      unfold tailOK; rw [if_neg h8, if_pos h9]
    rw [key]
    simp only [go_sem, ↓reduceIte, Nat.reduceEqDiff, Nat.reduceBEq, Nat.reduceAdd, Nat.reduceMul, Nat.reduceSub, Nat.reduceLT, Nat.reduceLeDiff, reduceCtorEq, Int.reduceToNat, Int.reduceLE, Int.reduceLT, Int.reduceEq, h9, h1]
    generalize n.kids.getD 1 default = k
    generalize k.num.getD 0 0 = w
    by_cases e1 : k.op = 1 <;> by_cases e2 : k.num.length = 0 <;> by_cases e3 : k.num.length = 1 <;> by_cases e5 : w ≤ 20 <;> simp [e1, e2, e3, e5] <;> omega
  · refine ⟨.arr [n.cells] none false :: T, ?_⟩
    have key : tailOK n.op n.kids = true := by unfold tailOK; rw [if_neg h8, if_neg h9]
    rw [key]
    simp only [go_sem, ↓reduceIte, Nat.reduceEqDiff, Nat.reduceBEq, Nat.reduceAdd, Nat.reduceMul, Nat.reduceSub, Nat.reduceLT, Nat.reduceLeDiff, reduceCtorEq, Int.reduceToNat, Int.reduceLE, Int.reduceLT, Int.reduceEq, h8, h9]
/-- Another variable than this equation's. -/
def otherVar (k o : Node) : Bool := !(decide (k.op = 55) && (o.name.toList == k.name.toList))
/-- A flow's kid at a place: an equation of another variable than those before, or further equations at the end. -/
def flowAt (f : List Node) (last i : Nat) : Bool :=
  (decide ((f.getD i default).op = 55) || (decide ((f.getD i default).op = 56) && decide (i = last - 1))) && (f.take i).all (otherVar (f.getD i default))
def flowFrom (f : List Node) (last : Nat) : Nat → Nat → Bool
  | 0, _ => true
  | m + 1, i => flowAt f last i && flowFrom f last m (i + 1)
def flowOK (f : List Node) : Bool := flowFrom f (f.length - 1) (f.length - 1) 0
/-- The number, the name. -/
def headOK (o : Int) (nm : ByteArray) (ng : Bool) (nu de : List Int) : Bool :=
  (if o = 1 then natOK ng nu de else (!ng && (decide (nu.length = 0) && decide (de.length = 0)))) &&
  !((hasName o && !nameOK nm) || (!hasName o && (!noName nm && (decide (o ≠ 10) && decide (o ≠ 37)))))
/-- What an operator asks besides. -/
def switchOK (o : Int) (nm : ByteArray) (f : List Node) (a b c : Bool) : Bool :=
  if o = 10 ∨ o = 37 then nameOK nm && decide (f.length ≤ 1)
  else if o = 54 then noName nm && (decide (2 ≤ f.length) && flowOK f)
  else if o = 3 then !(a || (b || c))
  else if o = 12 then !(a || c)
  else if o = 39 then !c && (decide (f.length = 1) && (f.getD 0 default).diff)
  else true
mutual
def Node.formed : Node → Bool → Bool → Bool → Bool
  | .mk o nm ng nu de f, a, b, c => headOK o nm ng nu de && (switchOK o nm f a b c && (decide (f.length = (sortsFor o f.length).length) && (Node.formeds f (sortsFor o f.length) (a || decide (o = 12)) (b || decide (o = 39)) (c || decide (o = 54)) && tailOK o f)))
def Node.formeds : List Node → List Int → Bool → Bool → Bool → Bool
  | [], _, _, _, _ => true
  | n :: r, s, a, b, c => decide (sortOf n.op = s.getD 0 0) && (n.formed a b c && Node.formeds r s.tail a b c)
end
theorem Node.formed_eq (n : Node) (a b c : Bool) : n.formed a b c = (headOK n.op n.name n.neg n.num n.den && (switchOK n.op n.name n.kids a b c && (decide (n.kids.length = (sortsFor n.op n.kids.length).length) && (Node.formeds n.kids (sortsFor n.op n.kids.length) (a || decide (n.op = 12)) (b || decide (n.op = 39)) (c || decide (n.op = 54)) && tailOK n.op n.kids)))) := by cases n; rfl
theorem formeds_drop {l : List Node} {i : Nat} (h : i < l.length) (s : List Int) (a b c : Bool) : Node.formeds (l.drop i) (s.drop i) a b c = (decide (sortOf (l.getD i default).op = s.getD i 0) && ((l.getD i default).formed a b c && Node.formeds (l.drop (i + 1)) (s.drop (i + 1)) a b c)) := by
  rw [kids_drop h]
  simp only [Node.formeds, List.tail_drop]
  have : (s.drop i).getD 0 0 = s.getD i 0 := by simp [List.getD_eq_getElem?_getD]
  rw [this]
theorem callFormed {k : Node} {a b c v : Bool} (S : Store) (h : callL Try.prog hints 64 [.agg k.cells, .agg (placeCells a b c)] = some (.bool v)) : callO (callL Try.prog hints) S 64 [.agg k.cells, .agg (placeCells a b c)] = some { v := .bool v } := callO_plain h (by simp [Node.plain, placeCells_plain])
theorem loop64 (n : Node) (hn : n.ok) (a b c : Bool) (s : List Int) (hs : s.length = n.kids.length) (e : Bool) (he : e = false ∨ s = []) (h2 : n.op = 8 ∨ n.op = 9 → n.kids.length = 2)
    (ih : ∀ k ∈ n.kids, callL Try.prog hints 64 [.agg k.cells, .agg (placeCells a b c)] = some (.bool (k.formed a b c))) (T : Store) (hT : heldBelow (T.length + 2) T.length T = true) :
    ∀ (m i : Nat), i + m = n.kids.length → ∃ S', F64.L7 0 (T.length + 2) (.mp 0 0 0) (.mp 1 0 0) (.sl (intRows s) e) (.sl (Node.rows n.kids) false) (.int .i64 n.kids.length) (.int .i64 i) (.arr [n.cells] none false :: .arr [placeCells a b c] none false :: T) =
      some (.bool (Node.formeds (n.kids.drop i) (s.drop i) a b c && tailOK n.op n.kids), S') := by
  have d0 : 0 < T.length + 2 := by omega
  have d1 : 1 < T.length + 2 := by omega
  have hz : ∀ S, fzPV S (.sl (intRows s) e) = some (.sl (intRows s) e) := fun S => by
    rcases he with rfl | rfl
    · simp only [go_sem]
    · cases e <;> simp only [go_sem]
  intro m
  induction m with
  | zero =>
    intro i hi
    have h1 : ¬ (i : Int) < (n.kids.length : Int) := by omega
    obtain ⟨S', hS'⟩ := tail64 n (.arr [placeCells a b c] none false :: T) .undef .undef .undef .undef .undef .undef h2
    refine ⟨S', F64.L7_step ?_⟩
    rw [List.drop_of_length_le (by omega)]
    simp only [go_sem, ↓reduceIte, Nat.reduceEqDiff, Nat.reduceBEq, Nat.reduceAdd, Nat.reduceMul, Nat.reduceSub, Nat.reduceLT, Nat.reduceLeDiff, reduceCtorEq, Int.reduceToNat, Int.reduceLE, Int.reduceLT, Int.reduceEq, h1, hT, d0, d1, take_len, ↓hS']
    rfl
  | succ m hm =>
    intro i hi
    have h1 : (i : Int) < (n.kids.length : Int) := by omega
    have h1' : (i : Int) < (s.length : Int) := by omega
    have h4 : (0 : Int) ≤ (i : Int) := by omega
    have h3 := wrap_succ (i := i) (n := n.kids.length) (by omega) hn.len
    have h5 := fun S => callFormed S (ih _ (kids_mem (l := n.kids) (i := i) (by omega)))
    rw [formeds_drop (by omega)]
    obtain ⟨S', h6⟩ := hm (i + 1) (by omega)
    by_cases c1 : sortOf (n.kids.getD i default).op = s.getD i 0
    · cases c2 : (n.kids.getD i default).formed a b c with
      | true =>
        rw [c2] at h5
        refine ⟨S', F64.L7_step ?_⟩
        simp only [go_sem, ↓reduceIte, Nat.reduceEqDiff, Nat.reduceBEq, Nat.reduceAdd, Nat.reduceMul, Nat.reduceSub, Nat.reduceLT, Nat.reduceLeDiff, reduceCtorEq, Int.reduceToNat, Int.reduceLE, Int.reduceLT, Int.reduceEq, h1, h1', h3, h4, h5, hz, c1, hT, d0, d1, heldBelow_take, take_app, h6]
      | false =>
        rw [c2] at h5
        refine ⟨.arr [n.cells] none false :: .arr [placeCells a b c] none false :: (T ++ [.arr [(n.kids.getD i default).cells] none false]), F64.L7_step ?_⟩
        simp only [go_sem, ↓reduceIte, Nat.reduceEqDiff, Nat.reduceBEq, Nat.reduceAdd, Nat.reduceMul, Nat.reduceSub, Nat.reduceLT, Nat.reduceLeDiff, reduceCtorEq, Int.reduceToNat, Int.reduceLE, Int.reduceLT, Int.reduceEq, h1, h1', h3, h4, h5, hz, c1]
    · refine ⟨.arr [n.cells] none false :: .arr [placeCells a b c] none false :: (T ++ [.arr [(n.kids.getD i default).cells] none false]), F64.L7_step ?_⟩
      simp only [go_sem, ↓reduceIte, Nat.reduceEqDiff, Nat.reduceBEq, Nat.reduceAdd, Nat.reduceMul, Nat.reduceSub, Nat.reduceLT, Nat.reduceLeDiff, reduceCtorEq, Int.reduceToNat, Int.reduceLE, Int.reduceLT, Int.reduceEq, h1, h1', h3, h4, h5, hz, c1]
/-- Behind the choice by operator. -/
theorem after64A (n : Node) (hn : n.ok) (a b c : Bool) (s : List Int) (h2 : n.kids.length = s.length → (n.op = 8 ∨ n.op = 9) → n.kids.length = 2)
    (ih : ∀ k ∈ n.kids, callL Try.prog hints 64 [.agg k.cells, .agg (placeCells a b c)] = some (.bool (k.formed a b c))) (T : Store) (hT : heldBelow (T.length + 2) T.length T = true) :
    ∃ S', ∀ (x88 x89 x90 x172 x182 : PV), F64.k93 0 .normal (F64.ee21 (.mp 0 0 0) (.mp 1 0 0) (kidsV s) x88 x89 x90 x172 x182) (.arr [n.cells] none false :: .arr [placeCells a b c] none false :: T) =
      some (.bool (decide (n.kids.length = s.length) && (Node.formeds n.kids s a b c && tailOK n.op n.kids)), S') := by
  by_cases hl : n.kids.length = s.length
  · have hl' : (n.kids.length : Int) = (s.length : Int) := by omega
    have hz : ∀ S, fzPV S (.sl (intRows s) s.isEmpty) = some (.sl (intRows s) s.isEmpty) := fun S => by
      cases s with
      | nil => rfl
      | cons x r => simp only [List.isEmpty_cons, go_sem]
    obtain ⟨S', h⟩ := loop64 n hn a b c s hl.symm s.isEmpty (by cases s <;> simp) (h2 hl) ih T hT n.kids.length 0 (by omega)
    simp only [Int.natCast_zero, List.drop_zero] at h
    refine ⟨S', ?_⟩
    rw [hl'] at h
    intro x88 x89 x90 x172 x182
    simp only [kidsV, go_sem, ↓reduceIte, Nat.reduceEqDiff, Nat.reduceBEq, Nat.reduceAdd, Nat.reduceMul, Nat.reduceSub, Nat.reduceLT, Nat.reduceLeDiff, reduceCtorEq, Int.reduceToNat, Int.reduceLE, Int.reduceLT, Int.reduceEq, hl', hz, hl, decide_true, Bool.true_and]
    exact h
  · have hl' : ¬ (n.kids.length : Int) = (s.length : Int) := by omega
    refine ⟨.arr [n.cells] none false :: .arr [placeCells a b c] none false :: T, ?_⟩
    intro x88 x89 x90 x172 x182
    simp only [kidsV, go_sem, ↓reduceIte, Nat.reduceEqDiff, Nat.reduceBEq, Nat.reduceAdd, Nat.reduceMul, Nat.reduceSub, Nat.reduceLT, Nat.reduceLeDiff, reduceCtorEq, Int.reduceToNat, Int.reduceLE, Int.reduceLT, Int.reduceEq, hl', hl, decide_false, Bool.false_and]
theorem after64B (n : Node) (hn : n.ok) (a b c : Bool) (s : List Int) (g : Option (Option Nat)) (h2 : n.kids.length = s.length → (n.op = 8 ∨ n.op = 9) → n.kids.length = 2)
    (ih : ∀ k ∈ n.kids, callL Try.prog hints 64 [.agg k.cells, .agg (placeCells a b c)] = some (.bool (k.formed a b c))) (U : Store) (hU : heldBelow (U.length + 3) U.length U = true) :
    ∃ S', ∀ (x88 x89 x90 x172 x182 : PV), F64.k93 0 .normal (F64.ee21 (.mp 0 0 0) (.mp 1 0 0) (.msl 2 0 s.length false) x88 x89 x90 x172 x182) (.arr [n.cells] none false :: .arr [placeCells a b c] none false :: .arr (intRows s) g false :: U) =
      some (.bool (decide (n.kids.length = s.length) && (Node.formeds n.kids s a b c && tailOK n.op n.kids)), S') := by
  by_cases hl : n.kids.length = s.length
  · have hl' : (n.kids.length : Int) = (s.length : Int) := by omega
    have hz := fz_ints (S := .arr [n.cells] none false :: .arr [placeCells a b c] none false :: .arr (intRows s) g false :: U) (id := 2) (l := s) (ex := false) rfl
    have hT : heldBelow ((Obj.arr (intRows s) g true :: U).length + 2) (Obj.arr (intRows s) g true :: U).length (.arr (intRows s) g true :: U) = true := by
      simp only [List.length_cons, go_sem]
      exact hU
    obtain ⟨S', h⟩ := loop64 n hn a b c s hl.symm false (.inl rfl) (h2 hl) ih (.arr (intRows s) g true :: U) hT n.kids.length 0 (by omega)
    simp only [Int.natCast_zero, List.drop_zero] at h
    refine ⟨S', ?_⟩
    rw [hl'] at h
    intro x88 x89 x90 x172 x182
    simp only [go_sem, ↓reduceIte, Nat.reduceEqDiff, Nat.reduceBEq, Nat.reduceAdd, Nat.reduceMul, Nat.reduceSub, Nat.reduceLT, Nat.reduceLeDiff, reduceCtorEq, Int.reduceToNat, Int.reduceLE, Int.reduceLT, Int.reduceEq, hl', hz, hl, decide_true, Bool.true_and]
    exact h
  · have hl' : ¬ (n.kids.length : Int) = (s.length : Int) := by omega
    refine ⟨.arr [n.cells] none false :: .arr [placeCells a b c] none false :: .arr (intRows s) g false :: U, ?_⟩
    intro x88 x89 x90 x172 x182
    simp only [go_sem, ↓reduceIte, Nat.reduceEqDiff, Nat.reduceBEq, Nat.reduceAdd, Nat.reduceMul, Nat.reduceSub, Nat.reduceLT, Nat.reduceLeDiff, reduceCtorEq, Int.reduceToNat, Int.reduceLE, Int.reduceLT, Int.reduceEq, hl', hl, decide_false, Bool.false_and]
/-- All that formed asks behind the number and the name. -/
def Node.rest (n : Node) (a b c : Bool) : Bool := switchOK n.op n.name n.kids a b c && (decide (n.kids.length = (sortsFor n.op n.kids.length).length) && (Node.formeds n.kids (sortsFor n.op n.kids.length) (a || decide (n.op = 12)) (b || decide (n.op = 39)) (c || decide (n.op = 54)) && tailOK n.op n.kids))
def Kids64 (n : Node) : Prop := ∀ k ∈ n.kids, ∀ a b c, callL Try.prog hints 64 [.agg k.cells, .agg (placeCells a b c)] = some (.bool (k.formed a b c))
/-- The operators without a case of their own. -/
theorem switch_else (n : Node) (hn : n.ok) (a b c : Bool) (ih : Kids64 n) (h : n.op ≠ 10 ∧ n.op ≠ 37 ∧ n.op ≠ 54 ∧ n.op ≠ 3 ∧ n.op ≠ 12 ∧ n.op ≠ 39) :
    ∃ S', F64.k108 0 .normal (F64.ee14 (.mp 0 0 0) (.mp 1 0 0) (kidsV (kidSorts n.op)) (.int .i64 n.op)) [.arr [n.cells] none false, .arr [placeCells a b c] none false] = some (.bool (n.rest a b c), S') := by
  obtain ⟨h1, h2, h3, h4, h5, h6⟩ := h
  have e1 : sortsFor n.op n.kids.length = kidSorts n.op := by simp [sortsFor, h1, h2, h3]
  have e2 : n.rest a b c = (decide (n.kids.length = (kidSorts n.op).length) && (Node.formeds n.kids (kidSorts n.op) a b c && tailOK n.op n.kids)) := by
    simp [Node.rest, switchOK, e1, h1, h2, h3, h4, h5, h6]
  obtain ⟨S', h7⟩ := after64A n hn a b c (kidSorts n.op) (fun hl ho => by rw [hl]; rcases ho with ho | ho <;> rw [ho] <;> rfl) (fun k hk => ih k hk a b c) [] rfl
  refine ⟨S', ?_⟩
  rw [e2]
  simp only [go_sem, ↓reduceIte, Nat.reduceEqDiff, Nat.reduceBEq, Nat.reduceAdd, Nat.reduceMul, Nat.reduceSub, Nat.reduceLT, Nat.reduceLeDiff, reduceCtorEq, Int.reduceToNat, Int.reduceLE, Int.reduceLT, Int.reduceEq, h1, h2, h3, h4, h5, h6, ↓h7]
theorem switch_prime (n : Node) (hn : n.ok) (a b c : Bool) (ih : Kids64 n) (h : n.op = 3) :
    ∃ S', F64.k108 0 .normal (F64.ee14 (.mp 0 0 0) (.mp 1 0 0) (kidsV (kidSorts n.op)) (.int .i64 n.op)) [.arr [n.cells] none false, .arr [placeCells a b c] none false] = some (.bool (n.rest a b c), S') := by
  have e2 : n.rest a b c = (!(a || (b || c)) && (decide (n.kids.length = (kidSorts n.op).length) && (Node.formeds n.kids (kidSorts n.op) a b c && tailOK n.op n.kids))) := by
    simp [Node.rest, switchOK, sortsFor, h]
  obtain ⟨S', h7⟩ := after64A n hn a b c (kidSorts n.op) (fun hl ho => by rw [h] at ho; omega) (fun k hk => ih k hk a b c) [] rfl
  rw [h] at h7 e2 ⊢
  rw [e2]
  cases a
  · cases b
    · cases c
      · exact ⟨S', by simp only [go_sem, ↓reduceIte, Nat.reduceEqDiff, Nat.reduceBEq, Nat.reduceAdd, Nat.reduceMul, Nat.reduceSub, Nat.reduceLT, Nat.reduceLeDiff, reduceCtorEq, Int.reduceToNat, Int.reduceLE, Int.reduceLT, Int.reduceEq, ↓h7] <;> rfl⟩
      · exact ⟨[.arr [n.cells] none false, .arr [placeCells false false true] none false], by simp only [go_sem, ↓reduceIte, Nat.reduceEqDiff, Nat.reduceBEq, Nat.reduceAdd, Nat.reduceMul, Nat.reduceSub, Nat.reduceLT, Nat.reduceLeDiff, reduceCtorEq, Int.reduceToNat, Int.reduceLE, Int.reduceLT, Int.reduceEq, placeCells] <;> rfl⟩
    · exact ⟨[.arr [n.cells] none false, .arr [placeCells false true c] none false], by simp only [go_sem, ↓reduceIte, Nat.reduceEqDiff, Nat.reduceBEq, Nat.reduceAdd, Nat.reduceMul, Nat.reduceSub, Nat.reduceLT, Nat.reduceLeDiff, reduceCtorEq, Int.reduceToNat, Int.reduceLE, Int.reduceLT, Int.reduceEq, placeCells] <;> rfl⟩
  · exact ⟨[.arr [n.cells] none false, .arr [placeCells true b c] none false], by simp only [go_sem, ↓reduceIte, Nat.reduceEqDiff, Nat.reduceBEq, Nat.reduceAdd, Nat.reduceMul, Nat.reduceSub, Nat.reduceLT, Nat.reduceLeDiff, reduceCtorEq, Int.reduceToNat, Int.reduceLE, Int.reduceLT, Int.reduceEq] <;> rfl⟩
theorem switch_diff (n : Node) (hn : n.ok) (a b c : Bool) (ih : Kids64 n) (h : n.op = 12) :
    ∃ S', F64.k108 0 .normal (F64.ee14 (.mp 0 0 0) (.mp 1 0 0) (kidsV (kidSorts n.op)) (.int .i64 n.op)) [.arr [n.cells] none false, .arr [placeCells a b c] none false] = some (.bool (n.rest a b c), S') := by
  have e2 : n.rest a b c = (!(a || c) && (decide (n.kids.length = (kidSorts n.op).length) && (Node.formeds n.kids (kidSorts n.op) true b c && tailOK n.op n.kids))) := by
    simp [Node.rest, switchOK, sortsFor, h]
  obtain ⟨S', h7⟩ := after64A n hn true b c (kidSorts n.op) (fun hl ho => by rw [h] at ho; omega) (fun k hk => ih k hk true b c) [] rfl
  rw [h] at h7 e2 ⊢
  rw [e2]
  cases a
  · cases c
    · exact ⟨S', by simp only [go_sem, ↓reduceIte, Nat.reduceEqDiff, Nat.reduceBEq, Nat.reduceAdd, Nat.reduceMul, Nat.reduceSub, Nat.reduceLT, Nat.reduceLeDiff, reduceCtorEq, Int.reduceToNat, Int.reduceLE, Int.reduceLT, Int.reduceEq, ↓h7] <;> rfl⟩
    · exact ⟨[.arr [n.cells] none false, .arr [placeCells false b true] none false], by simp only [go_sem, ↓reduceIte, Nat.reduceEqDiff, Nat.reduceBEq, Nat.reduceAdd, Nat.reduceMul, Nat.reduceSub, Nat.reduceLT, Nat.reduceLeDiff, reduceCtorEq, Int.reduceToNat, Int.reduceLE, Int.reduceLT, Int.reduceEq, placeCells] <;> rfl⟩
  · exact ⟨[.arr [n.cells] none false, .arr [placeCells true b c] none false], by simp only [go_sem, ↓reduceIte, Nat.reduceEqDiff, Nat.reduceBEq, Nat.reduceAdd, Nat.reduceMul, Nat.reduceSub, Nat.reduceLT, Nat.reduceLeDiff, reduceCtorEq, Int.reduceToNat, Int.reduceLE, Int.reduceLT, Int.reduceEq] <;> rfl⟩
theorem switch_fdiff (n : Node) (hn : n.ok) (a b c : Bool) (ih : Kids64 n) (h : n.op = 39) :
    ∃ S', F64.k108 0 .normal (F64.ee14 (.mp 0 0 0) (.mp 1 0 0) (kidsV (kidSorts n.op)) (.int .i64 n.op)) [.arr [n.cells] none false, .arr [placeCells a b c] none false] = some (.bool (n.rest a b c), S') := by
  have e2 : n.rest a b c = (!c && (decide (n.kids.length = 1) && (n.kids.getD 0 default).diff) && (decide (n.kids.length = (kidSorts n.op).length) && (Node.formeds n.kids (kidSorts n.op) a true c && tailOK n.op n.kids))) := by
    simp [Node.rest, switchOK, sortsFor, h]
  obtain ⟨S', h7⟩ := after64A n hn a true c (kidSorts n.op) (fun hl ho => by rw [h] at ho; omega) (fun k hk => ih k hk a true c) [] rfl
  rw [h] at h7 e2 ⊢
  rw [e2]
  cases c
  · by_cases hl : n.kids.length = 1
    · have hl' : (n.kids.length : Int) = 1 := by omega
      have h5 := fun S => callO86 S _ (hn.kids _ (kids_mem (l := n.kids) (i := 0) (by omega)))
      cases hd : (n.kids.getD 0 default).diff
      · rw [hd] at h5
        exact ⟨[.arr [n.cells] none false, .arr [placeCells a b false] none false], by simp only [go_sem, ↓reduceIte, Nat.reduceEqDiff, Nat.reduceBEq, Nat.reduceAdd, Nat.reduceMul, Nat.reduceSub, Nat.reduceLT, Nat.reduceLeDiff, reduceCtorEq, Int.reduceToNat, Int.reduceLE, Int.reduceLT, Int.reduceEq, hl', h5] <;> simp [hl]⟩
      · rw [hd] at h5
        refine ⟨S', ?_⟩
        simp only [go_sem, ↓reduceIte, Nat.reduceEqDiff, Nat.reduceBEq, Nat.reduceAdd, Nat.reduceMul, Nat.reduceSub, Nat.reduceLT, Nat.reduceLeDiff, reduceCtorEq, Int.reduceToNat, Int.reduceLE, Int.reduceLT, Int.reduceEq, hl', h5, ↓h7]
        simp [hl]
    · have hl' : ¬ (n.kids.length : Int) = 1 := by omega
      exact ⟨[.arr [n.cells] none false, .arr [placeCells a b false] none false], by simp only [go_sem, ↓reduceIte, Nat.reduceEqDiff, Nat.reduceBEq, Nat.reduceAdd, Nat.reduceMul, Nat.reduceSub, Nat.reduceLT, Nat.reduceLeDiff, reduceCtorEq, Int.reduceToNat, Int.reduceLE, Int.reduceLT, Int.reduceEq, hl'] <;> simp [hl]⟩
  · exact ⟨[.arr [n.cells] none false, .arr [placeCells a b true] none false], by simp only [go_sem, ↓reduceIte, Nat.reduceEqDiff, Nat.reduceBEq, Nat.reduceAdd, Nat.reduceMul, Nat.reduceSub, Nat.reduceLT, Nat.reduceLeDiff, reduceCtorEq, Int.reduceToNat, Int.reduceLE, Int.reduceLT, Int.reduceEq, placeCells] <;> rfl⟩
theorem switch_fun (n : Node) (hn : n.ok) (a b c : Bool) (ih : Kids64 n) (h : n.op = 10 ∨ n.op = 37) :
    ∃ S', F64.k108 0 .normal (F64.ee14 (.mp 0 0 0) (.mp 1 0 0) (kidsV (kidSorts n.op)) (.int .i64 n.op)) [.arr [n.cells] none false, .arr [placeCells a b c] none false] = some (.bool (n.rest a b c), S') := by
  have e0 : kidSorts n.op = [] := by rcases h with h | h <;> rw [h] <;> rfl
  have e3 : decide (n.op = 12) = false ∧ decide (n.op = 39) = false ∧ decide (n.op = 54) = false := by rcases h with h | h <;> simp [h]
  have e2 : n.rest a b c = (nameOK n.name && decide (n.kids.length ≤ 1) && (decide (n.kids.length = (List.replicate n.kids.length (1 : Int)).length) && (Node.formeds n.kids (List.replicate n.kids.length 1) a b c && tailOK n.op n.kids))) := by
    have : sortsFor n.op n.kids.length = List.replicate n.kids.length 1 := by simp [sortsFor, h]
    simp only [Node.rest, switchOK, if_pos h, this, e3.1, e3.2.1, e3.2.2, Bool.or_false]
  rw [e2, e0]
  have ho : n.op = 8 ∨ n.op = 9 → n.kids.length = 2 := fun ho => by omega
  cases hnm : nameOK n.name
  · refine ⟨[.arr [n.cells] none false, .arr [placeCells a b c] none false], ?_⟩
    rcases h with h | h <;> (simp only [go_sem, ↓reduceIte, Nat.reduceEqDiff, Nat.reduceBEq, Nat.reduceAdd, Nat.reduceMul, Nat.reduceSub, Nat.reduceLT, Nat.reduceLeDiff, reduceCtorEq, Int.reduceToNat, Int.reduceLE, Int.reduceLT, Int.reduceEq, h, hnm] <;> rfl)
  by_cases hl : n.kids.length ≤ 1
  case neg =>
    have hl' : 1 < (n.kids.length : Int) := by omega
    refine ⟨[.arr [n.cells] none false, .arr [placeCells a b c] none false], ?_⟩
    rcases h with h | h <;> (simp only [go_sem, ↓reduceIte, Nat.reduceEqDiff, Nat.reduceBEq, Nat.reduceAdd, Nat.reduceMul, Nat.reduceSub, Nat.reduceLT, Nat.reduceLeDiff, reduceCtorEq, Int.reduceToNat, Int.reduceLE, Int.reduceLT, Int.reduceEq, h, hnm, hl', hl, decide_false, Bool.and_false, Bool.false_and])
  by_cases h0 : n.kids.length = 0
  · obtain ⟨S', h7⟩ := after64B n hn a b c [] (some none) (fun _ => ho) (fun k hk => ih k hk a b c) [] rfl
    have h0' : (n.kids.length : Int) = 0 := by omega
    have hL : F64.L1 0 3 (.mp 0 0 0) (.mp 1 0 0) (.msl 2 0 0 false) (.int .i64 0) (.int .i64 0) [.arr [n.cells] none false, .arr [placeCells a b c] none false, .arr [] (some none) false] = some (.bool (decide (n.kids.length = 0) && (Node.formeds n.kids [] a b c && tailOK n.op n.kids)), S') := by
      refine F64.L1_step ?_
      simp only [intRows, List.map_nil, List.length_nil] at h7
      simp only [go_sem, ↓reduceIte, Nat.reduceEqDiff, Nat.reduceBEq, Nat.reduceAdd, Nat.reduceMul, Nat.reduceSub, Nat.reduceLT, Nat.reduceLeDiff, reduceCtorEq, Int.reduceToNat, Int.reduceLE, Int.reduceLT, Int.reduceEq, ↓h7]
    refine ⟨S', ?_⟩
    rw [h0] at hL ⊢
    rcases h with h | h <;> (simp only [kidsV, List.isEmpty_nil, go_sem, ↓reduceIte, Nat.reduceEqDiff, Nat.reduceBEq, Nat.reduceAdd, Nat.reduceMul, Nat.reduceSub, Nat.reduceLT, Nat.reduceLeDiff, reduceCtorEq, Int.reduceToNat, Int.reduceLE, Int.reduceLT, Int.reduceEq, h, hnm, h0', hL]; rfl)
  · have h1 : n.kids.length = 1 := by omega
    have h1' : (n.kids.length : Int) = 1 := by omega
    obtain ⟨S', h7⟩ := after64B n hn a b c [1] (some (some 1)) (fun _ => ho) (fun k hk => ih k hk a b c) [] rfl
    have happ := append_known (b := 0) (bytes := 8) (esz := 1) (S := [.arr [n.cells] none false, .arr [placeCells a b c] none false, .arr [] (some none) false, .arr [[.int .i64 1]] (some (some 1)) false]) (id := 2) (len := 0) (rows := []) (new := [[.int .i64 1]]) (g := none) (ex := false) (y := .msl 3 0 1 true) rfl rfl (by decide) rfl (.inl rfl) rfl rfl (by decide) (by decide) rfl
    have hL2 : F64.L1 0 3 (.mp 0 0 0) (.mp 1 0 0) (.msl 2 0 1 false) (.int .i64 1) (.int .i64 1) [.arr [n.cells] none false, .arr [placeCells a b c] none false, .arr [[.int .i64 1]] (some (some 1)) false] = some (.bool (decide (n.kids.length = 1) && (Node.formeds n.kids [1] a b c && tailOK n.op n.kids)), S') := by
      refine F64.L1_step ?_
      simp only [intRows, List.map_cons, List.map_nil, List.length_cons, List.length_nil, Nat.zero_add] at h7
      simp only [go_sem, ↓reduceIte, Nat.reduceEqDiff, Nat.reduceBEq, Nat.reduceAdd, Nat.reduceMul, Nat.reduceSub, Nat.reduceLT, Nat.reduceLeDiff, reduceCtorEq, Int.reduceToNat, Int.reduceLE, Int.reduceLT, Int.reduceEq, ↓h7]
    have hw : IntKind.i64.wrap (0 + 1) = 1 := by rfl
    have hL : F64.L1 0 3 (.mp 0 0 0) (.mp 1 0 0) (.msl 2 0 0 false) (.int .i64 1) (.int .i64 0) [.arr [n.cells] none false, .arr [placeCells a b c] none false, .arr [] (some none) false] = some (.bool (decide (n.kids.length = 1) && (Node.formeds n.kids [1] a b c && tailOK n.op n.kids)), S') := by
      refine F64.L1_step ?_
      simp only [go_sem, ↓reduceIte, Nat.reduceEqDiff, Nat.reduceBEq, Nat.reduceAdd, Nat.reduceMul, Nat.reduceSub, Nat.reduceLT, Nat.reduceLeDiff, reduceCtorEq, Int.reduceToNat, Int.reduceLE, Int.reduceLT, Int.reduceEq, happ, hw, hL2]
    refine ⟨S', ?_⟩
    rw [h1] at hL ⊢
    rcases h with h | h <;> (simp only [kidsV, List.isEmpty_nil, go_sem, ↓reduceIte, Nat.reduceEqDiff, Nat.reduceBEq, Nat.reduceAdd, Nat.reduceMul, Nat.reduceSub, Nat.reduceLT, Nat.reduceLeDiff, reduceCtorEq, Int.reduceToNat, Int.reduceLE, Int.reduceLT, Int.reduceEq, h, hnm, h1', hL]; rfl)
end Go.Vs
end

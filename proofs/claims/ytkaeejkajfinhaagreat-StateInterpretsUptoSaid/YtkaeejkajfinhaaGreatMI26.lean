
import Derived.Test.YtkaeejkajfinhaaGreatMI25
section
set_option linter.unusedVariables false
set_option linter.unusedSimpArgs false
set_option maxRecDepth 100000
namespace Go.Vs
open Go Go.Proofs
theorem part_fnN (v : PV) (r : List PV) : part (tyi Tryz.prog 114) (v :: r) = some v := by
  have e : (tyi Tryz.prog 114).isAgg = false := by kernel_rfl
  have k : (tyi Tryz.prog 114).known = true := by kernel_rfl
  simp [part, k, e]
theorem oc_zero : (ofConst (.agg #[.int .i64 0, .string ⟨#[]⟩, .bool false, .slice none 0 0, .slice none 0 0, .slice none 0 0])).cells = [.int .i64 0, .str ⟨#[]⟩, .bool false, .sl [] true, .sl [] true, .sl [] true] := by rfl
def Walks (n : Node) : Prop := ∀ (L : List Node) (S : Store), OS S L → (∀ m ∈ L, m.ok) → L.length + n.count ≤ 100000 → ∃ S' L', callRL Tryz.prog hints 81 [.agg n.cells, .mp 1 0 0, .mp 2 0 0] S = some (.tup [], S') ∧ OS S' L' ∧ S.length ≤ S'.length ∧ L'.length ≤ L.length + n.count ∧ (∀ m ∈ L', m.ok) ∧ ∀ x, x ∈ L' ↔ x ∈ L ∨ x ∈ n.syms
theorem counts_drop {l : List Node} {i : Nat} (h : i < l.length) : Node.counts (l.drop i) = (l.getD i nd0).count + Node.counts (l.drop (i + 1)) := by
  rw [kids_drop h]; rfl
theorem symss_drop {l : List Node} {i : Nat} (h : i < l.length) : Node.symss (l.drop i) = (l.getD i nd0).syms ++ Node.symss (l.drop (i + 1)) := by
  rw [kids_drop h]; rfl
section
attribute [local irreducible] Vs.callL Vs.callRL tyi callO callM callMV appendE storeE evLoad indexAddrO sliceO evFieldAddr evField buildO buildSliceO makeSliceO allocO boxed lenO copyE convertO indexO Vs.gc freezeAll
noncomputable def fx81_ : FX := ⟨Tryz.f81, hints.of 81, [5]⟩
theorem ok81_ : fx81_.ok 81 := ⟨by kernel_rfl, of_decide_eq_true (by kernel_rfl), by kernel_rfl, by kernel_rfl, by kernel_rfl, by kernel_rfl⟩
theorem sem81_ (b0 : Nat) (m : Md) (fs : List Fr) (e : Env) (S : Store) : sem b0 fx81_ m fs e S = run b0 fx81_ 1000 m fs e S := (sem_eq _ _ _ _ _ _).trans (run_sem b0 fx81_ ok81_.good 1000 m fs e S).symm
theorem loop_walk (n : Node) (hn : n.ok) (ih : ∀ k ∈ n.kids, Walks k) (b k : Nat) (hk : 3 ≤ k) : ∀ (m i : Nat), i + m = n.kids.length → ∀ (L : List Node) (S : Store), OS S L → k ≤ S.length → (∀ m ∈ L, m.ok) → L.length + Node.counts (n.kids.drop i) ≤ 100000 →
    ∃ S' L', loopAt b fx81_ 0 60 k [.blk 0] [(2, .mp 2 0 0), (51, .sl (Node.rows n.kids) false), (52, .int .i64 n.kids.length), (53, .int .i64 i)] S = some (.tup [], S') ∧ OS S' L' ∧ k ≤ S'.length ∧ L'.length ≤ L.length + Node.counts (n.kids.drop i) ∧ (∀ m ∈ L', m.ok) ∧ ∀ x, x ∈ L' ↔ x ∈ L ∨ x ∈ Node.symss (n.kids.drop i) := by
  intro m
  induction m with
  | zero =>
    intro i hi L S hS hkl hL hc
    have h1 : ¬ (i : Int) < (n.kids.length : Int) := by omega
    obtain ⟨Sg, hG⟩ : ∃ Sg, Vs.gc k [(2, .undef), (51, .undef), (52, .undef), (53, .undef), (54, .undef)] S = Sg := ⟨_, rfl⟩
    have og : OS Sg L := hG ▸ hS.gc hk hkl _
    have kg : k ≤ Sg.length := hG ▸ (gc_at hkl).1
    rw [List.drop_of_length_le (l := n.kids) (by omega)] at hc ⊢
    refine ⟨Sg, L, ?_, og, kg, by omega, hL, by simp [Node.symss]⟩
    refine loopAt_step ok81_.good 1000 ?_
    ((repeat ((conv => lhs; whnf); simp only [go_sem, ↓reduceIte, Nat.reduceEqDiff, Nat.reduceBEq, Nat.reduceAdd, Nat.reduceMul, Nat.reduceSub, Nat.reduceLT, Nat.reduceLeDiff, reduceCtorEq, Int.reduceToNat, Int.reduceLE, Int.reduceLT, Int.reduceEq, sem81_, h1, hG])); try (conv => lhs; whnf); try rfl)
    refine exit_run ok81_.good 1000 ?_
    ((repeat ((conv => lhs; whnf); simp only [go_sem, ↓reduceIte, Nat.reduceEqDiff, Nat.reduceBEq, Nat.reduceAdd, Nat.reduceMul, Nat.reduceSub, Nat.reduceLT, Nat.reduceLeDiff, reduceCtorEq, Int.reduceToNat, Int.reduceLE, Int.reduceLT, Int.reduceEq, sem81_])); try (conv => lhs; whnf); try rfl)
  | succ m hm =>
    intro i hi L S hS hkl hL hc
    have h1 : (i : Int) < (n.kids.length : Int) := by omega
    have h2 := wrap_succ (i := i) (n := n.kids.length) (by omega) hn.len
    have h4 : 0 ≤ (i : Int) ∧ (i : Int) < (n.kids.length : Int) := ⟨by omega, h1⟩
    rw [counts_drop (by omega)] at hc ⊢
    rw [symss_drop (by omega)]
    have hf : Flat [Obj.arr [(n.kids.getD i nd0).cells] none false] := .cons (node_flat _) .nil
    have o1 := hS.ext hf
    obtain ⟨S1, L1, e1, e2, e3, e4, e5, e6⟩ := ih _ (kids_mem (l := n.kids) (i := i) (by omega)) L _ o1 hL (by omega)
    have hl1 : (S ++ [Obj.arr [(n.kids.getD i nd0).cells] none false]).length = S.length + 1 := by simp
    have hcall := callM_eq (by kernel_rfl) e1 e3 o1.closed (by simp [belowL, refsL_cons, refsL_nil, refs_agg, Node.refs, refs_mp, hl1]; omega)
    have hmv : callMV Tryz.prog hints (S ++ [Obj.arr [(n.kids.getD i nd0).cells] none false]) (.fn 81 [] [.mp 1 0 0, .mp 2 0 0]) [.agg (n.kids.getD i nd0).cells] = some { v := .tup [], S := S1 } := by
      rw [callMV_fn]; exact hcall
    have hw := rowsAt_of o1.walk
    obtain ⟨Sg, hG⟩ : ∃ Sg, Vs.gc k [(2, .mp 2 0 0), (51, .sl (Node.rows n.kids) false), (52, .int .i64 n.kids.length), (53, .int .i64 ((i + 1 : Nat) : Int))] S1 = Sg := ⟨_, rfl⟩
    have og : OS Sg L1 := hG ▸ e2.gc hk (by omega) _
    have kg : k ≤ Sg.length := hG ▸ (gc_at (by omega)).1
    obtain ⟨S', L', k1, k2, k3, k4, k5, k6⟩ := hm (i + 1) (by omega) L1 Sg og kg e5 (by omega)
    refine ⟨S', L', ?_, k2, k3, by omega, k5, fun x => ?_⟩
    · refine loopAt_step ok81_.good 1000 ?_
      ((repeat ((conv => lhs; whnf); simp only [go_sem, ↓reduceIte, Nat.reduceEqDiff, Nat.reduceBEq, Nat.reduceAdd, Nat.reduceMul, Nat.reduceSub, Nat.reduceLT, Nat.reduceLeDiff, reduceCtorEq, Int.reduceToNat, Int.reduceLE, Int.reduceLT, Int.reduceEq, sem81_, h1, h2, h4, hG, app_node, app_tail, hw, part_fnN, hmv, alloc_Nd])); try (conv => lhs; whnf); try rfl)
      exact k1
    · rw [k6, e6, List.mem_append]
      constructor
      · rintro ((h | h) | h)
        · exact .inl h
        · exact .inr (.inl h)
        · exact .inr (.inr h)
      · rintro (h | h | h)
        · exact .inl (.inl h)
        · exact .inl (.inr h)
        · exact .inr h
theorem call_walk : ∀ n : Node, n.ok → Walks n := by
  refine Node.ind' fun n ih0 hn => ?_
  have ih : ∀ k ∈ n.kids, Walks k := fun k hk => ih0 k hk (hn.kids k hk)
  intro L S hS hL hc
  have hck := count_kids n
  have N3 := hS.len
  have flat2 : Flat [Obj.arr [n.cells] none false, .arr [n.sym.cells] none false] := .cons (node_flat n) (.cons (node_flat _) .nil)
  have hl2 : (S ++ [Obj.arr [n.cells] none false, .arr [n.sym.cells] none false]).length = S.length + 2 := by simp
  cases e : isSym n.op
  · obtain ⟨S', L', k1, k2, k3, k4, k5, k6⟩ := loop_walk n hn ih S.length (S.length + 2) (by omega) n.kids.length 0 (by omega) L _ (hS.ext flat2) (by omega) hL (by rw [List.drop_zero]; omega)
    rw [List.drop_zero] at k4 k6
    refine ⟨S', L', ?_, k2, by omega, by omega, k5, fun x => by rw [k6, Node.syms_eq, e]; simp⟩
    refine FX.callRL ok81_ 1000 rfl rfl ?_
    ((repeat ((conv => lhs; whnf); simp only [go_sem, ↓reduceIte, Nat.reduceEqDiff, Nat.reduceBEq, Nat.reduceAdd, Nat.reduceMul, Nat.reduceSub, Nat.reduceLT, Nat.reduceLeDiff, reduceCtorEq, Int.reduceToNat, Int.reduceLE, Int.reduceLT, Int.reduceEq, sem81_, symbol_o, app_node, app_node1, app_tail, app_tail1, List.append_assoc, List.length_append, alloc_Nd, e])); try (conv => lhs; whnf); try rfl)
    exact k1
  · obtain ⟨v, hv, ho⟩ := hS.out
    have v1 := rowsAt_of (app_at hv [Obj.arr [n.cells] none false, .arr [n.sym.cells] none false])
    have aS : rowsAt (S ++ [Obj.arr [n.cells] none false, .arr [n.sym.cells] none false]) (S.length + 1) = some [n.sym.cells] := app_tail1 S _ _
    have hlen : lenO (tyi Tryz.prog 28) v = some (.int .i64 (L.length : Int)) := by
      cases ho with
      | nil => exact len_nds _ _
      | arr id L h3 hh => exact lenm_nds _ _ _ _
    have asks : AsksG (S ++ [Obj.arr [n.cells] none false, .arr [n.sym.cells] none false]) (.fn 83 [] [.mp 1 0 0, .mp (S.length + 1) 0 0]) L.length (fun i => decide (0 ≤ (L.getD i nd0).cmp n.sym)) := by
      intro i hi
      cases ho with
      | nil => simp at hi
      | arr id L h3 hh =>
        have hp := call_pred v1 (rowsAt_of (app_at hh _)) aS hL (sym_ok hn) i hi
        have := callM_eq (by kernel_rfl) hp (Nat.le_refl _) (closed_app hS.closed flat2) (by simp [belowL, refsL_cons, refsL_nil, refs_int, refs_mp, hl2]; try omega)
        rw [callMV_fn]; exact this
    obtain ⟨r, hr, hse⟩ := call_SearchG asks (by omega)
    have hsm := callM_eq (by kernel_rfl) hse (Nat.le_refl _) (closed_app hS.closed flat2) (by simp [belowL, refsL_cons, refsL_nil, refs_int, refs_mp, PV.refs, hl2]; try omega)
    by_cases hin : r < L.length ∧ (L.getD r nd0).cmp n.sym = 0
    · obtain ⟨hrl, heq⟩ := hin
      have hmem : n.sym ∈ L := by
        rw [← (cmp_eq _ _).1 heq]; exact kids_mem hrl
      obtain ⟨S', L', k1, k2, k3, k4, k5, k6⟩ := loop_walk n hn ih S.length (S.length + 2) (by omega) n.kids.length 0 (by omega) L _ (hS.ext flat2) (by omega) hL (by rw [List.drop_zero]; omega)
      rw [List.drop_zero] at k4 k6
      refine ⟨S', L', ?_, k2, by omega, by omega, k5, fun x => ?_⟩
      · cases ho with
        | nil => simp at hrl
        | arr id L h3 hh =>
          have h2 := rowsAt_of (app_at hh [Obj.arr [n.cells] none false, .arr [n.sym.cells] none false])
          have ix := sl_nds.idxm (S := S ++ [Obj.arr [n.cells] none false, .arr [n.sym.cells] none false]) (id := id) (off := 0) (n := L.length) (ex := false) (rows := Node.rows L) r h2 (by rw [Node.rows_length]; omega) (Node.rows_ok L) hrl
          rw [Nat.zero_add] at ix
          have gd := rows_getD L hrl
          have hE := fun S => tEqual_o S _ _ (hL _ (kids_mem hrl)) (sym_ok hn)
          have ne : ¬ (r : Int) = (L.length : Int) := by omega
          refine FX.callRL ok81_ 1000 rfl rfl ?_
          ((repeat ((conv => lhs; whnf); simp only [go_sem, ↓reduceIte, Nat.reduceEqDiff, Nat.reduceBEq, Nat.reduceAdd, Nat.reduceMul, Nat.reduceSub, Nat.reduceLT, Nat.reduceLeDiff, reduceCtorEq, Int.reduceToNat, Int.reduceLE, Int.reduceLT, Int.reduceEq, sem81_, symbol_o, app_node, app_node1, app_tail, app_tail1, List.append_assoc, List.length_append, alloc_Nd, e, v1, hlen, hsm, ne, ix, h2, gd, hrl, aS, hE, heq])); try (conv => lhs; whnf); try rfl)
          exact k1
      · rw [k6, Node.syms_eq, e, if_pos rfl]
        constructor
        · rintro (h | h)
          · exact .inl h
          · exact .inr (List.mem_append_right _ h)
        · rintro (h | h)
          · exact .inl h
          · rcases List.mem_append.1 h with h | h
            · rw [List.mem_singleton] at h
              rw [h]; exact .inl hmem
            · exact .inr h
    · obtain ⟨S4, ks, hA, hks, h4⟩ := app_sym hS (by omega) n n.sym hv ho
      obtain ⟨S5, S6, S7, S8, p1, p2, p3, p4, p5, p6, p7, p8, p9, p10, p11, p12, p13, p14⟩ := ops_sym h4 r hr
      have w1 : IntKind.i64.wrap ((r : Int) + 1) = ((r + 1 : Nat) : Int) := by rw [IntKind.wrap_i64]; omega
      have oks : ∀ m ∈ L.take r ++ n.sym :: L.drop r, m.ok := fun m hm => by
        rcases List.mem_append.1 hm with h | h
        · exact hL m (List.mem_of_mem_take h)
        · rcases List.mem_cons.1 h with rfl | h
          · exact sym_ok hn
          · exact hL m (List.mem_of_mem_drop h)
      have len1 : (L.take r ++ n.sym :: L.drop r).length = L.length + 1 := by rw [List.length_append, List.length_cons, List.length_take, List.length_drop]; omega
      obtain ⟨S', L', k1, k2, k3, k4, k5, k6⟩ := loop_walk n hn ih S.length S8.length (by omega) n.kids.length 0 (by omega) _ S8 p14 (Nat.le_refl _) oks (by rw [List.drop_zero, len1]; omega)
      rw [List.drop_zero, len1] at k4
      rw [List.drop_zero] at k6
      refine ⟨S', L', ?_, k2, by omega, by omega, k5, fun x => ?_⟩
      · rw [hks] at hA
        unfold zc at hA p2
        cases ho with
        | nil =>
          have hr0 : r = 0 := by simpa using hr
          subst hr0
          simp only [PV.refs, refs_sl] at hA
          simp only [List.length_nil, Int.natCast_zero] at hlen hsm hA p1 p2 p3 p4 p5 p6 p7 p8 p10
          have w1' : IntKind.i64.wrap (0 + 1) = ((0 + 1 : Nat) : Int) := by rfl
          have hd : dynB S.length fx81_ 876 [(1, .mp 1 0 0), (2, .mp 2 0 0), (3, .mp S.length 0 0), (4, .mp (S.length + 1) 0 0), (6, .int .i64 0), (14, .undef), (31, .bool true)] (S ++ [Obj.arr [n.cells] none false, .arr [n.sym.cells] none false]) = true := by
            refine dyn_true (by kernel_rfl) [(1, 0), (0, 0), (1, 0), (2, 0), (1, 0), (1, S.length + 3 + 1), (3, S.length + 3 + 1), (3, 1 + 1)] ?_ (by kernel_rfl)
            ((repeat ((conv => lhs; whnf); simp only [go_sem, ↓reduceIte, Nat.reduceEqDiff, Nat.reduceBEq, Nat.reduceAdd, Nat.reduceMul, Nat.reduceSub, Nat.reduceLT, Nat.reduceLeDiff, reduceCtorEq, Int.reduceToNat, Int.reduceLE, Int.reduceLT, Int.reduceEq, sem81_, symbol_o, app_node, app_node1, app_tail, app_tail1, List.append_assoc, List.length_append, alloc_Nd, v1, hlen, bs_nds, oc_zero, hA, p1, p2, p3])); try (conv => lhs; whnf); try rfl)
          refine FX.callRL ok81_ 1000 rfl rfl ?_
          ((repeat ((conv => lhs; whnf); simp only [go_sem, ↓reduceIte, Nat.reduceEqDiff, Nat.reduceBEq, Nat.reduceAdd, Nat.reduceMul, Nat.reduceSub, Nat.reduceLT, Nat.reduceLeDiff, reduceCtorEq, Int.reduceToNat, Int.reduceLE, Int.reduceLT, Int.reduceEq, sem81_, symbol_o, app_node, app_node1, app_tail, app_tail1, List.append_assoc, List.length_append, alloc_Nd, e, v1, hlen, hsm, bs_nds, oc_zero, hd, hA, p1, p2, p3, p4, p5, p6, p7, p8, p9, p10, p11, p12, w1'])); try (conv => lhs; whnf); try rfl)
          exact k1
        | arr id L h3 hh =>
          have hid := (List.getElem?_eq_some_iff.1 hh).1
          have m1 : memN [id] 1 = false := by rw [memN_eq]; simp; omega
          have m2 : memN [id] 2 = false := by rw [memN_eq]; simp; omega
          have m3 : memN [id] S.length = false := by rw [memN_eq]; simp; omega
          have m4 : memN [id] (S.length + 1) = false := by rw [memN_eq]; simp; omega
          have m5 : memN [id] (S.length + 2) = false := by rw [memN_eq]; simp; omega
          have m6 : memN [id] id = true := by rw [memN_eq]; simp
          simp only [refs_msl] at hA
          by_cases hrl : r < L.length
          · have hne0 : ¬ (L.getD r nd0).cmp n.sym = 0 := fun h => hin ⟨hrl, h⟩
            have h2 := rowsAt_of (app_at hh [Obj.arr [n.cells] none false, .arr [n.sym.cells] none false])
            have ix := sl_nds.idxm (S := S ++ [Obj.arr [n.cells] none false, .arr [n.sym.cells] none false]) (id := id) (off := 0) (n := L.length) (ex := false) (rows := Node.rows L) r h2 (by rw [Node.rows_length]; omega) (Node.rows_ok L) hrl
            rw [Nat.zero_add] at ix
            have gd := rows_getD L hrl
            have hE := fun S => tEqual_o S _ _ (hL _ (kids_mem hrl)) (sym_ok hn)
            have ne : ¬ (r : Int) = (L.length : Int) := by omega
            have hd : dynB S.length fx81_ 876 [(1, .mp 1 0 0), (2, .mp 2 0 0), (3, .mp S.length 0 0), (4, .mp (S.length + 1) 0 0), (6, .int .i64 (r : Int)), (14, .undef), (31, .bool true)] (S ++ [Obj.arr [n.cells] none false, .arr [n.sym.cells] none false]) = true := by
              refine dyn_true (by kernel_rfl) [(1, 0), (0, 0), (1, 0), (2, 0), (4, 0), (1, S.length + 3 + 1), (3, S.length + 3 + 1), (3, 1 + 1)] ?_ (by kernel_rfl)
              ((repeat ((conv => lhs; whnf); simp only [go_sem, ↓reduceIte, Nat.reduceEqDiff, Nat.reduceBEq, Nat.reduceAdd, Nat.reduceMul, Nat.reduceSub, Nat.reduceLT, Nat.reduceLeDiff, reduceCtorEq, Int.reduceToNat, Int.reduceLE, Int.reduceLT, Int.reduceEq, sem81_, symbol_o, app_node, app_node1, app_tail, app_tail1, List.append_assoc, List.length_append, alloc_Nd, v1, hlen, bs_nds, oc_zero, hA, p1, p2, p3, m1, m2, m3, m4, m5, m6])); try (conv => lhs; whnf); try rfl)
            refine FX.callRL ok81_ 1000 rfl rfl ?_
            ((repeat ((conv => lhs; whnf); simp only [go_sem, ↓reduceIte, Nat.reduceEqDiff, Nat.reduceBEq, Nat.reduceAdd, Nat.reduceMul, Nat.reduceSub, Nat.reduceLT, Nat.reduceLeDiff, reduceCtorEq, Int.reduceToNat, Int.reduceLE, Int.reduceLT, Int.reduceEq, sem81_, symbol_o, app_node, app_node1, app_tail, app_tail1, List.append_assoc, List.length_append, alloc_Nd, e, v1, hlen, hsm, ne, ix, h2, gd, hrl, aS, hE, hne0, bs_nds, oc_zero, hd, hA, p1, p2, p3, p4, p5, p6, p7, p8, p9, p10, p11, p12, w1, m1, m2, m3, m4, m5, m6])); try (conv => lhs; whnf); try rfl)
            exact k1
          · obtain rfl : r = L.length := by omega
            have hd : dynB S.length fx81_ 876 [(1, .mp 1 0 0), (2, .mp 2 0 0), (3, .mp S.length 0 0), (4, .mp (S.length + 1) 0 0), (6, .int .i64 (L.length : Int)), (14, .undef), (31, .bool true)] (S ++ [Obj.arr [n.cells] none false, .arr [n.sym.cells] none false]) = true := by
              refine dyn_true (by kernel_rfl) [(1, 0), (0, 0), (1, 0), (2, 0), (4, 0), (1, S.length + 3 + 1), (3, S.length + 3 + 1), (3, 1 + 1)] ?_ (by kernel_rfl)
              ((repeat ((conv => lhs; whnf); simp only [go_sem, ↓reduceIte, Nat.reduceEqDiff, Nat.reduceBEq, Nat.reduceAdd, Nat.reduceMul, Nat.reduceSub, Nat.reduceLT, Nat.reduceLeDiff, reduceCtorEq, Int.reduceToNat, Int.reduceLE, Int.reduceLT, Int.reduceEq, sem81_, symbol_o, app_node, app_node1, app_tail, app_tail1, List.append_assoc, List.length_append, alloc_Nd, v1, hlen, bs_nds, oc_zero, hA, p1, p2, p3, m1, m2, m3, m4, m5, m6])); try (conv => lhs; whnf); try rfl)
            refine FX.callRL ok81_ 1000 rfl rfl ?_
            ((repeat ((conv => lhs; whnf); simp only [go_sem, ↓reduceIte, Nat.reduceEqDiff, Nat.reduceBEq, Nat.reduceAdd, Nat.reduceMul, Nat.reduceSub, Nat.reduceLT, Nat.reduceLeDiff, reduceCtorEq, Int.reduceToNat, Int.reduceLE, Int.reduceLT, Int.reduceEq, sem81_, symbol_o, app_node, app_node1, app_tail, app_tail1, List.append_assoc, List.length_append, alloc_Nd, e, v1, hlen, hsm, bs_nds, oc_zero, hd, hA, p1, p2, p3, p4, p5, p6, p7, p8, p9, p10, p11, p12, w1, m1, m2, m3, m4, m5, m6])); try (conv => lhs; whnf); try rfl)
            exact k1
      · rw [k6, Node.syms_eq, e, if_pos rfl]
        have mm : x ∈ L.take r ++ n.sym :: L.drop r ↔ x ∈ L ∨ x = n.sym := by
          have hL' : x ∈ L ↔ x ∈ L.take r ∨ x ∈ L.drop r := by rw [← List.mem_append, List.take_append_drop]
          rw [hL', List.mem_append, List.mem_cons]
          constructor
          · rintro (h | h | h)
            · exact .inl (.inl h)
            · exact .inr h
            · exact .inl (.inr h)
          · rintro ((h | h) | h)
            · exact .inl h
            · exact .inr (.inr h)
            · exact .inr (.inl h)
        rw [mm, List.mem_append, List.mem_singleton]
        constructor
        · rintro ((h | h) | h)
          · exact .inl h
          · exact .inr (.inl h)
          · exact .inr (.inr h)
        · rintro (h | h | h)
          · exact .inl (.inl h)
          · exact .inl (.inr h)
          · exact .inr h
theorem pvcells_fn (f : FuncId) (a c : List PV) : PV.cells (.fn f a c) = [.fn f a c] := rfl
theorem cell_fn (f : FuncId) (a c : List PV) : PV.cell (.fn f a c) = true := rfl
noncomputable def zeroFn : PV := ((tyi Tryz.prog 114).zero.getD []).headD .undef
theorem alloc_fnN (id : Nat) : allocO (tyi Tryz.prog 114) id = some { v := .mp id 0 0, new := some ([[zeroFn]], none) } := by
  have e : (tyi Tryz.prog 114).zero = some [zeroFn] := by kernel_rfl
  have e2 : zeroFn.cell = true := by kernel_rfl
  simp [allocO, e, e2]
theorem kn_fnN : (tyi Tryz.prog 114).known = true := by kernel_rfl
theorem sz_fnN : (tyi Tryz.prog 114).size = 1 := by kernel_rfl
theorem alloc_nds (id : Nat) : allocO (tyi Tryz.prog 28) id = some { v := .mp id 0 0, new := some ([[.sl [] true]], none) } := by
  have e : (tyi Tryz.prog 28).zero = some [.sl [] true] := by kernel_rfl
  simp [allocO, e, PV.cell]
theorem rows_fzR (S : Store) (d : Nat) (L : List Node) : mapO (mapO (fzCell S (d + 2))) (Node.rows L) = some (Node.rows L) := by
  rw [Node.rows_eq]
  have := mapO_all (f := mapO (fzCell S (d + 2))) (g := fun x => x) (l := L.map Node.cells) (fun a ha => by
    obtain ⟨w, _, rfl⟩ := List.mem_map.1 ha
    rw [Node.cells_eq]
    rfl)
  rw [show (L.map Node.cells).map (fun x => x) = L.map Node.cells by simp] at this
  exact this
theorem rows_fzV {S : Store} {id : Nat} {L : List Node} (h : rowsAt S id = some (Node.rows L)) : fzPV S (.msl id 0 L.length false) = some (.sl (Node.rows L) false) := by
  have e1 : rowsIn S (.msl id 0 L.length false) = some (Node.rows L) := by
    rw [rowsIn_msl, h]
    simp only [Option.bind_some, Nat.zero_add, List.drop_zero, Node.rows_length, Nat.le_refl, if_true]
    rw [← Node.rows_length L, List.take_length]
  show ((rowsIn S (.msl id 0 L.length false)).bind fun rows => (mapO (mapO (fzCell S 7)) rows).map fun rows => PV.sl rows false) = _
  rw [e1]
  simp only [Option.bind_some, rows_fzR S 5, Option.map_some]
noncomputable def fx41_ : FX := ⟨Tryz.f41, hints.of 41, []⟩
theorem ok41_ : fx41_.ok 41 := ⟨by kernel_rfl, of_decide_eq_true (by kernel_rfl), by kernel_rfl, by kernel_rfl, by kernel_rfl, by kernel_rfl⟩
theorem sem41_ (b0 : Nat) (m : Md) (fs : List Fr) (e : Env) (S : Store) : sem b0 fx41_ m fs e S = run b0 fx41_ 1000 m fs e S := (sem_eq _ _ _ _ _ _).trans (run_sem b0 fx41_ ok41_.good 1000 m fs e S).symm
theorem call_SymbolsOf (n : Node) (hn : n.ok) (hc : n.count ≤ 100000) : ∃ L ex, callL Tryz.prog hints 41 [.agg n.cells] = some (.sl (Node.rows L) ex) ∧ (ex = true → L = []) ∧ (∀ m ∈ L, m.ok) ∧ ∀ x, x ∈ L ↔ x ∈ n.syms := by
  have o0 : OS [.arr [n.cells] none false, .arr [[.sl [] true]] none false, .arr [[.fn 81 [] [.mp 1 0 0, .mp 2 0 0]]] none false] [] := by
    refine ⟨rfl, ⟨_, rfl, .nil⟩, ?_⟩
    rw [closedS_iff]
    intro j rows g f hj x hx
    match j with
    | 0 =>
      simp at hj
      rw [← hj.1, node_flat] at hx
      cases hx
    | 1 =>
      simp at hj
      rw [← hj.1] at hx
      cases hx
    | 2 =>
      simp at hj
      rw [← hj.1] at hx
      simp [rowsRefs_cons, refsL_cons, rowsRefs_nil, refsL_nil, PV.refs] at hx
      simp; omega
    | j + 3 => simp at hj
  obtain ⟨S', L, e1, e2, e3, e4, e5, e6⟩ := call_walk n hn [] _ o0 (fun m hm => by cases hm) (by simpa using hc)
  have hcall := callM_eq (by kernel_rfl) e1 e3 o0.closed (by simp [belowL, refsL_cons, refsL_nil, refs_agg, Node.refs, refs_mp])
  have hmv : callMV Tryz.prog hints [.arr [n.cells] none false, .arr [[.sl [] true]] none false, .arr [[.fn 81 [] [.mp 1 0 0, .mp 2 0 0]]] none false] (.fn 81 [] [.mp 1 0 0, .mp 2 0 0]) [.agg n.cells] = some { v := .tup [], S := S' } := by
    rw [callMV_fn]; exact hcall
  obtain ⟨v, hv, ho⟩ := e2.out
  have h1 := rowsAt_of hv
  have hm : ∀ x, x ∈ L ↔ x ∈ n.syms := fun x => by rw [e6]; simp
  cases ho with
  | nil =>
    refine ⟨[], true, ?_, fun _ => rfl, e5, hm⟩
    apply FX.callV (r := (.sl [] true, S')) ok41_ 1000 rfl rfl
    · ((repeat ((conv => lhs; whnf); simp only [go_sem, ↓reduceIte, Nat.reduceEqDiff, Nat.reduceBEq, Nat.reduceAdd, Nat.reduceMul, Nat.reduceSub, Nat.reduceLT, Nat.reduceLeDiff, reduceCtorEq, Int.reduceToNat, Int.reduceLE, Int.reduceLT, Int.reduceEq, sem41_, alloc_nds, alloc_fnN, kn_fnN, sz_fnN, pvcells_fn, cell_fn, part_fnN, hmv, h1])); try (conv => lhs; whnf); try rfl)
    · rfl
  | arr id L h3 hh =>
    refine ⟨L, false, ?_, (fun h => by cases h), e5, hm⟩
    apply FX.callV (r := (.msl id 0 L.length false, S')) ok41_ 1000 rfl rfl
    · ((repeat ((conv => lhs; whnf); simp only [go_sem, ↓reduceIte, Nat.reduceEqDiff, Nat.reduceBEq, Nat.reduceAdd, Nat.reduceMul, Nat.reduceSub, Nat.reduceLT, Nat.reduceLeDiff, reduceCtorEq, Int.reduceToNat, Int.reduceLE, Int.reduceLT, Int.reduceEq, sem41_, alloc_nds, alloc_fnN, kn_fnN, sz_fnN, pvcells_fn, cell_fn, part_fnN, hmv, h1])); try (conv => lhs; whnf); try rfl)
    · exact rows_fzV (rowsAt_of hh)
theorem SymbolsOf_o (n : Node) (hn : n.ok) (hc : n.count ≤ 100000) : ∃ L ex, (∀ S, callO (callL Tryz.prog hints) S 41 [.agg n.cells] = some { v := .sl (Node.rows L) ex }) ∧ (L = [] ↔ n.syms = []) ∧ (∀ m ∈ L, m.ok) ∧ ∀ x, x ∈ L ↔ x ∈ n.syms := by
  obtain ⟨L, ex, h1, h2, h3, h4⟩ := call_SymbolsOf n hn hc
  refine ⟨L, ex, fun S => callN S h1, ?_, h3, h4⟩
  rw [List.eq_nil_iff_forall_not_mem, List.eq_nil_iff_forall_not_mem]
  simp only [h4]
end
end Go.Vs
end
section
set_option linter.unusedVariables false
set_option linter.unusedSimpArgs false
set_option maxRecDepth 100000
namespace Go.Vs
open Go Go.Proofs
structure Pr where
  what : Node
  wth : Node
  rates : List Node
def Pr.cells (p : Pr) : List PV := p.what.cells ++ (p.wth.cells ++ [.sl (Node.rows p.rates) false])
structure Pr.ok (p : Pr) : Prop where
  what : p.what.ok
  wth : p.wth.ok
  rates : p.rates.length ≤ maxLen
def pr0 : Pr := ⟨nd0, nd0, []⟩
def prRows (I : List Pr) : List (List PV) := I.map Pr.cells
theorem Pr.cells_len (p : Pr) : p.cells.length = 13 := by simp [Pr.cells, Node.cells_length]
@[go_sem] theorem prRows_length (I : List Pr) : (prRows I).length = I.length := nr (by simp [prRows])
@[go_sem] theorem prRows_ok (I : List Pr) : rowsOK 13 (prRows I) = true := nr (enc_ok (enc := Pr.cells) Pr.cells_len I)
theorem d_Pair : (tyi Tryz.prog 69).d = .struct [(0, 6, true), (6, 6, true), (12, 1, false)] := by kernel_rfl
@[go_sem] theorem size_Pair : (tyi Tryz.prog 69).size = 13 := nr (by kernel_rfl)
@[go_sem] theorem known_Pair : (tyi Tryz.prog 69).known = true := nr (by kernel_rfl)
@[go_sem] theorem zero_Pair : (tyi Tryz.prog 69).zero = some [.int .i64 0, .str ⟨#[]⟩, .bool false, .sl [] true, .sl [] true, .sl [] true, .int .i64 0, .str ⟨#[]⟩, .bool false, .sl [] true, .sl [] true, .sl [] true, .sl [] true] := nr (by kernel_rfl)
@[go_sem] theorem alloc_Pair (n : Nat) : allocO (tyi Tryz.prog 69) n = some { v := .mp n 0 0, new := some ([[.int .i64 0, .str ⟨#[]⟩, .bool false, .sl [] true, .sl [] true, .sl [] true, .int .i64 0, .str ⟨#[]⟩, .bool false, .sl [] true, .sl [] true, .sl [] true, .sl [] true]], none) } := nr (by unfold allocO; rw [zero_Pair]; rfl)
@[go_sem] theorem build_Pair (l : List (Nat × PV)) : buildO (tyi Tryz.prog 69) l = (fillV [(0, 6, true), (6, 6, true), (12, 1, false)] [.int .i64 0, .str ⟨#[]⟩, .bool false, .sl [] true, .sl [] true, .sl [] true, .int .i64 0, .str ⟨#[]⟩, .bool false, .sl [] true, .sl [] true, .sl [] true, .sl [] true] l).map .agg := nr (by unfold buildO; rw [d_Pair, zero_Pair]; rfl)
@[go_sem] theorem fm_Pair_0 (id i off : Nat) : evFieldAddr (tyi Tryz.prog 69) 0 (.mp id i off) = some (.mp id i (off + 0)) := by simp [evFieldAddr, d_Pair]
@[go_sem] theorem fk_Pair_0 (r : List PV) : evFieldAddr (tyi Tryz.prog 69) 0 (.cp r) = some (.cp (r.drop 0)) := by simp [evFieldAddr, d_Pair]
@[go_sem] theorem fv_Pair_0 (cs : List PV) : evField (tyi Tryz.prog 69) 0 (.agg cs) = if 0 + 6 ≤ cs.length then some (.agg ((cs.drop 0).take 6)) else none := by simp [evField, d_Pair]
@[go_sem] theorem fm_Pair_1 (id i off : Nat) : evFieldAddr (tyi Tryz.prog 69) 1 (.mp id i off) = some (.mp id i (off + 6)) := by simp [evFieldAddr, d_Pair]
@[go_sem] theorem fk_Pair_1 (r : List PV) : evFieldAddr (tyi Tryz.prog 69) 1 (.cp r) = some (.cp (r.drop 6)) := by simp [evFieldAddr, d_Pair]
@[go_sem] theorem fv_Pair_1 (cs : List PV) : evField (tyi Tryz.prog 69) 1 (.agg cs) = if 6 + 6 ≤ cs.length then some (.agg ((cs.drop 6).take 6)) else none := by simp [evField, d_Pair]
@[go_sem] theorem fm_Pair_2 (id i off : Nat) : evFieldAddr (tyi Tryz.prog 69) 2 (.mp id i off) = some (.mp id i (off + 12)) := by simp [evFieldAddr, d_Pair]
@[go_sem] theorem fk_Pair_2 (r : List PV) : evFieldAddr (tyi Tryz.prog 69) 2 (.cp r) = some (.cp (r.drop 12)) := by simp [evFieldAddr, d_Pair]
@[go_sem] theorem fv_Pair_2 (cs : List PV) : evField (tyi Tryz.prog 69) 2 (.agg cs) = cs[12]? := by simp [evField, d_Pair]
theorem sl_prs : SlT 22 69 13 232 := ⟨by kernel_rfl, by kernel_rfl, by kernel_rfl, by kernel_rfl, by kernel_rfl⟩
@[go_sem] theorem len_prs (r : List (List PV)) (ex : Bool) : lenO (tyi Tryz.prog 22) (.sl r ex) = some (.int .i64 r.length) := nr (sl_prs.len r ex)
@[go_sem] theorem idx_prs (S : Store) (I : List Pr) (ex : Bool) (i : Int) : indexAddrO Tryz.prog 22 S (.sl (prRows I) ex) (.int .i64 i) = if 0 ≤ i ∧ i < I.length then some (.cp (I.getD i.toNat pr0).cells) else none := nr (sl_prs.idx Pr.cells_len pr0 S I ex i)
theorem prRows_take (I : List Pr) (i : Nat) : (prRows I).take i = prRows (I.take i) := by simp [prRows, List.map_take]
theorem cut_prs (S : Store) (I : List Pr) (i : Nat) (h : i ≤ I.length) : sliceO Tryz.prog 22 S (.sl (prRows I) false) none (some (.int .i64 i)) none = some (.sl (prRows (I.take i)) false) := by
  have := sl_prs.firsts S (rows := prRows I) false i (by rw [prRows_length]; exact h) (prRows_ok I)
  rw [prRows_take] at this
  exact this
@[go_sem] theorem Pr.clen (p : Pr) : p.cells.length = 13 := nr p.cells_len
@[go_sem] theorem Pr.call_ (p : Pr) : p.cells.all PV.cell = true := nr (by simp [Pr.cells, List.all_append, Node.cells_cell, PV.cell])
theorem refsL_append : ∀ a b : List PV, refsL (a ++ b) = refsL a ++ refsL b
  | [], b => rfl
  | v :: r, b => by rw [List.cons_append, refsL_cons, refsL_cons, refsL_append r b, List.append_assoc]
@[go_sem] theorem Pr.refs (p : Pr) : refsL p.cells = [] := nr (by
  rw [Pr.cells, refsL_append, refsL_append, Node.refs, Node.refs]; rfl)
@[go_sem] theorem part_Pair (p : Pr) : part (tyi Tryz.prog 69) p.cells = some (.agg p.cells) := by
  simp [Pr.cells, Node.cells_eq, part, known_Pair, TI.isAgg, d_Pair, size_Pair]
@[go_sem] theorem part_what (p : Pr) : part (tyi Tryz.prog 30) p.cells = some (.agg p.what.cells) := by
  simp [Pr.cells, Node.cells_eq, part, known_Nd, TI.isAgg, d_Nd, size_Nd]
@[go_sem] theorem part_whatop (p : Pr) : part (tyi Tryz.prog 3) p.cells = some (.int .i64 p.what.op) := by
  have e : (tyi Tryz.prog 3).isAgg = false := by kernel_rfl
  simp [Pr.cells, Node.cells_eq, part, kn_int, e]
@[go_sem] theorem Pr.drop5 (p : Pr) : p.cells.drop 5 = .sl (Node.rows p.what.kids) false :: (p.wth.cells ++ [.sl (Node.rows p.rates) false]) := nr (by simp [Pr.cells, Node.cells_eq])
@[go_sem] theorem Pr.drop6 (p : Pr) : p.cells.drop 6 = p.wth.cells ++ [.sl (Node.rows p.rates) false] := nr (by simp [Pr.cells, Node.cells_eq])
@[go_sem] theorem Pr.drop12 (p : Pr) : p.cells.drop 12 = [.sl (Node.rows p.rates) false] := nr (by simp [Pr.cells, Node.cells_eq])
@[go_sem] theorem part_app (m : Node) (r : List PV) : part (tyi Tryz.prog 30) (m.cells ++ r) = some (.agg m.cells) := by
  simp [Node.cells_eq, part, known_Nd, TI.isAgg, d_Nd, size_Nd]
theorem prs_drop {I : List Pr} {i : Nat} (h : i < I.length) : I.drop i = I.getD i pr0 :: I.drop (i + 1) := by
  rw [List.drop_eq_getElem_cons h]
  simp [List.getD_eq_getElem?_getD, h]
theorem prs_mem {I : List Pr} {i : Nat} (h : i < I.length) : I.getD i pr0 ∈ I := by
  simp [List.getD_eq_getElem?_getD, h]
def lightL : Int → List Pr → Bool
  | a, [] => decide (a ≤ 1000)
  | a, p :: r => decide (p.rates.length ≤ 10) && lightL (IntKind.i64.wrap (a + IntKind.i64.wrap (p.wth.size + p.what.size))) r
def lightV (ls : Nat) (I : List Pr) (n : Node) : Bool := decide (ls ≤ 100) && (decide (I.length ≤ 60) && decide (n.size ≤ 1000)) && lightL 0 I
section
attribute [local irreducible] Vs.callL Vs.callRL tyi callO callM callMV appendE storeE evLoad indexAddrO sliceO evFieldAddr evField buildO buildSliceO makeSliceO allocO boxed lenO copyE convertO indexO Vs.gc freezeAll
noncomputable def fx9_ : FX := ⟨Tryz.f9, hints.of 9, []⟩
theorem ok9_ : fx9_.ok 9 := ⟨by kernel_rfl, of_decide_eq_true (by kernel_rfl), by kernel_rfl, by kernel_rfl, by kernel_rfl, by kernel_rfl⟩
theorem sem9_ (b0 : Nat) (m : Md) (fs : List Fr) (e : Env) (S : Store) : sem b0 fx9_ m fs e S = run b0 fx9_ 1000 m fs e S := (sem_eq _ _ _ _ _ _).trans (run_sem b0 fx9_ ok9_.good 1000 m fs e S).symm
theorem loop_light (I : List Pr) (n : Node) (hI : ∀ p ∈ I, p.ok) (hl : I.length ≤ 60) : ∀ (m i : Nat), i + m = I.length → ∀ a : Int, loopAt 0 fx9_ 0 244 1 [.blk 0, .seq 0 31] [(1, .sl (prRows I) false), (7, .int .i64 a), (8, .int .i64 i)] [.arr [n.cells] none false] = some (.bool (lightL a (I.drop i)), [.arr [n.cells] none false]) := by
  intro m
  induction m with
  | zero =>
    intro i hi a
    have h1 : ¬ (i : Int) < (I.length : Int) := by omega
    rw [List.drop_of_length_le (by omega)]
    refine loopAt_step ok9_.good 1000 ?_
    ((repeat ((conv => lhs; whnf); simp only [go_sem, simprocAttr, sem9_, h1])); try (conv => lhs; whnf); try rfl)
    refine exit_run ok9_.good 1000 ?_
    unfold lightL
    ((repeat ((conv => lhs; whnf); simp only [go_sem, simprocAttr, sem9_])); try (conv => lhs; whnf); try rfl)
  | succ m hm =>
    intro i hi a
    have h1 : (i : Int) < (I.length : Int) := by omega
    have h2 := wrap_succ (i := i) (n := I.length) (by omega) (by unfold maxLen; omega)
    have h4 : 0 ≤ (i : Int) ∧ (i : Int) < (I.length : Int) := ⟨by omega, h1⟩
    have hp := hI _ (prs_mem (I := I) (i := i) (by omega))
    have s1 := fun S => callN S (call_Size _ hp.wth)
    have s2 := fun S => callN S (call_Size _ hp.what)
    rw [prs_drop (by omega)]
    unfold lightL
    by_cases c : (I.getD i pr0).rates.length ≤ 10
    · have c' : ¬ 10 < ((I.getD i pr0).rates.length : Int) := by omega
      have key := hm (i + 1) (by omega) (IntKind.i64.wrap (a + IntKind.i64.wrap ((I.getD i pr0).wth.size + (I.getD i pr0).what.size)))
      rw [decide_eq_true c, Bool.true_and]
      refine loopAt_step ok9_.good 1000 ?_
      ((repeat ((conv => lhs; whnf); simp only [go_sem, simprocAttr, sem9_, h1, h2, h4, Int.toNat_natCast, c', s1, s2])); try (conv => lhs; whnf); try rfl)
      exact key
    · have c' : 10 < ((I.getD i pr0).rates.length : Int) := by omega
      rw [decide_eq_false c, Bool.false_and]
      refine loopAt_step ok9_.good 1000 ?_
      ((repeat ((conv => lhs; whnf); simp only [go_sem, simprocAttr, sem9_, h1, h2, h4, Int.toNat_natCast, c'])); try (conv => lhs; whnf); try rfl)
theorem call_light {sV : PV} {ls : Nat} (hs : lenO (tyi Tryz.prog 35) sV = some (.int .i64 (ls : Int))) (I : List Pr) (n : Node) (hI : ∀ p ∈ I, p.ok) (hn : n.ok) : callL Tryz.prog hints 9 [sV, .sl (prRows I) false, .agg n.cells] = some (.bool (lightV ls I n)) := by
  have s1 := fun S => callN S (call_Size n hn)
  unfold lightV
  by_cases c1 : ls ≤ 100
  case neg =>
    have c1' : 100 < (ls : Int) := by omega
    rw [decide_eq_false c1, Bool.false_and, Bool.false_and]
    apply FX.callB2 ok9_ 1000 rfl rfl
    ((repeat ((conv => lhs; whnf); simp only [go_sem, simprocAttr, sem9_, hs, c1'])); try (conv => lhs; whnf); try rfl)
  have c1' : ¬ 100 < (ls : Int) := by omega
  rw [decide_eq_true c1, Bool.true_and]
  by_cases c2 : I.length ≤ 60
  case neg =>
    have c2' : 60 < (I.length : Int) := by omega
    rw [decide_eq_false c2, Bool.false_and, Bool.false_and]
    apply FX.callB2 ok9_ 1000 rfl rfl
    ((repeat ((conv => lhs; whnf); simp only [go_sem, simprocAttr, sem9_, hs, c1', c2'])); try (conv => lhs; whnf); try rfl)
  have c2' : ¬ 60 < (I.length : Int) := by omega
  rw [decide_eq_true c2, Bool.true_and]
  by_cases c3 : n.size ≤ 1000
  case neg =>
    have c3' : 1000 < n.size := by omega
    rw [decide_eq_false c3, Bool.false_and]
    apply FX.callB2 ok9_ 1000 rfl rfl
    ((repeat ((conv => lhs; whnf); simp only [go_sem, simprocAttr, sem9_, hs, c1', c2', s1, c3'])); try (conv => lhs; whnf); try rfl)
  have c3' : ¬ 1000 < n.size := by omega
  have key := loop_light I n hI c2 I.length 0 (by omega) 0
  rw [List.drop_zero] at key
  rw [decide_eq_true c3, Bool.true_and]
  apply FX.callB2 ok9_ 1000 rfl rfl
  ((repeat ((conv => lhs; whnf); simp only [go_sem, simprocAttr, sem9_, hs, c1', c2', s1, c3'])); try (conv => lhs; whnf); try rfl)
  exact key
end
theorem lightL_spec : ∀ (I : List Pr) (a : Int), 0 ≤ a → a ≤ 1000000000000 → (∀ p ∈ I, p.wth.count ≤ 1000000000 ∧ p.what.count ≤ 1000000000) → I.length ≤ 60 → a + 2000000000 * (I.length : Int) ≤ 1000000000000 → lightL a I = true → ∀ p ∈ I, p.rates.length ≤ 10 ∧ a + (p.wth.count : Int) + p.what.count ≤ 1000
  | [], a, _, _, _, _, _, _ => by simp
  | p :: r, a, h0, h1, hc, hl, hb, h => by
    unfold lightL at h
    simp only [Bool.and_eq_true, decide_eq_true_eq] at h
    obtain ⟨h2, h3⟩ := h
    obtain ⟨k1, k2⟩ := hc p (by simp)
    rw [size_count _ k1, size_count _ k2] at h3
    have w1 : IntKind.i64.wrap ((p.wth.count : Int) + p.what.count) = (p.wth.count : Int) + p.what.count := by rw [IntKind.wrap_i64]; omega
    rw [w1] at h3
    have w2 : IntKind.i64.wrap (a + ((p.wth.count : Int) + p.what.count)) = a + ((p.wth.count : Int) + p.what.count) := by rw [IntKind.wrap_i64]; omega
    rw [w2] at h3
    simp only [List.length_cons] at hb hl
    have ih := lightL_spec r (a + ((p.wth.count : Int) + p.what.count)) (by omega) (by omega) (fun q hq => hc q (by simp [hq])) (by omega) (by omega) h3
    have last : a + ((p.wth.count : Int) + p.what.count) ≤ 1000 := by
      cases r with
      | nil => unfold lightL at h3; simpa using h3
      | cons q r =>
        have := (ih q (by simp)).2
        omega
    intro q hq
    rcases List.mem_cons.1 hq with rfl | hq
    · exact ⟨h2, by omega⟩
    · have := ih q hq
      exact ⟨this.1, by omega⟩
theorem lightV_spec {ls : Nat} {I : List Pr} {n : Node} (hc : ∀ p ∈ I, p.wth.count ≤ 1000000000 ∧ p.what.count ≤ 1000000000) (hn : n.count ≤ 1000000000) (h : lightV ls I n = true) : ls ≤ 100 ∧ I.length ≤ 60 ∧ n.count ≤ 1000 ∧ ∀ p ∈ I, p.rates.length ≤ 10 ∧ p.wth.count ≤ 1000 ∧ p.what.count ≤ 1000 := by
  unfold lightV at h
  simp only [Bool.and_eq_true, decide_eq_true_eq] at h
  obtain ⟨⟨h1, h2, h3⟩, h4⟩ := h
  rw [size_count n hn] at h3
  refine ⟨h1, h2, by omega, fun p hp => ?_⟩
  have := lightL_spec I 0 (by omega) (by omega) hc h2 (by omega) h4 p hp
  exact ⟨this.1, by omega, by omega⟩
end Go.Vs
end

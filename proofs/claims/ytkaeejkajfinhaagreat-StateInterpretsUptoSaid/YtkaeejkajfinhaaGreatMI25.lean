
import Derived.Test.YtkaeejkajfinhaaGreatMI12
import Derived.Test.YtkaeejkajfinhaaGreatMI21
import Derived.Test.YtkaeejkajfinhaaGreatMI24
section
set_option linter.unusedVariables false
set_option linter.unusedSimpArgs false
set_option maxRecDepth 100000
namespace Go.Vs
open Go Go.Proofs
theorem bs_nds (id n : Nat) (is : List Nat) (rows : List (List PV)) : buildSliceO Tryz.prog 28 id n is rows = if is = List.range n ∧ rowsOK 6 rows = true ∧ (rows.all fun r => r.all PV.cell) = true ∧ n * 6 ≤ 16777216 then some { v := .msl id 0 n true, new := some (rows, some (some 6)) } else none := sl_nds.buildSlice (by decide) id n is rows
theorem part_Nd6 (a b c d e f : PV) (r : List PV) : part (tyi Tryz.prog 30) (a :: b :: c :: d :: e :: f :: r) = some (.agg [a, b, c, d, e, f]) := by simp [part, known_Nd, TI.isAgg, d_Nd, size_Nd]
def sym0 (o : Int) (nm : ByteArray) : Node := .mk o nm false [] [] []
def sym1 (o : Int) (nm : ByteArray) : Node := .mk o nm false [] [] [dotN]
def Node.head (n : Node) : Node := if n.kids.length ≠ 0 then sym1 n.op n.name else sym0 n.op n.name
theorem sym_fun {n : Node} (h : n.op = 10 ∨ n.op = 37) : n.sym = n.head := by
  unfold Node.sym Node.head sym0 sym1
  have : isSym n.op = true := by rcases h with h | h <;> rw [h] <;> rfl
  rw [if_pos this]
  by_cases hk : n.kids.length ≠ 0
  · rw [if_pos ⟨h, hk⟩, if_pos hk]
  · rw [if_neg (fun x => hk x.2), if_neg hk]
theorem sym_any {n : Node} (h : n.op = 11 ∨ n.op = 38 ∨ n.op = 61 ∨ n.op = 62 ∨ n.op = 56) : n.sym = sym0 n.op n.name := by
  unfold Node.sym sym0
  have : isSym n.op = true := by rcases h with h | h | h | h | h <;> rw [h] <;> rfl
  rw [if_pos this, if_neg (fun x => by omega)]
theorem sym_none {n : Node} (h : isSym n.op = false) : n.sym = nd0 := by
  unfold Node.sym
  rw [h]; rfl
theorem tup_fz (S : Store) (m : Node) (b : Bool) : fzPV S (.tup [.agg m.cells, .bool b]) = some (.tup [.agg m.cells, .bool b]) := by cases m; rfl
section
attribute [local irreducible] Vs.callL Vs.callRL tyi callO callM callMV appendE storeE evLoad indexAddrO sliceO evFieldAddr evField buildO buildSliceO makeSliceO allocO boxed lenO copyE convertO indexO Vs.gc freezeAll
noncomputable def fx79_ : FX := ⟨Tryz.f79, hints.of 79, []⟩
theorem ok79_ : fx79_.ok 79 := ⟨by kernel_rfl, of_decide_eq_true (by kernel_rfl), by kernel_rfl, by kernel_rfl, by kernel_rfl, by kernel_rfl⟩
theorem sem79_ (b0 : Nat) (m : Md) (fs : List Fr) (e : Env) (S : Store) : sem b0 fx79_ m fs e S = run b0 fx79_ 1000 m fs e S := (sem_eq _ _ _ _ _ _).trans (run_sem b0 fx79_ ok79_.good 1000 m fs e S).symm
theorem call_symbol (n : Node) : callL Tryz.prog hints 79 [.agg n.cells] = some (.tup [.agg n.sym.cells, .bool (isSym n.op)]) := by
  by_cases e10 : n.op = 10
  · have ei : isSym n.op = true := by rw [e10]; rfl
    rw [sym_fun (by omega), ei]
    unfold Node.head
    by_cases hk : n.kids.length = 0
    · have hk' : ¬ 0 < (n.kids.length : Int) := by omega
      rw [if_neg (by omega), e10]
      apply FX.callV ok79_ 1000 rfl rfl
      · ((repeat ((conv => lhs; whnf); simp only [go_sem, simprocAttr, sem79_, e10, hk', alloc_Nd, bs_nds, part_Nd6, size_nds, known_nds])); try (conv => lhs; whnf); try rfl)
      · rfl
    · have hk' : 0 < (n.kids.length : Int) := by omega
      rw [if_pos hk, e10]
      apply FX.callV ok79_ 1000 rfl rfl
      · ((repeat ((conv => lhs; whnf); simp only [go_sem, simprocAttr, sem79_, e10, hk', alloc_Nd, bs_nds, part_Nd6, size_nds, known_nds])); try (conv => lhs; whnf); try rfl)
      · rfl
  by_cases e37 : n.op = 37
  · have ei : isSym n.op = true := by rw [e37]; rfl
    rw [sym_fun (by omega), ei]
    unfold Node.head
    by_cases hk : n.kids.length = 0
    · have hk' : ¬ 0 < (n.kids.length : Int) := by omega
      rw [if_neg (by omega), e37]
      apply FX.callV ok79_ 1000 rfl rfl
      · ((repeat ((conv => lhs; whnf); simp only [go_sem, simprocAttr, sem79_, e37, hk', alloc_Nd, bs_nds, part_Nd6, size_nds, known_nds])); try (conv => lhs; whnf); try rfl)
      · rfl
    · have hk' : 0 < (n.kids.length : Int) := by omega
      rw [if_pos hk, e37]
      apply FX.callV ok79_ 1000 rfl rfl
      · ((repeat ((conv => lhs; whnf); simp only [go_sem, simprocAttr, sem79_, e37, hk', alloc_Nd, bs_nds, part_Nd6, size_nds, known_nds])); try (conv => lhs; whnf); try rfl)
      · rfl
  by_cases e11 : n.op = 11
  · have ei : isSym n.op = true := by rw [e11]; rfl
    rw [sym_any (by omega), ei, e11]
    apply FX.callV ok79_ 1000 rfl rfl
    · ((repeat ((conv => lhs; whnf); simp only [go_sem, simprocAttr, sem79_, e11, alloc_Nd, bs_nds, part_Nd6, size_nds, known_nds])); try (conv => lhs; whnf); try rfl)
    · rfl
  by_cases e38 : n.op = 38
  · have ei : isSym n.op = true := by rw [e38]; rfl
    rw [sym_any (by omega), ei, e38]
    apply FX.callV ok79_ 1000 rfl rfl
    · ((repeat ((conv => lhs; whnf); simp only [go_sem, simprocAttr, sem79_, e38, alloc_Nd, bs_nds, part_Nd6, size_nds, known_nds])); try (conv => lhs; whnf); try rfl)
    · rfl
  by_cases e61 : n.op = 61
  · have ei : isSym n.op = true := by rw [e61]; rfl
    rw [sym_any (by omega), ei, e61]
    apply FX.callV ok79_ 1000 rfl rfl
    · ((repeat ((conv => lhs; whnf); simp only [go_sem, simprocAttr, sem79_, e61, alloc_Nd, bs_nds, part_Nd6, size_nds, known_nds])); try (conv => lhs; whnf); try rfl)
    · rfl
  by_cases e62 : n.op = 62
  · have ei : isSym n.op = true := by rw [e62]; rfl
    rw [sym_any (by omega), ei, e62]
    apply FX.callV ok79_ 1000 rfl rfl
    · ((repeat ((conv => lhs; whnf); simp only [go_sem, simprocAttr, sem79_, e62, alloc_Nd, bs_nds, part_Nd6, size_nds, known_nds])); try (conv => lhs; whnf); try rfl)
    · rfl
  by_cases e56 : n.op = 56
  · have ei : isSym n.op = true := by rw [e56]; rfl
    rw [sym_any (by omega), ei, e56]
    apply FX.callV ok79_ 1000 rfl rfl
    · ((repeat ((conv => lhs; whnf); simp only [go_sem, simprocAttr, sem79_, e56, alloc_Nd, bs_nds, part_Nd6, size_nds, known_nds])); try (conv => lhs; whnf); try rfl)
    · rfl
  have ei : isSym n.op = false := by simp only [isSym, e10, e11, e37, e38, e61, e62, e56, decide_false, Bool.or_self]
  rw [sym_none ei, ei]
  apply FX.callV ok79_ 1000 rfl rfl
  · ((repeat ((conv => lhs; whnf); simp only [go_sem, simprocAttr, sem79_, e10, e11, e37, e38, e61, e62, e56, alloc_Nd, bs_nds, part_Nd6, size_nds, known_nds])); try (conv => lhs; whnf); try rfl)
  · rfl
theorem symbol_o (S : Store) (n : Node) : callO (callL Tryz.prog hints) S 79 [.agg n.cells] = some { v := .tup [.agg n.sym.cells, .bool (isSym n.op)] } := callN S (call_symbol n)
noncomputable def fx38_ : FX := ⟨Tryz.f38, hints.of 38, []⟩
theorem ok38_ : fx38_.ok 38 := ⟨by kernel_rfl, of_decide_eq_true (by kernel_rfl), by kernel_rfl, by kernel_rfl, by kernel_rfl, by kernel_rfl⟩
theorem sem38_ (b0 : Nat) (m : Md) (fs : List Fr) (e : Env) (S : Store) : sem b0 fx38_ m fs e S = run b0 fx38_ 1000 m fs e S := (sem_eq _ _ _ _ _ _).trans (run_sem b0 fx38_ ok38_.good 1000 m fs e S).symm
theorem call_SymbolOf (n : Node) : callL Tryz.prog hints 38 [.agg n.cells] = some (.tup [.agg n.sym.cells, .bool (isSym n.op)]) := by
  refine FX.callV (r := (.tup [.agg n.sym.cells, .bool (isSym n.op)], [.arr [n.cells] none false, .arr [n.sym.cells] none false])) ok38_ 1000 rfl rfl ?_ (tup_fz _ _ _)
  ((repeat ((conv => lhs; whnf); simp only [go_sem, simprocAttr, sem38_, symbol_o])); try (conv => lhs; whnf); try rfl)
theorem SymbolOf_o (S : Store) (n : Node) : callO (callL Tryz.prog hints) S 38 [.agg n.cells] = some { v := .tup [.agg n.sym.cells, .bool (isSym n.op)] } := callN S (call_SymbolOf n)
def Node.isSymbol (n : Node) : Bool :=
  (isSym n.op && (nameOK n.name && (!n.neg && (decide (n.num.length = 0) && decide (n.den.length = 0))))) &&
  (decide (n.kids.length = 0) || (decide (n.kids.length = 1) && ((decide (n.op = 10) || decide (n.op = 37)) && decide ((n.kids.getD 0 nd0).cmp dotN = 0))))
theorem dotN_ok : dotN.ok := by
  refine ⟨by decide, by decide, ⟨?_, ?_, by decide, by decide⟩, by decide, trivial⟩
  · intro w h; cases h
  · intro w h; cases h
theorem cb_dot (S : Store) (n : Node) (h : n.ok) : callO (callL Tryz.prog hints) S 43 [.agg n.cells, .agg [.int .i64 13, .str ⟨#[]⟩, .bool false, .sl [] true, .sl [] true, .sl [] true]] = some { v := .bool (decide (n.cmp dotN = 0)) } := by
  refine callO_fz2 (call_Equal8 n dotN h dotN_ok) n.plain.fz ⟨rfl, fun S => rfl⟩
noncomputable def fx42_ : FX := ⟨Tryz.f42, hints.of 42, []⟩
theorem ok42_ : fx42_.ok 42 := ⟨by kernel_rfl, of_decide_eq_true (by kernel_rfl), by kernel_rfl, by kernel_rfl, by kernel_rfl, by kernel_rfl⟩
theorem sem42_ (b0 : Nat) (m : Md) (fs : List Fr) (e : Env) (S : Store) : sem b0 fx42_ m fs e S = run b0 fx42_ 1000 m fs e S := (sem_eq _ _ _ _ _ _).trans (run_sem b0 fx42_ ok42_.good 1000 m fs e S).symm
theorem call_IsSymbol (n : Node) (hn : n.ok) : callL Tryz.prog hints 42 [.agg n.cells] = some (.bool n.isSymbol) := by
  unfold Node.isSymbol
  cases e1 : isSym n.op
  · rw [Bool.false_and, Bool.false_and]
    apply FX.callB2 ok42_ 1000 rfl rfl
    ((repeat ((conv => lhs; whnf); simp only [go_sem, simprocAttr, sem42_, Symbol_o, e1])); try (conv => lhs; whnf); try rfl)
  cases e2 : nameOK n.name
  · rw [Bool.false_and, Bool.and_false, Bool.false_and]
    apply FX.callB2 ok42_ 1000 rfl rfl
    ((repeat ((conv => lhs; whnf); simp only [go_sem, simprocAttr, sem42_, Symbol_o, e1, Name8_o, e2])); try (conv => lhs; whnf); try rfl)
  cases e3 : n.neg
  case true =>
    rw [Bool.not_true, Bool.false_and, Bool.and_false, Bool.and_false, Bool.false_and]
    apply FX.callB2 ok42_ 1000 rfl rfl
    ((repeat ((conv => lhs; whnf); simp only [go_sem, simprocAttr, sem42_, Symbol_o, e1, Name8_o, e2, e3])); try (conv => lhs; whnf); try rfl)
  by_cases e4 : n.num.length = 0
  case neg =>
    have e4' : 0 < (n.num.length : Int) := by omega
    rw [decide_eq_false e4, Bool.false_and, Bool.and_false, Bool.and_false, Bool.and_false, Bool.false_and]
    apply FX.callB2 ok42_ 1000 rfl rfl
    ((repeat ((conv => lhs; whnf); simp only [go_sem, simprocAttr, sem42_, Symbol_o, e1, Name8_o, e2, e3, e4'])); try (conv => lhs; whnf); try rfl)
  have e4' : ¬ 0 < (n.num.length : Int) := by omega
  by_cases e5 : n.den.length = 0
  case neg =>
    have e5' : 0 < (n.den.length : Int) := by omega
    rw [decide_eq_false e5, Bool.and_false, Bool.and_false, Bool.and_false, Bool.and_false, Bool.false_and]
    apply FX.callB2 ok42_ 1000 rfl rfl
    ((repeat ((conv => lhs; whnf); simp only [go_sem, simprocAttr, sem42_, Symbol_o, e1, Name8_o, e2, e3, e4', e5'])); try (conv => lhs; whnf); try rfl)
  have e5' : ¬ 0 < (n.den.length : Int) := by omega
  rw [decide_eq_true e4, decide_eq_true e5, Bool.not_false, Bool.and_self, Bool.and_self, Bool.and_self, Bool.and_self, Bool.true_and]
  by_cases e6 : n.kids.length = 0
  · have e6' : (n.kids.length : Int) = 0 := by omega
    rw [decide_eq_true e6, Bool.true_or]
    apply FX.callB2 ok42_ 1000 rfl rfl
    ((repeat ((conv => lhs; whnf); simp only [go_sem, simprocAttr, sem42_, Symbol_o, e1, Name8_o, e2, e3, e4', e5', e6'])); try (conv => lhs; whnf); try rfl)
  have e6' : ¬ (n.kids.length : Int) = 0 := by omega
  have x0 : (0 : Int) < (n.kids.length : Int) := by omega
  rw [decide_eq_false e6, Bool.false_or]
  by_cases e7 : n.kids.length = 1
  case neg =>
    have e7' : ¬ (n.kids.length : Int) = 1 := by omega
    rw [decide_eq_false e7, Bool.false_and]
    apply FX.callB2 ok42_ 1000 rfl rfl
    ((repeat ((conv => lhs; whnf); simp only [go_sem, simprocAttr, sem42_, Symbol_o, e1, Name8_o, e2, e3, e4', e5', e6', e7', x0, Int.toNat_zero, alloc_Nd])); try (conv => lhs; whnf); try rfl)
  have e7' : (n.kids.length : Int) = 1 := by omega
  have hk := hn.kids _ (kids_mem (l := n.kids) (i := 0) (by omega))
  have hc := fun S => cb_dot S _ hk
  rw [decide_eq_true e7, Bool.true_and]
  by_cases e10 : n.op = 10
  · rw [e10] at e1
    have o1 : (decide (n.op = 10) || decide (n.op = 37)) = true := by rw [e10]; rfl
    rw [o1, Bool.true_and]
    apply FX.callB2 ok42_ 1000 rfl rfl
    ((repeat ((conv => lhs; whnf); simp only [go_sem, simprocAttr, sem42_, Symbol_o, e1, Name8_o, e2, e3, e4', e5', e6', e7', x0, Int.toNat_zero, alloc_Nd, e10, hc, Int.reduceLT, Int.reduceEq])); try (conv => lhs; whnf); try rfl)
  by_cases e37 : n.op = 37
  · rw [e37] at e1
    have o1 : (decide (n.op = 10) || decide (n.op = 37)) = true := by rw [e37]; rfl
    rw [o1, Bool.true_and]
    apply FX.callB2 ok42_ 1000 rfl rfl
    ((repeat ((conv => lhs; whnf); simp only [go_sem, simprocAttr, sem42_, Symbol_o, e1, Name8_o, e2, e3, e4', e5', e6', e7', x0, Int.toNat_zero, alloc_Nd, e37, hc, Int.reduceLT, Int.reduceEq])); try (conv => lhs; whnf); try rfl)
  rw [decide_eq_false e10, decide_eq_false e37, Bool.or_self, Bool.false_and]
  apply FX.callB2 ok42_ 1000 rfl rfl
  ((repeat ((conv => lhs; whnf); simp only [go_sem, simprocAttr, sem42_, Symbol_o, e1, Name8_o, e2, e3, e4', e5', e6', e7', x0, Int.toNat_zero, alloc_Nd, e10, e37, Int.reduceLT, Int.reduceEq])); try (conv => lhs; whnf); try rfl)
theorem IsSymbol_o (S : Store) (n : Node) (hn : n.ok) : callO (callL Tryz.prog hints) S 42 [.agg n.cells] = some { v := .bool n.isSymbol } := callN S (call_IsSymbol n hn)
end
end Go.Vs
end
section
set_option linter.unusedVariables false
set_option linter.unusedSimpArgs false
namespace Go.Vs
open Go Go.Proofs
theorem seqI_zero_iff (x y : Int) : seqI x y = 0 ↔ x = 0 ∧ y = 0 := by
  unfold seqI
  by_cases h : x = 0 <;> simp [h]
theorem cmpI_zero_iff (a b : Int) : cmpI a b = 0 ↔ a = b := by unfold cmpI; omega
theorem bytes_ext {a b : ByteArray} (h : a.toList = b.toList) : a = b := by
  rw [ByteArray.toList_eq, ByteArray.toList_eq] at h
  obtain ⟨x⟩ := a
  obtain ⟨y⟩ := b
  congr 1
  exact Array.ext' h
theorem cmpStr_zero_iff (a b : ByteArray) : cmpStr a b = 0 ↔ a = b := by
  unfold cmpStr
  by_cases h : a.toList = b.toList
  · have := bytes_ext h
    simp [h, this]
  · have h2 : a ≠ b := fun e => h (by rw [e])
    simp [h, h2, cmpB_ne]
theorem cmpNeg_zero_iff (a b : Bool) : cmpNeg a b = 0 ↔ a = b := by
  unfold cmpNeg
  by_cases h : a = b <;> simp [h, cmpB_ne]
theorem wordsTo_zero_iff (a b : List Int) : ∀ m, wordsTo a b m = 0 ↔ ∀ i, i < m → a.getD i 0 = b.getD i 0
  | 0 => by simp [wordsTo]
  | m + 1 => by
    rw [wordsTo, seqI_zero_iff, cmpI_zero_iff, wordsTo_zero_iff a b m]
    constructor
    · rintro ⟨h1, h2⟩ i hi
      by_cases e : i = m
      · rw [e]; exact h1
      · exact h2 i (by omega)
    · intro h
      exact ⟨h m (by omega), fun i hi => h i (by omega)⟩
theorem cmpWords_zero_iff (a b : List Int) : cmpWords a b = 0 ↔ a = b := by
  unfold cmpWords
  rw [seqI_zero_iff, cmpI_zero_iff, wordsTo_zero_iff]
  constructor
  · rintro ⟨h1, h2⟩
    have hl : a.length = b.length := by omega
    refine List.ext_getElem hl fun i h3 h4 => ?_
    have := h2 i h3
    simpa [List.getD_eq_getElem?_getD, h3, h4] using this
  · rintro rfl
    exact ⟨rfl, fun _ _ => rfl⟩
mutual
theorem cmp_eq : ∀ a b : Node, a.cmp b = 0 ↔ a = b
  | .mk o nm ng nu de f, .mk o' nm' ng' nu' de' f' => by
    have hk := cmps_eq f f'
    rw [Node.cmp_eq]
    simp only [seqI_zero_iff, cmpI_zero_iff, cmpStr_zero_iff, cmpNeg_zero_iff, cmpWords_zero_iff, Node.op, Node.name, Node.neg, Node.num, Node.den, Node.kids, Node.mk.injEq]
    constructor
    · rintro ⟨h1, h2, h3, h4, h5, h6, h7⟩
      exact ⟨h1, h2, h3, h4, h5, (hk (by omega)).1 h7⟩
    · rintro ⟨h1, h2, h3, h4, h5, h6⟩
      exact ⟨h1, h2, h3, h4, h5, by rw [h6], (hk (by rw [h6])).2 h6⟩
theorem cmps_eq : ∀ a b : List Node, a.length = b.length → (Node.cmps a b = 0 ↔ a = b)
  | [], [], _ => by simp [Node.cmps]
  | n :: r, m :: s, h => by
    have h1 := cmp_eq n m
    have h2 := cmps_eq r s (by simpa using h)
    rw [Node.cmps, seqI_zero_iff, h1, h2]
    simp
end
mutual
def Node.syms : Node → List Node
  | .mk o nm ng nu de f => (if isSym o = true then [(Node.mk o nm ng nu de f).sym] else []) ++ Node.symss f
def Node.symss : List Node → List Node
  | [] => []
  | n :: r => n.syms ++ Node.symss r
end
theorem Node.syms_eq (n : Node) : n.syms = (if isSym n.op = true then [n.sym] else []) ++ Node.symss n.kids := by cases n; rfl
mutual
theorem syms_has : ∀ n : Node, n.syms = [] ↔ n.has isSym = false
  | .mk o nm ng nu de f => by
    have h := symss_has f
    rw [Node.syms, Node.has]
    cases e : isSym o
    · simp [h]
    · simp
theorem symss_has : ∀ l : List Node, Node.symss l = [] ↔ Node.hass isSym l = false
  | [] => by simp [Node.symss, Node.hass]
  | n :: r => by
    have h1 := syms_has n
    have h2 := symss_has r
    simp [Node.symss, Node.hass, h1, h2]
end
theorem head_ok {n : Node} (h : n.ok) : n.head.ok := by
  unfold Node.head sym1 sym0
  have hz : (RV.mk false [] []).ok := dotN_ok.val
  split
  · exact ⟨h.op, h.name, hz, by decide, dotN_ok, trivial⟩
  · exact ⟨h.op, h.name, hz, by decide, trivial⟩
theorem nd0_ok : nd0.ok := ⟨by decide, by decide, dotN_ok.val, by decide, trivial⟩
theorem sym_ok {n : Node} (h : n.ok) : n.sym.ok := by
  cases e : isSym n.op
  · rw [sym_none e]; exact nd0_ok
  · by_cases hf : n.op = 10 ∨ n.op = 37
    · rw [sym_fun hf]; exact head_ok h
    · rw [sym_any]
      · exact ⟨h.op, h.name, dotN_ok.val, by decide, trivial⟩
      · simp only [isSym, Bool.or_eq_true, decide_eq_true_eq] at e
        omega
end Go.Vs
end
section
set_option linter.unusedVariables false
set_option linter.unusedSimpArgs false
namespace Go.Vs
open Go Go.Proofs
theorem closedS_iff {S : Store} : closedS S = true ↔ ∀ (j : Nat) (rows : List (List PV)) (g : Option (Option Nat)) (f : Bool), S[j]? = some (Obj.arr rows g f) → ∀ x ∈ rowsRefs rows, x < S.length := by
  simp only [closedS, List.all_eq_true]
  constructor
  · intro h j rows g f hj x hx
    have := h _ (List.mem_of_getElem? hj)
    simp only [List.all_eq_true, decide_eq_true_eq] at this
    exact this x hx
  · intro h o ho
    obtain ⟨j, hj⟩ := List.getElem?_of_mem ho
    cases o with
    | gone => rfl
    | arr rows g f =>
      simp only [List.all_eq_true, decide_eq_true_eq]
      exact h j rows g f hj
theorem closed_set {S : Store} (h : closedS S = true) (j : Nat) {rows : List (List PV)} {g : Option (Option Nat)} {f : Bool} (hr : ∀ x ∈ rowsRefs rows, x < S.length) : closedS (S.set j (.arr rows g f)) = true := by
  rw [closedS_iff] at h ⊢
  intro i rows' g' f' hi x hx
  rw [List.length_set]
  by_cases e : j = i
  · subst e
    rw [List.getElem?_set] at hi
    split at hi
    · split at hi
      · simp only [Option.some.injEq, Obj.arr.injEq] at hi
        exact hr x (by rw [hi.1]; exact hx)
      · cases hi
    · exact absurd rfl (by assumption)
  · rw [List.getElem?_set_ne e] at hi
    exact h i rows' g' f' hi x hx
theorem closed_gone {S : Store} (h : closedS S = true) (j : Nat) : closedS (S.set j .gone) = true := by
  rw [closedS_iff] at h ⊢
  intro i rows' g' f' hi x hx
  rw [List.length_set]
  by_cases e : j = i
  · subst e
    rw [List.getElem?_set] at hi
    split at hi
    · split at hi
      · cases hi
      · cases hi
    · exact absurd rfl (by assumption)
  · rw [List.getElem?_set_ne e] at hi
    exact h i rows' g' f' hi x hx
theorem closed_app {S U : Store} (h : closedS S = true) (k : Flat U) : closedS (S ++ U) = true := by
  rw [closedS_iff] at h ⊢
  intro i rows' g' f' hi x hx
  rw [List.length_append]
  by_cases e : i < S.length
  · rw [List.getElem?_append_left e] at hi
    have := h i rows' g' f' hi x hx
    omega
  · rw [List.getElem?_append_right (by omega)] at hi
    obtain ⟨r, g, f, e1, e2⟩ := k _ (List.mem_of_getElem? hi)
    cases e1
    rw [e2] at hx; cases hx
theorem kill1_refs (ids : List Nat) (v : PV) : ∀ x ∈ (kill1 ids v).refs, x ∈ v.refs := by
  intro x hx
  unfold kill1 at hx
  split at hx
  · cases hx
  · exact hx
theorem refsL_kill (ids : List Nat) : ∀ l : List PV, ∀ x ∈ refsL (l.map (kill1 ids)), x ∈ refsL l
  | [], x, hx => hx
  | v :: r, x, hx => by
    rw [List.map_cons, refsL_cons] at hx
    rw [refsL_cons]
    rcases List.mem_append.1 hx with h | h
    · exact List.mem_append_left _ (kill1_refs ids v x h)
    · exact List.mem_append_right _ (refsL_kill ids r x h)
theorem rowsRefs_kill (ids : List Nat) : ∀ rows : List (List PV), ∀ x ∈ rowsRefs (rows.map fun r => r.map (kill1 ids)), x ∈ rowsRefs rows
  | [], x, hx => hx
  | v :: r, x, hx => by
    rw [List.map_cons, rowsRefs_cons] at hx
    rw [rowsRefs_cons]
    rcases List.mem_append.1 hx with h | h
    · exact List.mem_append_left _ (refsL_kill ids v x h)
    · exact List.mem_append_right _ (rowsRefs_kill ids r x h)
theorem killRows_refs (ids : List Nat) (rows : List (List PV)) : ∀ x ∈ rowsRefs (killRows ids rows), x ∈ rowsRefs rows := by
  intro x hx
  unfold killRows at hx
  split at hx
  · exact rowsRefs_kill ids rows x hx
  · exact hx
theorem closed_kill {S : Store} (h : closedS S = true) (ids : List Nat) : closedS (S.map (killObj ids)) = true := by
  rw [closedS_iff] at h ⊢
  intro i rows' g' f' hi x hx
  rw [List.length_map]
  rw [List.getElem?_map] at hi
  cases e : S[i]? with
  | none => rw [e] at hi; cases hi
  | some o =>
    rw [e] at hi
    cases o with
    | gone => cases hi
    | arr rows g f =>
      simp only [Option.map_some, killObj_arr, Option.some.injEq, Obj.arr.injEq] at hi
      rw [← hi.1] at hx
      exact h i rows g f e x (killRows_refs ids rows x hx)
theorem closed_gc {S : Store} (h : closedS S = true) (n : Nat) (e : Env) : closedS (Vs.gc n e S) = true := by
  unfold Vs.gc
  split
  case isFalse => exact h
  rename_i hc
  obtain ⟨_, h2⟩ := hc
  rw [List.all_eq_true] at h2
  rw [closedS_iff] at h ⊢
  intro i rows g f hi x hx
  have hl := (List.getElem?_eq_some_iff.1 hi).1
  have hm := h2 _ (List.mem_of_getElem? hi)
  simp only [List.all_eq_true, decide_eq_true_eq] at hm
  have h3 := hm x hx
  have h4 : S[i]? = some (.arr rows g f) := by
    rw [List.getElem?_take] at hi
    split at hi
    · exact hi
    · cases hi
  have h5 := h i rows g f h4 x hx
  rw [List.length_take]
  omega
theorem store_at {ti : TI} {S : Store} {id i sz : Nat} {rows : List (List PV)} {g : Option (Option Nat)} {v : PV} (hk : ti.known = true) (hs : ti.size = sz) (h : S[id]? = some (.arr rows g false)) (hi : i < rows.length) (hr : (rows.getD i []).length = sz) (hv : v.cells.length = sz) (hc : v.cells.all PV.cell = true) : storeE ti S (.mp id i 0) v = some { v := .skip, S := S.set id (.arr (rows.set i v.cells) g false) } := by
  rw [storeE_eq, if_pos hk]
  have : evStore ti.size S (.mp id i 0) v = some (S.set id (.arr (rows.set i v.cells) g false)) := by
    simp only [evStore, h, hs]
    rw [if_pos ⟨hi, by omega, hv, hc⟩, splice_if, if_pos ⟨rfl, by omega⟩]
  rw [this]; rfl
theorem app_tail (S U : Store) : rowsAt (S ++ U) S.length = rowsAt U 0 := rowsAt_tail S U
theorem app_tail1 (S : Store) (o : Obj) (U : Store) : rowsAt (S ++ o :: U) (S.length + 1) = rowsAt U 0 := by
  have : S ++ o :: U = (S ++ [o]) ++ U := by simp
  rw [this]
  have e : S.length + 1 = (S ++ [o]).length := by simp
  rw [e]
  exact rowsAt_tail _ U
theorem app_at {S : Store} {j : Nat} {rows : List (List PV)} {g : Option (Option Nat)} {f : Bool} (h : S[j]? = some (.arr rows g f)) (U : Store) : (S ++ U)[j]? = some (.arr rows g f) := by
  rw [List.getElem?_append_left (List.getElem?_eq_some_iff.1 h).1]; exact h
theorem app_node (S : Store) (n : Node) : storeE (tyi Tryz.prog 30) (S ++ [.arr [[.int .i64 0, .str ⟨#[]⟩, .bool false, .sl [] true, .sl [] true, .sl [] true]] none false]) (.mp S.length 0 0) (.agg n.cells) = some { v := .skip, S := S ++ [.arr [n.cells] none false] } := by
  rw [store_at (sz := 6) (v := .agg n.cells) (i := 0) (id := S.length) (rows := [[.int .i64 0, .str ⟨#[]⟩, .bool false, .sl [] true, .sl [] true, .sl [] true]]) (g := none) known_Nd size_Nd (by simp) (by decide) rfl (Node.cells_length n) (Node.cells_cell n)]
  simp [List.set_append_right, pvcells_agg]
theorem app_node1 (S : Store) (o : Obj) (n : Node) : storeE (tyi Tryz.prog 30) (S ++ [o, .arr [[.int .i64 0, .str ⟨#[]⟩, .bool false, .sl [] true, .sl [] true, .sl [] true]] none false]) (.mp (S.length + 1) 0 0) (.agg n.cells) = some { v := .skip, S := S ++ [o, .arr [n.cells] none false] } := by
  have := app_node (S ++ [o]) n
  simpa using this
end Go.Vs
end
section
set_option linter.unusedVariables false
set_option linter.unusedSimpArgs false
set_option maxRecDepth 100000
namespace Go.Vs
open Go Go.Proofs
inductive OutN (S : Store) : PV → List Node → Prop
  | nil : OutN S (.sl [] true) []
  | arr (id : Nat) (L : List Node) (h3 : 3 ≤ id) (h : S[id]? = some (.arr (Node.rows L) (some (some 6)) false)) : OutN S (.msl id 0 L.length false) L
structure OS (S : Store) (L : List Node) : Prop where
  walk : S[2]? = some (.arr [[.fn 81 [] [.mp 1 0 0, .mp 2 0 0]]] none false)
  out : ∃ v, S[1]? = some (.arr [[v]] none false) ∧ OutN S v L
  closed : closedS S = true
theorem OS.len {S : Store} {L : List Node} (h : OS S L) : 3 ≤ S.length := by
  have := (List.getElem?_eq_some_iff.1 h.walk).1
  omega
theorem OS.ext {S : Store} {L : List Node} (h : OS S L) {U : Store} (hU : Flat U) : OS (S ++ U) L := by
  obtain ⟨v, h1, h2⟩ := h.out
  refine ⟨app_at h.walk U, ⟨v, app_at h1 U, ?_⟩, closed_app h.closed hU⟩
  cases h2 with
  | nil => exact .nil
  | arr id L h3 hh => exact .arr id L h3 (app_at hh U)
theorem OS.gc {S : Store} {L : List Node} (h : OS S L) {n : Nat} (hn : 3 ≤ n) (hl : n ≤ S.length) (e : Env) : OS (Vs.gc n e S) L := by
  obtain ⟨v, h1, h2⟩ := h.out
  obtain ⟨g1, g2⟩ := gc_at (n := n) (e := e) (S := S) hl
  refine ⟨by rw [g2 2 (by omega)]; exact h.walk, ⟨v, by rw [g2 1 (by omega)]; exact h1, ?_⟩, closed_gc h.closed n e⟩
  cases h2 with
  | nil => exact .nil
  | arr id L h3 hh =>
    refine .arr id L h3 ?_
    unfold Vs.gc
    split
    case isFalse => exact hh
    rename_i hc
    obtain ⟨_, hc2⟩ := hc
    rw [List.all_eq_true] at hc2
    have hm : (S.take n)[1]? = some (.arr [[.msl id 0 L.length false]] none false) := by rw [List.getElem?_take_of_lt (by omega)]; exact h1
    have := hc2 _ (List.mem_of_getElem? hm)
    simp only [List.all_eq_true, decide_eq_true_eq] at this
    have hid : id < n := this id (by simp [rowsRefs_cons, refsL_cons, rowsRefs_nil, refsL_nil, refs_msl])
    rw [List.getElem?_take_of_lt hid]
    exact hh
theorem rows_getD (L : List Node) {i : Nat} (h : i < L.length) : (Node.rows L).getD i [] = (L.getD i nd0).cells := by
  rw [Node.rows_eq]; exact enc_get L nd0 h
def AsksG (S : Store) (f : PV) (n : Nat) (p : Nat → Bool) : Prop := ∀ i : Nat, i < n → callMV Tryz.prog hints S f [.int .i64 i] = some { v := .bool (p i), S := S }
section
attribute [local irreducible] Vs.callL Vs.callRL tyi callO callM callMV appendE storeE evLoad indexAddrO sliceO evFieldAddr evField buildO buildSliceO makeSliceO allocO boxed lenO copyE convertO indexO Vs.gc freezeAll
theorem loop_SearchG {S : Store} {f : PV} {n : Nat} {p : Nat → Bool} (hf : AsksG S f n p) (hn : n ≤ 1000000000) : ∀ (m i j : Nat), j - i ≤ m → i ≤ j → j ≤ n → ∃ r, i ≤ r ∧ r ≤ j ∧ loopAt S.length fx82_ 0 56 S.length [.blk 0, .seq 0 15] [(1, f), (5, .int .i64 i), (6, .int .i64 j)] S = some (.int .i64 r, S) := by
  have hg : ∀ e, Vs.gc S.length e S = S := fun e => gc_le (Nat.le_refl _)
  intro m
  induction m with
  | zero =>
    intro i j h1 h2 h4
    have e : i = j := by omega
    have c : ¬ (i : Int) < (j : Int) := by omega
    refine ⟨i, by omega, by omega, ?_⟩
    refine loopAt_step ok82_.good 1000 ?_
    ((repeat ((conv => lhs; whnf); simp only [go_sem, simprocAttr, sem82_, c, hg])); try (conv => lhs; whnf); try rfl)
    refine exit_run ok82_.good 1000 ?_
    ((repeat ((conv => lhs; whnf); simp only [go_sem, simprocAttr, sem82_])); try (conv => lhs; whnf); try rfl)
  | succ m ih =>
    intro i j h1 h2 h4
    by_cases c : i < j
    · have c' : (i : Int) < (j : Int) := by omega
      have w1 : IntKind.i64.wrap ((i : Int) + j) = ((i + j : Nat) : Int) := by rw [IntKind.wrap_i64]; omega
      have w2 : IntKind.u64.wrap ((i + j : Nat) : Int) = ((i + j : Nat) : Int) := by rw [wU64]; omega
      have w3 : ((((i + j : Nat) : Int)).fdiv (2 ^ min 1 64)) = (((i + j) / 2 : Nat) : Int) := by
        show (((i + j : Nat) : Int)).fdiv 2 = _
        rw [Int.fdiv_eq_ediv_of_nonneg _ (by omega)]; omega
      have w4 : IntKind.i64.wrap ((((i + j) / 2 : Nat)) : Int) = (((i + j) / 2 : Nat) : Int) := by rw [IntKind.wrap_i64]; omega
      have ask := hf ((i + j) / 2) (by omega)
      have neg1 : ¬ (1 : Int) < 0 := by omega
      cases hp : p ((i + j) / 2)
      · have w5 : IntKind.i64.wrap ((((i + j) / 2 : Nat) : Int) + 1) = (((i + j) / 2 + 1 : Nat) : Int) := by rw [IntKind.wrap_i64]; omega
        obtain ⟨r, r1, r2, key⟩ := ih ((i + j) / 2 + 1) j (by omega) (by omega) h4
        rw [hp] at ask
        refine ⟨r, by omega, r2, ?_⟩
        refine loopAt_step ok82_.good 1000 ?_
        ((repeat ((conv => lhs; whnf); simp only [go_sem, simprocAttr, sem82_, c', w1, w2, w3, w4, w5, ask, neg1, hg])); try (conv => lhs; whnf); try rfl)
        exact key
      · obtain ⟨r, r1, r2, key⟩ := ih i ((i + j) / 2) (by omega) (by omega) (by omega)
        rw [hp] at ask
        refine ⟨r, r1, by omega, ?_⟩
        refine loopAt_step ok82_.good 1000 ?_
        ((repeat ((conv => lhs; whnf); simp only [go_sem, simprocAttr, sem82_, c', w1, w2, w3, w4, ask, neg1, hg])); try (conv => lhs; whnf); try rfl)
        exact key
    · have c' : ¬ (i : Int) < (j : Int) := by omega
      refine ⟨i, by omega, by omega, ?_⟩
      refine loopAt_step ok82_.good 1000 ?_
      ((repeat ((conv => lhs; whnf); simp only [go_sem, simprocAttr, sem82_, c', hg])); try (conv => lhs; whnf); try rfl)
      refine exit_run ok82_.good 1000 ?_
      ((repeat ((conv => lhs; whnf); simp only [go_sem, simprocAttr, sem82_])); try (conv => lhs; whnf); try rfl)
theorem call_SearchG {S : Store} {f : PV} {n : Nat} {p : Nat → Bool} (hf : AsksG S f n p) (hn : n ≤ 1000000000) : ∃ r, r ≤ n ∧ callRL Tryz.prog hints 82 [.int .i64 n, f] S = some (.int .i64 r, S) := by
  obtain ⟨r, _, h2, key⟩ := loop_SearchG hf hn n 0 n (by omega) (by omega) (Nat.le_refl _)
  refine ⟨r, h2, ?_⟩
  refine FX.callRL (r := (.int .i64 r, S)) ok82_ 1000 rfl rfl ?_
  ((repeat ((conv => lhs; whnf); simp only [go_sem, simprocAttr, sem82_])); try (conv => lhs; whnf); try rfl)
  exact key
noncomputable def fx83_ : FX := ⟨Tryz.f83, hints.of 83, []⟩
theorem ok83_ : fx83_.ok 83 := ⟨by kernel_rfl, of_decide_eq_true (by kernel_rfl), by kernel_rfl, by kernel_rfl, by kernel_rfl, by kernel_rfl⟩
theorem sem83_ (b0 : Nat) (m : Md) (fs : List Fr) (e : Env) (S : Store) : sem b0 fx83_ m fs e S = run b0 fx83_ 1000 m fs e S := (sem_eq _ _ _ _ _ _).trans (run_sem b0 fx83_ ok83_.good 1000 m fs e S).symm
theorem call_pred {S : Store} {id a : Nat} {L : List Node} {s : Node} (h1 : rowsAt S 1 = some [[.msl id 0 L.length false]]) (h2 : rowsAt S id = some (Node.rows L)) (h3 : rowsAt S a = some [s.cells]) (hL : ∀ m ∈ L, m.ok) (hs : s.ok) (i : Nat) (hi : i < L.length) : callRL Tryz.prog hints 83 [.int .i64 i, .mp 1 0 0, .mp a 0 0] S = some (.bool (decide (0 ≤ (L.getD i nd0).cmp s)), S) := by
  have ix := sl_nds.idxm (S := S) (id := id) (off := 0) (n := L.length) (ex := false) (rows := Node.rows L) i h2 (by rw [Node.rows_length]; omega) (Node.rows_ok L) hi
  rw [Nat.zero_add] at ix
  have gd := rows_getD L hi
  have hc := fun S => callN2 S (call_Compare _ (hL _ (kids_mem hi)) s hs)
  refine FX.callRL (r := (.bool (decide (0 ≤ (L.getD i nd0).cmp s)), S)) ok83_ 1000 rfl rfl ?_
  ((repeat ((conv => lhs; whnf); simp only [go_sem, simprocAttr, sem83_, h1, h2, h3, ix, gd, hi, hc])); try (conv => lhs; whnf); try rfl)
end
end Go.Vs
end
section
set_option linter.unusedVariables false
set_option linter.unusedSimpArgs false
set_option maxRecDepth 100000
namespace Go.Vs
open Go Go.Proofs
def zc : List PV := [.int .i64 0, .str ⟨#[]⟩, .bool false, .sl [] true, .sl [] true, .sl [] true]
theorem SlT.appOld {t el : TypeId} {sz bytes : Nat} (h : SlT t el sz bytes) {b : Nat} {S : Store} {id : Nat} {rows new : List (List PV)} {g : Option Nat} {p : PV} (hS : S[id]? = some (.arr rows (some g) false)) (hb : ¬ b ≤ id) (hg : g = none ∨ g = some sz) (hp : RowsV S p new) (h1 : rowsOK sz rows = true) (h2 : rowsOK sz new = true) (h3 : (rows.length + new.length) * bytes ≤ 140737488355328) (h4 : rows.length + new.length ≤ 9223372036854775807) (h5 : (rowsRefs rows ++ rowsRefs new).contains id = false) :
    appendE Tryz.prog b t t S (.msl id 0 rows.length false) p = some { v := .msl S.length 0 (rows.length + new.length) false, S := ((S.map (killObj [id])).set id .gone) ++ [.arr (rows ++ new) (some (some sz)) false], kill := [id] } := by
  have hk := append_known (b := 0) (bytes := bytes) (esz := sz) (ex := false) hS hp.rowsS (Nat.zero_le _) rfl hg h1 h2 h3 h4 h5
  have hl := (List.getElem?_eq_some_iff.1 hS).1
  simp only [evAppend, if_pos (Nat.zero_le _)] at hk
  have e : evAppend b bytes sz S (.msl id 0 rows.length false) p = some { v := .msl S.length 0 (rows.length + new.length) false, S := ((S.map (killObj [id])).set id .gone) ++ [.arr (rows ++ new) (some (some sz)) false], kill := [id] } := by
    simp only [evAppend, if_neg hb, hk, Option.map_some, renewed, List.set_set]
    congr 4
    simp [List.getD_eq_getElem?_getD, hl]
  rw [← e]
  simp only [appendE, exact, Bool.false_eq_true, if_false, h.d, srcT, h.z, and_self, if_true, h.b, h.s]
structure S4ok (S4 : Store) (N : Nat) (n s : Node) (L : List Node) : Prop where
  len : S4.length = N + 4
  n3 : 3 ≤ N
  at1 : ∃ x, S4[1]? = some (.arr [[x]] none false)
  walk : S4[2]? = some (.arr [[.fn 81 [] [.mp 1 0 0, .mp 2 0 0]]] none false)
  atN : S4[N]? = some (.arr [n.cells] none false)
  atS : S4[N + 1]? = some (.arr [s.cells] none false)
  atD : S4[N + 3]? = some (.arr (Node.rows L ++ [zc]) (some (some 6)) false)
  closed : closedS S4 = true
theorem flat3 (n s : Node) : Flat [.arr [n.cells] none false, .arr [s.cells] none false, .arr [zc] (some (some 6)) false] := .cons (node_flat n) (.cons (node_flat s) (.cons rfl .nil))
theorem kill_id {rows : List (List PV)} {ids : List Nat} (h : ∀ r ∈ rowsRefs rows, r ∉ ids) (g : Option (Option Nat)) (f : Bool) : killObj ids (.arr rows g f) = .arr rows g f := by
  rw [killObj_arr, killRows_id h]
theorem app_sym {S : Store} {L : List Node} (h : OS S L) (hl : L.length ≤ 1000000) (n s : Node) {v : PV} (hv : S[1]? = some (.arr [[v]] none false)) (ho : OutN S v L) :
    ∃ S4 ks, appendE Tryz.prog S.length 28 28 (S ++ [.arr [n.cells] none false, .arr [s.cells] none false, .arr [zc] (some (some 6)) false]) v (.msl (S.length + 2) 0 1 true) = some { v := .msl (S.length + 3) 0 (L.length + 1) false, S := S4, kill := ks } ∧ ks = v.refs ∧ S4ok S4 S.length n s L := by
  have hN := h.len
  have hp : RowsV (S ++ [.arr [n.cells] none false, .arr [s.cells] none false, .arr [zc] (some (some 6)) false]) (.msl (S.length + 2) 0 1 true) [zc] := by
    refine RowsV.msl (S.length + 2) [zc] true (some (some 6)) false ?_
    rw [List.getElem?_append_right (by omega)]
    have : S.length + 2 - S.length = 2 := by omega
    rw [this]; rfl
  have hlen : (S ++ [Obj.arr [n.cells] none false, .arr [s.cells] none false, .arr [zc] (some (some 6)) false]).length = S.length + 3 := by simp
  have hcl := closed_app h.closed (flat3 n s)
  cases ho with
  | nil =>
    have ha := sl_nds.appNil S.length (S ++ [.arr [n.cells] none false, .arr [s.cells] none false, .arr [zc] (some (some 6)) false]) hp rfl (by decide) (by decide)
    rw [hlen] at ha
    refine ⟨_, [], ha, rfl, ?_⟩
    simp only [List.append_assoc]
    refine ⟨by simp, hN, ⟨_, app_at hv _⟩, app_at h.walk _, ?_, ?_, ?_, closed_app h.closed (.cons (node_flat n) (.cons (node_flat s) (.cons rfl (.cons rfl .nil))))⟩
    · rw [List.getElem?_append_right (by omega)]; simp
    · rw [List.getElem?_append_right (by omega)]; simp
    · rw [List.getElem?_append_right (by omega)]; simp [Node.rows]
  | arr id L h3 hh =>
    have hid := (List.getElem?_eq_some_iff.1 hh).1
    have ha := sl_nds.appOld (b := S.length) (app_at hh [.arr [n.cells] none false, .arr [s.cells] none false, .arr [zc] (some (some 6)) false]) (by omega) (.inr rfl) hp (Node.rows_ok L) rfl (by rw [Node.rows_length]; simp only [List.length_singleton]; omega) (by rw [Node.rows_length]; simp only [List.length_singleton]; omega) (by rw [Node.rows_refs]; rfl)
    rw [hlen, Node.rows_length] at ha
    refine ⟨_, [id], ha, rfl, ?_⟩
    have look : ∀ (j : Nat) (rows : List (List PV)) (g : Option (Option Nat)) (f : Bool), (S ++ [Obj.arr [n.cells] none false, .arr [s.cells] none false, .arr [zc] (some (some 6)) false])[j]? = some (.arr rows g f) → j ≠ id → j < S.length + 3 →
        (List.set (List.map (killObj [id]) (S ++ [Obj.arr [n.cells] none false, .arr [s.cells] none false, .arr [zc] (some (some 6)) false])) id .gone ++ [Obj.arr (Node.rows L ++ [zc]) (some (some 6)) false])[j]? = some (killObj [id] (.arr rows g f)) := fun j rows g f hj hne hlt => by
      rw [List.getElem?_append_left (by simp; omega), List.getElem?_set_ne (Ne.symm hne), List.getElem?_map, hj]
      rfl
    refine ⟨by simp, hN, ?_, ?_, ?_, ?_, ?_, ?_⟩
    · have := look 1 _ _ _ (app_at hv _) (by omega) (by omega)
      rw [killObj_arr] at this
      refine ⟨kill1 [id] (.msl id 0 L.length false), ?_⟩
      rw [this]
      simp only [killRows_eq, rowsRefs_cons, refsL_cons, refs_msl, refsL_nil, rowsRefs_nil, List.append_nil, List.any_cons, List.any_nil, List.contains_cons, List.contains_nil, beq_self_eq_true, Bool.or_false, if_true, List.map_cons, List.map_nil]
    · rw [look 2 _ _ _ (app_at h.walk _) (by omega) (by omega)]
      rw [kill_id]
      intro r hr
      simp [rowsRefs_cons, refsL_cons, rowsRefs_nil, refsL_nil, PV.refs] at hr
      simp; omega
    · rw [look S.length [n.cells] none false (by rw [List.getElem?_append_right (by omega)]; simp) (by omega) (by omega)]
      rw [kill_id (by rw [node_flat]; intro r hr; cases hr)]
    · rw [look (S.length + 1) [s.cells] none false (by rw [List.getElem?_append_right (by omega)]; simp) (by omega) (by omega)]
      rw [kill_id (by rw [node_flat]; intro r hr; cases hr)]
    · rw [List.getElem?_append_right (by simp)]
      simp
    · exact closed_app (closed_gone (closed_kill hcl _) _) (.cons (by
        have : ∀ a b : List (List PV), rowsRefs (a ++ b) = rowsRefs a ++ rowsRefs b := fun a b => by
          induction a with
          | nil => rfl
          | cons x r ih => simp only [List.cons_append, rowsRefs_cons, ih, List.append_assoc]
        rw [this, Node.rows_refs]; rfl) .nil)
end Go.Vs
end
section
set_option linter.unusedVariables false
set_option linter.unusedSimpArgs false
set_option maxRecDepth 100000
namespace Go.Vs
open Go Go.Proofs
theorem rows_app (a b : List Node) : Node.rows (a ++ b) = Node.rows a ++ Node.rows b := by simp [Node.rows_eq]
theorem rows_drop (l : List Node) (i : Nat) : (Node.rows l).drop i = Node.rows (l.drop i) := by simp [Node.rows_eq, List.map_drop]
theorem ok_app (a b : List (List PV)) : rowsOK 6 (a ++ b) = (rowsOK 6 a && rowsOK 6 b) := by simp [rowsOK]
theorem refs_app (a b : List (List PV)) : rowsRefs (a ++ b) = rowsRefs a ++ rowsRefs b := by
  induction a with
  | nil => rfl
  | cons x r ih => simp only [List.cons_append, rowsRefs_cons, ih, List.append_assoc]
theorem tail_nds {S : Store} {id n : Nat} {rows : List (List PV)} (i : Nat) (h : rowsAt S id = some rows) (hn : n = rows.length) (ho : rowsOK 6 rows = true) (hi : i ≤ n) : sliceO Tryz.prog 28 S (.msl id 0 n false) (some (.int .i64 i)) none none = some (.msl id i (n - i) false) := by
  have b1 : bound 0 (some (.int .i64 (i : Int))) = some i := by simp [bound]
  have b2 : ∀ k, bound k none = some k := fun k => rfl
  simp only [sliceO, sl_nds.el, sl_nds.is, sl_nds.k, sl_nds.s, evSlice, sl_nds.d, h, b1, b2, Option.bind_some]
  simp [ho, hn]
  omega
theorem copy_nds {S : Store} {id n r : Nat} {rows : List (List PV)} {g : Option (Option Nat)} (h : S[id]? = some (.arr rows g false)) (hn : rows.length = n + 1) (ho : rowsOK 6 rows = true) (hr : r ≤ n) : copyE Tryz.prog 28 28 S (.msl id (r + 1) (n - r) false) (.msl id r (n + 1 - r) false) =
    some { v := .int .i64 ((n - r : Nat) : Int), S := S.set id (.arr (rows.take (r + 1) ++ (rows.drop r).take (n - r)) g false) } := by
  have e1 : rowsIn S (.msl id r (n + 1 - r) false) = some (rows.drop r) := by
    rw [rowsIn_msl, rowsAt_of h]
    simp only [Option.bind_some]
    rw [if_pos (by omega)]
    rw [List.take_of_length_le (by rw [List.length_drop]; omega)]
  have e2 : rowsOK 6 (rows.drop r) = true := by
    simp only [rowsOK, List.all_eq_true] at ho ⊢
    intro x hx
    exact ho x (List.mem_of_mem_drop hx)
  have e3 : min (rows.drop r).length (n - r) = n - r := by rw [List.length_drop]; omega
  have e4 : rows.drop (r + 1 + (n - r)) = [] := List.drop_of_length_le (by omega)
  have k : (tyi Tryz.prog 30).known = true := known_Nd
  simp only [copyE, sl_nds.d, sl_nds.k, if_true, sl_nds.s, evCopy, h, e1, Option.bind_some]
  rw [if_pos ⟨by omega, ho, e2⟩, e3, e4, List.append_nil]
theorem ops_sym {S4 : Store} {N : Nat} {n s : Node} {L : List Node} (h : S4ok S4 N n s L) (r : Nat) (hr : r ≤ L.length) : ∃ S5 S6 S7 S8,
    indexAddrO Tryz.prog 28 S4 (.msl (N + 3) 0 (L.length + 1) false) (.int .i64 (L.length : Int)) = some (.mp (N + 3) L.length 0) ∧
    storeE (tyi Tryz.prog 30) S4 (.mp (N + 3) L.length 0) (.agg zc) = some { v := .skip, S := S5 } ∧
    storeE (tyi Tryz.prog 28) S5 (.mp 1 0 0) (.msl (N + 3) 0 (L.length + 1) false) = some { v := .skip, S := S6 } ∧
    rowsAt S6 1 = some [[.msl (N + 3) 0 (L.length + 1) false]] ∧
    sliceO Tryz.prog 28 S6 (.msl (N + 3) 0 (L.length + 1) false) (some (.int .i64 ((r + 1 : Nat) : Int))) none none = some (.msl (N + 3) (r + 1) (L.length - r) false) ∧
    sliceO Tryz.prog 28 S6 (.msl (N + 3) 0 (L.length + 1) false) (some (.int .i64 (r : Int))) none none = some (.msl (N + 3) r (L.length + 1 - r) false) ∧
    copyE Tryz.prog 28 28 S6 (.msl (N + 3) (r + 1) (L.length - r) false) (.msl (N + 3) r (L.length + 1 - r) false) = some { v := .int .i64 ((L.length - r : Nat) : Int), S := S7 } ∧
    rowsAt S7 1 = some [[.msl (N + 3) 0 (L.length + 1) false]] ∧ rowsAt S7 (N + 1) = some [s.cells] ∧
    indexAddrO Tryz.prog 28 S7 (.msl (N + 3) 0 (L.length + 1) false) (.int .i64 (r : Int)) = some (.mp (N + 3) r 0) ∧
    storeE (tyi Tryz.prog 30) S7 (.mp (N + 3) r 0) (.agg s.cells) = some { v := .skip, S := S8 } ∧
    rowsAt S8 N = some [n.cells] ∧ S8.length = N + 4 ∧ OS S8 (L.take r ++ s :: L.drop r) := by
  have n3 := h.n3
  have hlen := h.len
  obtain ⟨x, hx⟩ := h.at1
  have rl : (Node.rows L ++ [zc]).length = L.length + 1 := by rw [List.length_append, Node.rows_length]; rfl
  have ro : rowsOK 6 (Node.rows L ++ [zc]) = true := by rw [ok_app, Node.rows_ok]; rfl
  have gd : (Node.rows L ++ [zc]).getD L.length [] = zc := by
    simp [List.getD_eq_getElem?_getD, List.getElem?_append_right, Node.rows_length]
  have st : (Node.rows L ++ [zc]).set L.length zc = Node.rows L ++ [zc] := by
    have := List.set_append_right (s := Node.rows L) (t := [zc]) (i := L.length) (x := zc) (by rw [Node.rows_length]; exact Nat.le_refl _)
    rw [this, Node.rows_length, Nat.sub_self]; rfl
  have i1 := sl_nds.idxm (S := S4) (id := N + 3) (off := 0) (n := L.length + 1) (ex := false) (rows := Node.rows L ++ [zc]) L.length (rowsAt_of h.atD) (by omega) ro (by omega)
  rw [Nat.zero_add] at i1
  have s5 := store_at (v := .agg zc) (i := L.length) known_Nd size_Nd h.atD (by omega) (by rw [gd]; rfl) rfl rfl
  rw [show PV.cells (.agg zc) = zc from rfl, st] at s5
  have f5 : ∀ (j : Nat) o, S4[j]? = some o → j ≠ N + 3 → (S4.set (N + 3) (.arr (Node.rows L ++ [zc]) (some (some 6)) false))[j]? = some o := fun j o hj hne => by rw [List.getElem?_set_ne (Ne.symm hne)]; exact hj
  have d5 : (S4.set (N + 3) (.arr (Node.rows L ++ [zc]) (some (some 6)) false))[N + 3]? = some (.arr (Node.rows L ++ [zc]) (some (some 6)) false) := by rw [List.getElem?_set_self (by omega)]
  have l5 : (S4.set (N + 3) (.arr (Node.rows L ++ [zc]) (some (some 6)) false)).length = N + 4 := by rw [List.length_set]; exact hlen
  have c5 : closedS (S4.set (N + 3) (.arr (Node.rows L ++ [zc]) (some (some 6)) false)) = true := closed_set h.closed _ (by rw [refs_app, Node.rows_refs]; intro x hx; cases hx)
  obtain ⟨S5, hS5⟩ : ∃ S5, S5 = S4.set (N + 3) (.arr (Node.rows L ++ [zc]) (some (some 6)) false) := ⟨_, rfl⟩
  rw [← hS5] at s5 f5 d5 l5 c5
  have s6 := store_at (S := S5) (id := 1) (i := 0) (rows := [[x]]) (g := none) (v := .msl (N + 3) 0 (L.length + 1) false) known_nds size_nds (f5 1 _ hx (by omega)) (Nat.zero_lt_one) rfl rfl rfl
  have f6 : ∀ (j : Nat) o, S4[j]? = some o → j ≠ N + 3 → j ≠ 1 → (S5.set 1 (.arr ([[x]].set 0 (PV.cells (.msl (N + 3) 0 (L.length + 1) false))) none false))[j]? = some o := fun j o hj hne h1 => by rw [List.getElem?_set_ne (Ne.symm h1)]; exact f5 j o hj hne
  have d6 : (S5.set 1 (.arr ([[x]].set 0 (PV.cells (.msl (N + 3) 0 (L.length + 1) false))) none false))[N + 3]? = some (.arr (Node.rows L ++ [zc]) (some (some 6)) false) := by rw [List.getElem?_set_ne (by omega)]; exact d5
  have b6 : (S5.set 1 (.arr ([[x]].set 0 (PV.cells (.msl (N + 3) 0 (L.length + 1) false))) none false))[1]? = some (.arr [[.msl (N + 3) 0 (L.length + 1) false]] none false) := by rw [List.getElem?_set_self (by omega)]; rfl
  have l6 : (S5.set 1 (.arr ([[x]].set 0 (PV.cells (.msl (N + 3) 0 (L.length + 1) false))) none false)).length = N + 4 := by rw [List.length_set]; exact l5
  have c6 : closedS (S5.set 1 (.arr ([[x]].set 0 (PV.cells (.msl (N + 3) 0 (L.length + 1) false))) none false)) = true := closed_set c5 _ (by
    intro y hy
    simp only [List.set_cons_zero, pvcells_msl, rowsRefs_cons, refsL_cons, refs_msl, refsL_nil, rowsRefs_nil, List.append_nil, List.mem_singleton] at hy
    omega)
  obtain ⟨S6, hS6⟩ : ∃ S6, S6 = S5.set 1 (.arr ([[x]].set 0 (PV.cells (.msl (N + 3) 0 (L.length + 1) false))) none false) := ⟨_, rfl⟩
  rw [← hS6] at s6 f6 d6 b6 l6 c6
  have t1 := tail_nds (S := S6) (id := N + 3) (n := L.length + 1) (r + 1) (rowsAt_of d6) rl.symm ro (by omega)
  have t2 := tail_nds (S := S6) (id := N + 3) (n := L.length + 1) r (rowsAt_of d6) rl.symm ro (by omega)
  have e1 : L.length + 1 - (r + 1) = L.length - r := by omega
  rw [e1] at t1
  have cp := copy_nds (S := S6) (id := N + 3) (n := L.length) (r := r) d6 rl ro hr
  have rows7 : ((Node.rows L ++ [zc]).drop r).take (L.length - r) = Node.rows (L.drop r) := by
    rw [List.drop_append_of_le_length (by rw [Node.rows_length]; exact hr), rows_drop, List.take_append_of_le_length (by rw [Node.rows_length, List.length_drop]; omega), List.take_of_length_le (by rw [Node.rows_length, List.length_drop]; omega)]
  rw [rows7] at cp
  obtain ⟨R7, hR7⟩ : ∃ R7, R7 = (Node.rows L ++ [zc]).take (r + 1) ++ Node.rows (L.drop r) := ⟨_, rfl⟩
  rw [← hR7] at cp
  have tl : ((Node.rows L ++ [zc]).take (r + 1)).length = r + 1 := by rw [List.length_take]; omega
  have r7l : R7.length = L.length + 1 := by rw [hR7, List.length_append, tl, Node.rows_length, List.length_drop]; omega
  have tok : rowsOK 6 ((Node.rows L ++ [zc]).take (r + 1)) = true := by
    simp only [rowsOK, List.all_eq_true] at ro ⊢
    intro y hy
    exact ro y (List.mem_of_mem_take hy)
  have r7o : rowsOK 6 R7 = true := by rw [hR7, ok_app, tok, Node.rows_ok]; rfl
  have tref : ∀ l : List (List PV), rowsRefs l = [] → ∀ k, rowsRefs (l.take k) = [] := fun l => by
    induction l with
    | nil => intro _ k; simp [rowsRefs_nil]
    | cons y l ih =>
      intro hl k
      rw [rowsRefs_cons] at hl
      have h1 := List.append_eq_nil_iff.1 hl
      cases k with
      | zero => rfl
      | succ k => rw [List.take_succ_cons, rowsRefs_cons, h1.1, ih h1.2 k]; rfl
  have r7r : rowsRefs R7 = [] := by
    rw [hR7, refs_app, tref _ (by rw [refs_app, Node.rows_refs]; rfl), Node.rows_refs]; rfl
  have d7 : (S6.set (N + 3) (.arr R7 (some (some 6)) false))[N + 3]? = some (.arr R7 (some (some 6)) false) := by rw [List.getElem?_set_self (by omega)]
  have f7 : ∀ (j : Nat) o, S6[j]? = some o → j ≠ N + 3 → (S6.set (N + 3) (.arr R7 (some (some 6)) false))[j]? = some o := fun j o hj hne => by rw [List.getElem?_set_ne (Ne.symm hne)]; exact hj
  have l7 : (S6.set (N + 3) (.arr R7 (some (some 6)) false)).length = N + 4 := by rw [List.length_set]; exact l6
  have c7 : closedS (S6.set (N + 3) (.arr R7 (some (some 6)) false)) = true := closed_set c6 _ (by rw [r7r]; intro y hy; cases hy)
  obtain ⟨S7, hS7⟩ : ∃ S7, S7 = S6.set (N + 3) (.arr R7 (some (some 6)) false) := ⟨_, rfl⟩
  rw [← hS7] at cp d7 f7 l7 c7
  have i2 := sl_nds.idxm (S := S7) (id := N + 3) (off := 0) (n := L.length + 1) (ex := false) (rows := R7) r (rowsAt_of d7) (by omega) r7o (by omega)
  rw [Nat.zero_add] at i2
  have g7 : (R7.getD r []).length = 6 := by
    have hm : R7.getD r [] ∈ R7 := by
      have : r < R7.length := by omega
      simp [List.getD_eq_getElem?_getD, this]
    simp only [rowsOK, List.all_eq_true, beq_iff_eq] at r7o
    exact r7o _ hm
  have s8 := store_at (v := .agg s.cells) (i := r) known_Nd size_Nd d7 (by omega) g7 (Node.cells_length s) (Node.cells_cell s)
  have rows8 : R7.set r s.cells = Node.rows (L.take r ++ s :: L.drop r) := by
    have tr : ((Node.rows L ++ [zc]).take (r + 1)).set r s.cells = Node.rows (L.take r) ++ [s.cells] := by
      refine List.ext_getElem? fun i => ?_
      rw [List.getElem?_set, tl]
      by_cases hi : r = i
      · subst hi
        rw [if_pos rfl, if_pos (by omega)]
        rw [List.getElem?_append_right (by rw [Node.rows_length, List.length_take]; omega)]
        have : r - (Node.rows (List.take r L)).length = 0 := by rw [Node.rows_length, List.length_take]; omega
        rw [this]; rfl
      · rw [if_neg hi]
        by_cases hlt : i < r
        · rw [List.getElem?_take_of_lt (by omega), List.getElem?_append_left (by rw [Node.rows_length]; omega), List.getElem?_append_left (by rw [Node.rows_length, List.length_take]; omega), ← rows_take, List.getElem?_take_of_lt hlt]
        · rw [List.getElem?_eq_none (by rw [List.length_take]; omega), List.getElem?_eq_none (by rw [List.length_append, Node.rows_length, List.length_take]; simp only [List.length_singleton]; omega)]
    rw [hR7, List.set_append_left _ _ (by omega), tr, rows_app]
    simp [Node.rows]
  rw [show PV.cells (.agg s.cells) = s.cells from rfl, rows8] at s8
  have w7 := f7 2 _ (f6 2 _ h.walk (by omega) (by omega)) (by omega)
  have b7 := f7 1 _ b6 (by omega)
  have n7 := f7 N _ (f6 N _ h.atN (by omega) (by omega)) (by omega)
  have a7 := f7 (N + 1) _ (f6 (N + 1) _ h.atS (by omega) (by omega)) (by omega)
  refine ⟨S5, S6, S7, _, i1, s5, s6, rowsAt_of b6, t1, t2, cp, rowsAt_of b7, rowsAt_of a7, i2, s8, ?_, ?_, ?_, ?_, ?_⟩
  · exact rowsAt_of (by rw [List.getElem?_set_ne (by omega)]; exact n7)
  · rw [List.length_set]; exact l7
  · rw [List.getElem?_set_ne (by omega)]; exact w7
  · refine ⟨_, by rw [List.getElem?_set_ne (by omega)]; exact b7, ?_⟩
    have e : L.length + 1 = (L.take r ++ s :: L.drop r).length := by rw [List.length_append, List.length_cons, List.length_take, List.length_drop]; omega
    rw [e]
    exact .arr (N + 3) _ (by omega) (by rw [List.getElem?_set_self (by omega)])
  · exact closed_set c7 _ (by rw [Node.rows_refs]; intro y hy; cases hy)
end Go.Vs
end
section
set_option linter.unusedVariables false
namespace Go.Vs
open Go Go.Proofs
variable {R : Type}
noncomputable def kindsK (b0 : Nat) (F : FX) : List Oper → Env → Store → (List (Nat × Nat) → Option R) → Option R
  | [], e, S, k => k []
  | o :: r, e, S, k => doK Tryz.prog hints F.h b0 o e S (fun e' S' => kindsK b0 F r e' S' fun q => k ((kind hints o e, touch o e) :: q)) (fun e' S' => kindsK b0 F r e' S' fun q => k ((kind hints o e, touch o e) :: q))
def drawP (ops : Array Oper) (q : List (Nat × Nat)) : Bool :=
  let b := Region.before ops
  (List.range ops.size).all fun j => match ops[j]? with
    | none => true
    | some o => (o.after.all fun e => !Region.binds .any e || decide (e.on < j)) &&
      (List.range j).all fun i => match ops[i]? with
        | none => true
        | some p => (b.getD j 0).testBit i || (swapOK ops (q.getD i (0, 0)).1 (q.getD j (0, 0)).1 p o || (Oper.apart ops p o && farK (q.getD i (0, 0)).1 (q.getD j (0, 0)).1 (q.getD i (0, 0)).2 (q.getD j (0, 0)).2))
theorem drawP_OK {ops : Array Oper} {q : List (Nat × Nat)} (hq : ∀ x ∈ q, x.1 < 8) (h : drawP ops q = true) : drawOK ops (fun j => (q.map fun x => x.1 + 8 * x.2).getD j 0) = true := by
  have hx : ∀ j, (q.map fun x => x.1 + 8 * x.2).getD j 0 % 8 = (q.getD j (0, 0)).1 ∧ (q.map fun x => x.1 + 8 * x.2).getD j 0 / 8 = (q.getD j (0, 0)).2 := fun j => by
    rw [List.getD_eq_getElem?_getD, List.getD_eq_getElem?_getD, List.getElem?_map]
    cases e : q[j]? with
    | none => exact ⟨rfl, rfl⟩
    | some x =>
      have := hq x (List.mem_of_getElem? e)
      simp only [Option.map_some, Option.getD_some]
      omega
  unfold drawP at h
  unfold drawOK
  simp only [(hx _).1, (hx _).2]
  exact h
theorem kindsK_sound (b0 : Nat) (F : FX) (ops : Array Oper) : ∀ (l : List Oper) {e : Env} {S : Store} {k : List (Nat × Nat) → Option R} {z : R}, (∀ o ∈ l, o.guard = none) → kindsK b0 F l e S k = some z → ∃ q, kindsOf (F.C b0) ops l e S = q.map (fun x => x.1 + 8 * x.2) ∧ (∀ x ∈ q, x.1 < 8) ∧ k q = some z
  | [], e, S, k, z, hg, h => ⟨[], rfl, by simp, h⟩
  | o :: r, e, S, k, z, hg, h => by
    rw [kindsK, doK_eq] at h
    have hw : wantedV ops e o = some true := by simp only [wantedV, hg o (by simp)]
    have fin : ∀ (e1 : Env) (S1 : Store), (evOp (ctxL Tryz.prog hints b0 F.h) o.op e S).step o.dst e S = some (e1, S1) → (kindsK b0 F r e1 S1 fun q => k ((kind hints o e, touch o e) :: q)) = some z → ∃ q, kindsOf (F.C b0) ops (o :: r) e S = q.map (fun x => x.1 + 8 * x.2) ∧ (∀ x ∈ q, x.1 < 8) ∧ k q = some z := fun e1 S1 hs hr => by
      have h1 : stepOp (F.C b0) ops o e S = some (e1, S1) := by
        simp only [stepOp, hw, Option.bind_some, if_true]
        exact evOp_spec hs
      obtain ⟨q, q1, q2, q3⟩ := kindsK_sound b0 F ops r (fun o ho => hg o (by simp [ho])) hr
      refine ⟨(kind hints o e, touch o e) :: q, ?_, ?_, q3⟩
      · simp only [kindsOf, h1, q1, List.map_cons]
        rfl
      · intro x hx
        rcases List.mem_cons.1 hx with rfl | hx
        · exact kind_lt hints o e
        · exact q2 x hx
    cases hq : evOp (ctxL Tryz.prog hints b0 F.h) o.op e S with
    | val x =>
      rw [hq] at h
      simp only [orK, bindV_eq, putDK_eq] at h
      obtain ⟨v, h1, h2⟩ := bind_some h
      exact fin _ _ (by rw [hq]; simp only [OR.step, h1, Option.map_some]) h2
    | out x =>
      rw [hq] at h
      simp only [orK, bindV_eq, putDK_eq] at h
      obtain ⟨v, h1, h2⟩ := bind_some h
      exact fin _ _ (by rw [hq]; simp only [OR.step, h1, Option.map_some]) h2
    | eff x =>
      rw [hq] at h
      simp only [orK, bindV_eq, killK_eq, putDK_eq] at h
      obtain ⟨v, h1, h2⟩ := bind_some h
      exact fin _ _ (by rw [hq]; simp only [OR.step, h1, Option.map_some]) h2
    | sto x =>
      rw [hq] at h
      simp only [orK, bindV_eq, putDK_eq] at h
      obtain ⟨v, h1, h2⟩ := bind_some h
      exact fin _ _ (by rw [hq]; simp only [OR.step, h1, Option.map_some]) h2
noncomputable def opsAt (F : FX) (p : Nat) : Array Oper := match sub F.root p with | .region _ ops _ => ops | _ => #[]
noncomputable def isReg (F : FX) (p : Nat) : Bool := match sub F.root p with | .region _ ops _ => ops.toList.all fun o => o.guard.isNone | _ => false
theorem dyn_true {b0 : Nat} {F : FX} {p : Nat} {e : Env} {S : Store} (hr : isReg F p = true) (q : List (Nat × Nat)) (h : kindsK (R := List (Nat × Nat)) b0 F (opsAt F p).toList e S some = some q) (hd : drawP (opsAt F p) q = true) : dynB b0 F p e S = true := by
  rw [dynB_eq]
  unfold dynR
  unfold isReg at hr
  unfold opsAt at h hd
  cases hc : sub F.root p with
  | region id ops d =>
    rw [hc] at hr h hd
    simp only at hr h hd ⊢
    obtain ⟨q', q1, q2, q3⟩ := kindsK_sound b0 F ops ops.toList (fun o ho => by
      have := List.all_eq_true.1 hr o ho
      simpa using this) h
    cases q3
    rw [q1, drawP_OK q2 hd, Bool.or_true]
  | _ => rw [hc] at hr; cases hr
end Go.Vs
end

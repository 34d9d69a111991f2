
import Derived.Test.YtkaeejkajfinhaaGreatMI21
section
set_option linter.unusedVariables false
set_option linter.unusedSimpArgs false
set_option maxRecDepth 100000
namespace Go.Vs
open Go Go.Proofs
theorem app_ints {S S' : Store} {j : Nat} (L : List Int) (x : Int) (g : Option Nat) (hg : g = none ∨ g = some 1) (hl : L.length ≤ 10000000) (ex : Bool)
    (h1 : S[2]? = some (.arr (kRows .i64 L) (some g) false)) (hj : S[j]? = some (.arr [[.int .i64 x]] (some (some 1)) false)) (hS : (S.map (killObj [2])).set 2 (.arr (kRows .i64 (L ++ [x])) (some (some 1)) false) = S') :
    appendE Tryz.prog 0 59 59 S (.msl 2 0 L.length false) (.msl j 0 1 ex) = some { v := .msl 2 0 (L.length + 1) false, S := S', kill := [2] } := by
  have := sl_ints.app (b := 0) (S := S) (id := 2) (rows := kRows .i64 L) (new := kRows .i64 [x]) (g := g) (p := .msl j 0 1 ex) h1 (by decide) hg (RowsV.msl j (kRows .i64 [x]) ex _ _ hj) (kRows_ok _ _) (kRows_ok _ _) (by rw [kRows_length, kRows_length]; simp only [List.length_singleton]; omega) (by rw [kRows_length, kRows_length]; simp; omega) (by rw [kRows_refs]; simp) (by rw [kRows_refs]; simp)
  rw [kRows_length, ← kRows_append, hS] at this
  exact this
theorem rows_take (l : List Node) (i : Nat) : (Node.rows l).take i = Node.rows (l.take i) := by simp [Node.rows_eq, List.map_take]
theorem cut_nds (S : Store) (l : List Node) (i : Nat) (h : i ≤ l.length) : sliceO Tryz.prog 28 S (.sl (Node.rows l) false) none (some (.int .i64 i)) none = some (.sl (Node.rows (l.take i)) false) := by
  have := sl_nds.firsts S (rows := Node.rows l) false i (by rw [Node.rows_length]; exact h) (Node.rows_ok l)
  rw [rows_take] at this
  exact this
def fours (i : Nat) : List Int := List.replicate i 4
theorem fours_length (i : Nat) : (fours i).length = i := by simp [fours]
theorem fours_succ (i : Nat) : fours i ++ [4] = fours (i + 1) := by simp [fours, List.replicate_succ']
section
attribute [local irreducible] Vs.callL Vs.callRL tyi callO callM callMV appendE storeE evLoad indexAddrO sliceO evFieldAddr evField buildO buildSliceO makeSliceO allocO boxed lenO copyE convertO indexO Vs.gc freezeAll
theorem loop5_formed (n : Node) (hn : n.ok) (a b c : Bool) (last i : Nat) (hi : i < n.kids.length) (g : Option Nat) (fs : List Fr) : ∀ (m j : Nat), j + m = i →
    ((((n.kids.take i).drop j).all (otherVar (n.kids.getD i nd0))) = true → ∀ z, exitTo 0 fx78_ 5 fs [(2, .mp 0 0 0), (3, .mp 1 0 0), (6, .msl 2 0 i false), (7, .int .i64 last), (8, .int .i64 i), (9, .undef), (137, .undef), (138, .undef), (139, .undef), (140, .undef)]
        [.arr [n.cells] none false, .arr [[.bool a, .bool b, .bool c]] none false, .arr (kRows .i64 (fours i)) (some g) false, .arr [(n.kids.getD i nd0).cells] none false] = some z →
      loopAt 0 fx78_ 5 131557684 4 fs [(2, .mp 0 0 0), (3, .mp 1 0 0), (6, .msl 2 0 i false), (7, .int .i64 last), (8, .int .i64 i), (9, .mp 3 0 0), (137, .sl (Node.rows (n.kids.take i)) false), (138, .int .i64 i), (139, .int .i64 j)]
        [.arr [n.cells] none false, .arr [[.bool a, .bool b, .bool c]] none false, .arr (kRows .i64 (fours i)) (some g) false, .arr [(n.kids.getD i nd0).cells] none false] = some z) ∧
    ((((n.kids.take i).drop j).all (otherVar (n.kids.getD i nd0))) = false → ∃ S',
      loopAt 0 fx78_ 5 131557684 4 fs [(2, .mp 0 0 0), (3, .mp 1 0 0), (6, .msl 2 0 i false), (7, .int .i64 last), (8, .int .i64 i), (9, .mp 3 0 0), (137, .sl (Node.rows (n.kids.take i)) false), (138, .int .i64 i), (139, .int .i64 j)]
        [.arr [n.cells] none false, .arr [[.bool a, .bool b, .bool c]] none false, .arr (kRows .i64 (fours i)) (some g) false, .arr [(n.kids.getD i nd0).cells] none false] = some (.bool false, S')) := by
  intro m
  induction m with
  | zero =>
    intro j hj
    have h1 : ¬ (j : Int) < (i : Int) := by omega
    have e0 : ((n.kids.take i).drop j) = [] := List.drop_of_length_le (by simp; omega)
    rw [e0]
    refine ⟨fun _ z hz => ?_, fun h => by simp at h⟩
    refine loopAt_step ok78_.good 1000 ?_
    ((repeat ((conv => lhs; whnf); simp only [go_sem, simprocAttr, sem78_, h1])); try (conv => lhs; whnf); try rfl)
    exact hz
  | succ m hm =>
    intro j hj
    have h1 : (j : Int) < (i : Int) := by omega
    have h2 := wrap_succ (i := j) (n := n.kids.length) (by omega) hn.len
    have h3 : 0 ≤ (j : Int) ∧ (j : Int) < ((n.kids.take i).length : Int) := ⟨by omega, by simp; omega⟩
    have hg := getD_take (l := n.kids) (i := i) (j := j) (by omega)
    obtain ⟨k1, k2⟩ := hm (j + 1) (by omega)
    rw [take_drop_cons (l := n.kids) (i := i) (j := j) (by omega) (by omega), List.all_cons]
    generalize hK : n.kids.getD i nd0 = K at *
    unfold otherVar at *
    by_cases hop : K.op = 55
    · cases hnm : (n.kids.getD j nd0).name.toList == K.name.toList
      · simp only [hop, hnm, decide_true, Bool.true_and, Bool.not_false] at k1 k2 ⊢
        refine ⟨fun ha z hz => ?_, fun ha => ?_⟩
        · refine loopAt_step ok78_.good 1000 ?_
          ((repeat ((conv => lhs; whnf); simp only [go_sem, simprocAttr, sem78_, h1, h2, h3, Int.toNat_natCast, hg, hop, hnm])); try (conv => lhs; whnf); try rfl)
          exact k1 ha z hz
        · obtain ⟨S', k⟩ := k2 ha
          refine ⟨S', loopAt_step ok78_.good 1000 ?_⟩
          ((repeat ((conv => lhs; whnf); simp only [go_sem, simprocAttr, sem78_, h1, h2, h3, Int.toNat_natCast, hg, hop, hnm])); try (conv => lhs; whnf); try rfl)
          exact k
      · refine ⟨fun ha => by simp [hop, hnm] at ha, fun _ => ?_⟩
        apply Exists.intro
        refine loopAt_step ok78_.good 1000 ?_
        ((repeat ((conv => lhs; whnf); simp only [go_sem, simprocAttr, sem78_, h1, h2, h3, Int.toNat_natCast, hg, hop, hnm])); try (conv => lhs; whnf); try rfl)
    · simp only [hop, decide_false, Bool.false_and, Bool.not_false, Bool.true_and] at k1 k2 ⊢
      refine ⟨fun ha z hz => ?_, fun ha => ?_⟩
      · refine loopAt_step ok78_.good 1000 ?_
        ((repeat ((conv => lhs; whnf); simp only [go_sem, simprocAttr, sem78_, h1, h2, h3, Int.toNat_natCast, hg, hop])); try (conv => lhs; whnf); try rfl)
        exact k1 ha z hz
      · obtain ⟨S', k⟩ := k2 ha
        refine ⟨S', loopAt_step ok78_.good 1000 ?_⟩
        ((repeat ((conv => lhs; whnf); simp only [go_sem, simprocAttr, sem78_, h1, h2, h3, Int.toNat_natCast, hg, hop])); try (conv => lhs; whnf); try rfl)
        exact k
theorem loop3_formed (n : Node) (hn : n.ok) (hlen : n.kids.length ≤ 100000) (a b c : Bool) (last : Nat) (hlast : last + 1 = n.kids.length) :
    ∀ (m i : Nat), i + m = last → ∀ (g : Option Nat), (g = none ∨ g = some 1) → ∃ g', (g' = none ∨ g' = some 1) ∧
      (flowFrom n.kids last m i = true → ∀ z, exitTo 0 fx78_ 3 [.blk 3, .seq 0 32119, .blk 0, .seq 0 63] [(2, .mp 0 0 0), (3, .mp 1 0 0), (6, .msl 2 0 last false), (7, .undef), (8, .undef), (112, .undef)]
          [.arr [n.cells] none false, .arr [[.bool a, .bool b, .bool c]] none false, .arr (kRows .i64 (fours last)) (some g') false] = some z →
        loopAt 0 fx78_ 3 256948 3 [.blk 3, .seq 0 32119, .blk 0, .seq 0 63] [(2, .mp 0 0 0), (3, .mp 1 0 0), (6, .msl 2 0 i false), (7, .int .i64 last), (8, .int .i64 i)]
          [.arr [n.cells] none false, .arr [[.bool a, .bool b, .bool c]] none false, .arr (kRows .i64 (fours i)) (some g) false] = some z) ∧
      (flowFrom n.kids last m i = false → ∃ S',
        loopAt 0 fx78_ 3 256948 3 [.blk 3, .seq 0 32119, .blk 0, .seq 0 63] [(2, .mp 0 0 0), (3, .mp 1 0 0), (6, .msl 2 0 i false), (7, .int .i64 last), (8, .int .i64 i)]
          [.arr [n.cells] none false, .arr [[.bool a, .bool b, .bool c]] none false, .arr (kRows .i64 (fours i)) (some g) false] = some (.bool false, S')) := by
  intro m
  induction m with
  | zero =>
    intro i hi g hg
    obtain rfl : i = last := by omega
    have h1 : ¬ (i : Int) < (i : Int) := by omega
    refine ⟨g, hg, fun _ z hz => ?_, fun h => by simp [flowFrom] at h⟩
    refine loopAt_step ok78_.good 1000 ?_
    ((repeat ((conv => lhs; whnf); simp only [go_sem, simprocAttr, sem78_, h1])); try (conv => lhs; whnf); try rfl)
    exact hz
  | succ m hm =>
    intro i hi g hg
    have h1 : (i : Int) < (last : Int) := by omega
    have h2 : (i : Int) < (n.kids.length : Int) := by omega
    have h3 : 0 ≤ (i : Int) ∧ (i : Int) < (n.kids.length : Int) := ⟨by omega, h2⟩
    have hM := maxLen_le
    have hnl := hn.len
    have h4 : IntKind.i64.wrap ((last : Int) - 1) = ((last - 1 : Nat) : Int) := by rw [IntKind.wrap_i64]; omega
    have h5 := wrap_succ (i := i) (n := n.kids.length) (by omega) hn.len
    have hsl := fun S => cut_nds S n.kids i (by omega)
    have hlt : (n.kids.take i).length = i := by simp; omega
    obtain ⟨g', hg', k1, k2⟩ := hm (i + 1) (by omega) (some 1) (.inr rfl)
    have L5 := fun fs => loop5_formed n hn a b c last i (by omega) g fs i 0 (by omega)
    have ha := app_ints (S := [.arr [n.cells] none false, .arr [[.bool a, .bool b, .bool c]] none false, .arr (kRows .i64 (fours i)) (some g) false, .arr [(n.kids.getD i nd0).cells] none false, .arr [[.int .i64 4]] (some (some 1)) false]) (j := 4) (fours i) 4 g hg (by rw [fours_length]; omega) true rfl rfl
      (S' := [.arr [n.cells] none false, .arr [[.bool a, .bool b, .bool c]] none false, .arr (kRows .i64 (fours (i + 1))) (some (some 1)) false, .arr [(n.kids.getD i nd0).cells] none false, .arr [[.int .i64 4]] (some (some 1)) false])
      (by simp only [List.map_cons, List.map_nil, killObj_flat (node_flat _), killObj_flat (kRows_refs _ _), killObj_flat (show rowsRefs [[PV.bool a, .bool b, .bool c]] = [] from rfl), killObj_flat (show rowsRefs [[PV.int .i64 4]] = [] from rfl), fours_succ]; rfl)
    rw [fours_length] at ha
    simp only [List.drop_zero] at L5
    have e0 : flowFrom n.kids last (m + 1) i = (flowAt n.kids last i && flowFrom n.kids last m (i + 1)) := rfl
    refine ⟨g', hg', ?_, ?_⟩
    all_goals rw [e0]
    all_goals unfold flowAt
    all_goals generalize hK : n.kids.getD i nd0 = K at *
    · intro hf z hz
      simp only [Bool.and_eq_true] at hf
      obtain ⟨⟨f1, f2⟩, f3⟩ := hf
      have key := k1 f3 z hz
      by_cases c1 : K.op = 55
      · refine loopAt_step ok78_.good 1000 ?_
        ((repeat ((conv => lhs; whnf); simp only [go_sem, simprocAttr, sem78_, h1, h2, h3, h4, Int.toNat_natCast, hK, c1, hsl, hlt])); try (conv => lhs; whnf); try rfl)
        refine (L5 _).1 f2 z ?_
        refine exit_run ok78_.good 1000 ?_
        ((repeat ((conv => lhs; whnf); simp only [go_sem, simprocAttr, sem78_, ha, h5])); try (conv => lhs; whnf); try rfl)
        exact key
      · have c2 : K.op = 56 ∧ i = last - 1 := by simpa [c1] using f1
        have c3 : (i : Int) = ((last - 1 : Nat) : Int) := by omega
        refine loopAt_step ok78_.good 1000 ?_
        ((repeat ((conv => lhs; whnf); simp only [go_sem, simprocAttr, sem78_, h1, h2, h3, h4, Int.toNat_natCast, hK, c2.1, ← c3, hsl, hlt])); try (conv => lhs; whnf); try rfl)
        refine (L5 _).1 f2 z ?_
        refine exit_run ok78_.good 1000 ?_
        ((repeat ((conv => lhs; whnf); simp only [go_sem, simprocAttr, sem78_, ha, h5])); try (conv => lhs; whnf); try rfl)
        exact key
    · intro hf
      by_cases c1 : K.op = 55
      · simp only [c1, decide_true, Bool.true_or, Bool.true_and] at hf
        cases f2 : ((n.kids.take i).all (otherVar K))
        · obtain ⟨S', k⟩ := (L5 _).2 f2
          refine ⟨S', loopAt_step ok78_.good 1000 ?_⟩
          ((repeat ((conv => lhs; whnf); simp only [go_sem, simprocAttr, sem78_, h1, h2, h3, h4, Int.toNat_natCast, hK, c1, hsl, hlt])); try (conv => lhs; whnf); try rfl)
          exact k
        · rw [f2, Bool.true_and] at hf
          obtain ⟨S', k⟩ := k2 hf
          refine ⟨S', loopAt_step ok78_.good 1000 ?_⟩
          ((repeat ((conv => lhs; whnf); simp only [go_sem, simprocAttr, sem78_, h1, h2, h3, h4, Int.toNat_natCast, hK, c1, hsl, hlt])); try (conv => lhs; whnf); try rfl)
          refine (L5 _).1 f2 _ ?_
          refine exit_run ok78_.good 1000 ?_
          ((repeat ((conv => lhs; whnf); simp only [go_sem, simprocAttr, sem78_, ha, h5])); try (conv => lhs; whnf); try rfl)
          exact k
      · by_cases c2 : K.op = 56
        · by_cases c4 : i = last - 1
          · have c3 : (i : Int) = ((last - 1 : Nat) : Int) := by omega
            rw [decide_eq_false c1, decide_eq_true c2, decide_eq_true c4] at hf
            simp only [Bool.and_self, Bool.or_true, Bool.true_and] at hf
            cases f2 : ((n.kids.take i).all (otherVar K))
            · obtain ⟨S', k⟩ := (L5 _).2 f2
              refine ⟨S', loopAt_step ok78_.good 1000 ?_⟩
              ((repeat ((conv => lhs; whnf); simp only [go_sem, simprocAttr, sem78_, h1, h2, h3, h4, Int.toNat_natCast, hK, c2, ← c3, hsl, hlt])); try (conv => lhs; whnf); try rfl)
              exact k
            · rw [f2, Bool.true_and] at hf
              obtain ⟨S', k⟩ := k2 hf
              refine ⟨S', loopAt_step ok78_.good 1000 ?_⟩
              ((repeat ((conv => lhs; whnf); simp only [go_sem, simprocAttr, sem78_, h1, h2, h3, h4, Int.toNat_natCast, hK, c2, ← c3, hsl, hlt])); try (conv => lhs; whnf); try rfl)
              refine (L5 _).1 f2 _ ?_
              refine exit_run ok78_.good 1000 ?_
              ((repeat ((conv => lhs; whnf); simp only [go_sem, simprocAttr, sem78_, ha, h5])); try (conv => lhs; whnf); try rfl)
              exact k
          · have c3 : ¬ (i : Int) = ((last - 1 : Nat) : Int) := by omega
            apply Exists.intro
            refine loopAt_step ok78_.good 1000 ?_
            ((repeat ((conv => lhs; whnf); simp only [go_sem, simprocAttr, sem78_, h1, h2, h3, h4, Int.toNat_natCast, hK, c2, c3])); try (conv => lhs; whnf); try rfl)
        · apply Exists.intro
          refine loopAt_step ok78_.good 1000 ?_
          ((repeat ((conv => lhs; whnf); simp only [go_sem, simprocAttr, sem78_, h1, h2, h3, h4, Int.toNat_natCast, hK, c1, c2])); try (conv => lhs; whnf); try rfl)
end
end Go.Vs
end
section
set_option linter.unusedVariables false
set_option linter.unusedSimpArgs false
set_option maxRecDepth 100000
namespace Go.Vs
open Go Go.Proofs
def KidsF (n : Node) : Prop := ∀ k ∈ n.kids, ∀ a b c, callL Tryz.prog hints 78 [.agg k.cells, .agg (placeCells a b c)] = some (.bool (k.formed a b c))
theorem fin_formed (n : Node) (hn : n.ok) (a b c : Bool) (s : List Int) (h2 : n.kids.length = s.length → (n.op = 8 ∨ n.op = 9) → n.kids.length = 2) (ih : KidsF n) (hl : n.kids.length = s.length) (T : Store) (hT : Flat T) (e : Bool) (he : e = false ∨ s = []) :
    ∃ S', loopAt 0 fx78_ 7 2036 (T.length + 2) [.blk 7, .seq 0 255] [(2, .mp 0 0 0), (3, .mp 1 0 0), (6, .sl (kRows .i64 s) e), (208, .sl (Node.rows n.kids) false), (209, .int .i64 n.kids.length), (210, .int .i64 0)] (f2 n a b c T) = some (.bool (Node.formeds n.kids s a b c && tailOK n.op n.kids), S') :=
  loop_formed n hn a b c s hl.symm e he (h2 hl) (fun k hk => ih k hk a b c) T hT n.kids.length 0 (by omega)
theorem rest_else (n : Node) (a b c : Bool) (h : n.op ≠ 10 ∧ n.op ≠ 37 ∧ n.op ≠ 54 ∧ n.op ≠ 3 ∧ n.op ≠ 12 ∧ n.op ≠ 39) : n.rest a b c = (decide (n.kids.length = (kidSorts n.op).length) && (Node.formeds n.kids (kidSorts n.op) a b c && tailOK n.op n.kids)) := by
  obtain ⟨h1, h2, h3, h4, h5, h6⟩ := h
  have e1 : sortsFor n.op n.kids.length = kidSorts n.op := by simp [sortsFor, h1, h2, h3]
  simp [Node.rest, switchOK, e1, h1, h2, h3, h4, h5, h6]
theorem rest_prime (n : Node) (a b c : Bool) (h : n.op = 3) : n.rest a b c = (!(a || (b || c)) && (decide (n.kids.length = (kidSorts n.op).length) && (Node.formeds n.kids (kidSorts n.op) a b c && tailOK n.op n.kids))) := by
  simp [Node.rest, switchOK, sortsFor, h]
theorem rest_diff (n : Node) (a b c : Bool) (h : n.op = 12) : n.rest a b c = (!(a || c) && (decide (n.kids.length = (kidSorts n.op).length) && (Node.formeds n.kids (kidSorts n.op) true b c && tailOK n.op n.kids))) := by
  simp [Node.rest, switchOK, sortsFor, h]
theorem rest_fdiff (n : Node) (a b c : Bool) (h : n.op = 39) : n.rest a b c = (!c && (decide (n.kids.length = 1) && (n.kids.getD 0 nd0).diff) && (decide (n.kids.length = (kidSorts n.op).length) && (Node.formeds n.kids (kidSorts n.op) a true c && tailOK n.op n.kids))) := by
  simp [Node.rest, switchOK, sortsFor, h]
theorem rest_fun (n : Node) (a b c : Bool) (h : n.op = 10 ∨ n.op = 37) : n.rest a b c = (nameOK n.name && decide (n.kids.length ≤ 1) && (Node.formeds n.kids (List.replicate n.kids.length 1) a b c && tailOK n.op n.kids)) := by
  have e3 : decide (n.op = 12) = false ∧ decide (n.op = 39) = false ∧ decide (n.op = 54) = false := by rcases h with h | h <;> simp [h]
  have : sortsFor n.op n.kids.length = List.replicate n.kids.length 1 := by simp [sortsFor, h]
  simp only [Node.rest, switchOK, if_pos h, this, e3.1, e3.2.1, e3.2.2, Bool.or_false, List.length_replicate, decide_true, Bool.true_and]
theorem rest_flow (n : Node) (a b c : Bool) (h : n.op = 54) : n.rest a b c = (noName n.name && (decide (2 ≤ n.kids.length) && flowOK n.kids) && (decide (n.kids.length = (fours (n.kids.length - 1) ++ [2]).length) && (Node.formeds n.kids (fours (n.kids.length - 1) ++ [2]) a b true && tailOK n.op n.kids))) := by
  simp [Node.rest, switchOK, sortsFor, h, fours]
section
attribute [local irreducible] Vs.callL Vs.callRL tyi callO callM callMV appendE storeE evLoad indexAddrO sliceO evFieldAddr evField buildO buildSliceO makeSliceO allocO boxed lenO copyE convertO indexO Vs.gc freezeAll
theorem formed_named (n : Node) (hn : n.ok) (a b c : Bool) (ih : KidsF n) (h1 : ¬ n.op = 1) (hneg : n.neg = false) (hnum : ¬ 0 < (n.num.length : Int)) (hden : ¬ 0 < (n.den.length : Int)) (hh : hasName n.op = true) (hm : nameOK n.name = true) (h : n.op ≠ 10 ∧ n.op ≠ 37 ∧ n.op ≠ 54 ∧ n.op ≠ 3 ∧ n.op ≠ 12 ∧ n.op ≠ 39) : callL Tryz.prog hints 78 [.agg n.cells, .agg (placeCells a b c)] = some (.bool (n.rest a b c)) := by
  rw [rest_else n a b c h]
  obtain ⟨g1, g2, g3, g4, g5, g6⟩ := h
  unfold placeCells
  by_cases hl : n.kids.length = (kidSorts n.op).length
  · have hq : (n.kids.length : Int) = ((kidSorts n.op).length : Int) := by omega
    obtain ⟨S', k⟩ := fin_formed n hn a b c (kidSorts n.op) (fun hl ho => by rw [hl]; rcases ho with ho | ho <;> rw [ho] <;> rfl) ih hl [] .nil (kidSorts n.op).isEmpty (by cases kidSorts n.op <;> simp)
    rw [decide_eq_true hl, Bool.true_and]
    rw [hq] at k
    have hz : ∀ S, fzPV S (.sl (kRows .i64 (kidSorts n.op)) (kidSorts n.op).isEmpty) = some (.sl (kRows .i64 (kidSorts n.op)) (kidSorts n.op).isEmpty) := fun S => by
      cases kidSorts n.op with
      | nil => rfl
      | cons x r => simp only [List.isEmpty_cons, go_sem]
    apply FX.callB2 ok78_ 1000 rfl rfl
    ((repeat ((conv => lhs; whnf); simp only [go_sem, simprocAttr, sem78_, h1, hneg, hnum, hden, shape_o, kidsV, Name_o, hh, hm, g1, g2, g3, g4, g5, g6, hl, hq, hz])); try (conv => lhs; whnf); try rfl)
    exact k
  · have hq : ¬ (n.kids.length : Int) = ((kidSorts n.op).length : Int) := by omega
    rw [decide_eq_false hl, Bool.false_and]
    apply FX.callB2 ok78_ 1000 rfl rfl
    ((repeat ((conv => lhs; whnf); simp only [go_sem, simprocAttr, sem78_, h1, hneg, hnum, hden, shape_o, kidsV, Name_o, hh, hm, g1, g2, g3, g4, g5, g6, hl, hq])); try (conv => lhs; whnf); try rfl)
theorem formed_bare (n : Node) (hn : n.ok) (a b c : Bool) (ih : KidsF n) (h1 : ¬ n.op = 1) (hneg : n.neg = false) (hnum : ¬ 0 < (n.num.length : Int)) (hden : ¬ 0 < (n.den.length : Int)) (hh : hasName n.op = false) (hm : noName n.name = true) (h : n.op ≠ 10 ∧ n.op ≠ 37 ∧ n.op ≠ 54 ∧ n.op ≠ 3 ∧ n.op ≠ 12 ∧ n.op ≠ 39) : callL Tryz.prog hints 78 [.agg n.cells, .agg (placeCells a b c)] = some (.bool (n.rest a b c)) := by
  rw [rest_else n a b c h]
  obtain ⟨g1, g2, g3, g4, g5, g6⟩ := h
  unfold placeCells noName at *
  by_cases hl : n.kids.length = (kidSorts n.op).length
  · have hq : (n.kids.length : Int) = ((kidSorts n.op).length : Int) := by omega
    obtain ⟨S', k⟩ := fin_formed n hn a b c (kidSorts n.op) (fun hl ho => by rw [hl]; rcases ho with ho | ho <;> rw [ho] <;> rfl) ih hl [] .nil (kidSorts n.op).isEmpty (by cases kidSorts n.op <;> simp)
    rw [decide_eq_true hl, Bool.true_and]
    rw [hq] at k
    have hz : ∀ S, fzPV S (.sl (kRows .i64 (kidSorts n.op)) (kidSorts n.op).isEmpty) = some (.sl (kRows .i64 (kidSorts n.op)) (kidSorts n.op).isEmpty) := fun S => by
      cases kidSorts n.op with
      | nil => rfl
      | cons x r => simp only [List.isEmpty_cons, go_sem]
    apply FX.callB2 ok78_ 1000 rfl rfl
    ((repeat ((conv => lhs; whnf); simp only [go_sem, simprocAttr, sem78_, h1, hneg, hnum, hden, shape_o, kidsV, Name_o, hh, hm, g1, g2, g3, g4, g5, g6, hl, hq, hz])); try (conv => lhs; whnf); try rfl)
    exact k
  · have hq : ¬ (n.kids.length : Int) = ((kidSorts n.op).length : Int) := by omega
    rw [decide_eq_false hl, Bool.false_and]
    apply FX.callB2 ok78_ 1000 rfl rfl
    ((repeat ((conv => lhs; whnf); simp only [go_sem, simprocAttr, sem78_, h1, hneg, hnum, hden, shape_o, kidsV, Name_o, hh, hm, g1, g2, g3, g4, g5, g6, hl, hq])); try (conv => lhs; whnf); try rfl)
theorem formed_prime (n : Node) (hn : n.ok) (a b c : Bool) (ih : KidsF n) (hneg : n.neg = false) (hnum : ¬ 0 < (n.num.length : Int)) (hden : ¬ 0 < (n.den.length : Int)) (hm : nameOK n.name = true) (h : n.op = 3) : callL Tryz.prog hints 78 [.agg n.cells, .agg (placeCells a b c)] = some (.bool (n.rest a b c)) := by
  rw [rest_prime n a b c h]
  have hh : hasName 3 = true := rfl
  have hk : kidSorts 3 = [] := rfl
  rw [h, hk]
  have k7 := fun a b c hl => fin_formed n hn a b c [] (fun _ ho => by rw [h] at ho; omega) ih hl [] .nil true (.inr rfl)
  rw [h] at k7
  unfold placeCells
  cases a
  · cases b
    · cases c
      · by_cases hl : n.kids.length = 0
        · have hq : (n.kids.length : Int) = 0 := by omega
          obtain ⟨S', k⟩ := k7 false false false (by rw [hl]; rfl)
          rw [hq] at k
          simp only [hl, List.length_nil, List.length_cons, Nat.zero_add, decide_true, Bool.true_and, Bool.or_false, Bool.or_self, Bool.not_false, Bool.or_true]
          apply FX.callB2 ok78_ 1000 rfl rfl
          ((repeat ((conv => lhs; whnf); simp only [go_sem, simprocAttr, sem78_, hneg, hnum, hden, Int.reduceEq, List.isEmpty_nil, List.isEmpty_cons, kRows_nil, kRows_cons, shape_o, kidsV, Name_o, h, hh, hk, hm, hl, hq])); try (conv => lhs; whnf); try rfl)
          exact k
        · have hq : ¬ (n.kids.length : Int) = 0 := by omega
          have hr : ¬ (n.kids.length : Int) = ((0 : Nat) : Int) := by omega
          simp only [hl, List.length_nil, List.length_cons, Nat.zero_add, decide_false, Bool.false_and, Bool.and_false]
          apply FX.callB2 ok78_ 1000 rfl rfl
          ((repeat ((conv => lhs; whnf); simp only [go_sem, simprocAttr, sem78_, hneg, hnum, hden, Int.reduceEq, List.isEmpty_nil, List.isEmpty_cons, kRows_nil, kRows_cons, shape_o, kidsV, Name_o, h, hh, hk, hm, hl, hq, hr])); try (conv => lhs; whnf); try rfl)
      · apply FX.callB2 ok78_ 1000 rfl rfl
        ((repeat ((conv => lhs; whnf); simp only [go_sem, simprocAttr, sem78_, hneg, hnum, hden, Int.reduceEq, List.isEmpty_nil, List.isEmpty_cons, kRows_nil, kRows_cons, shape_o, kidsV, Name_o, h, hh, hk, hm])); try (conv => lhs; whnf); try rfl)
    · apply FX.callB2 ok78_ 1000 rfl rfl
      ((repeat ((conv => lhs; whnf); simp only [go_sem, simprocAttr, sem78_, hneg, hnum, hden, Int.reduceEq, List.isEmpty_nil, List.isEmpty_cons, kRows_nil, kRows_cons, shape_o, kidsV, Name_o, h, hh, hk, hm])); try (conv => lhs; whnf); try rfl)
  · apply FX.callB2 ok78_ 1000 rfl rfl
    ((repeat ((conv => lhs; whnf); simp only [go_sem, simprocAttr, sem78_, hneg, hnum, hden, Int.reduceEq, List.isEmpty_nil, List.isEmpty_cons, kRows_nil, kRows_cons, shape_o, kidsV, Name_o, h, hh, hk, hm])); try (conv => lhs; whnf); try rfl)
theorem formed_num (n : Node) (hn : n.ok) (a b c : Bool) (ih : KidsF n) (hnat : natOK n.neg n.num n.den = true) (hm : noName n.name = true) (h : n.op = 1) : callL Tryz.prog hints 78 [.agg n.cells, .agg (placeCells a b c)] = some (.bool (n.rest a b c)) := by
  rw [rest_else n a b c (by omega)]
  have hh : hasName 1 = false := rfl
  have hk : kidSorts 1 = [] := rfl
  rw [h, hk]
  have k7 := fun a b c hl => fin_formed n hn a b c [] (fun _ ho => by rw [h] at ho; omega) ih hl [] .nil true (.inr rfl)
  rw [h] at k7
  have cn := fun S => natural_o S n hn
  rw [hnat] at cn
  unfold placeCells noName at *
  by_cases hl : n.kids.length = 0
  · have hq : (n.kids.length : Int) = 0 := by omega
    obtain ⟨S', k⟩ := k7 a b c (by rw [hl]; rfl)
    rw [hq] at k
    simp only [hl, List.length_nil, List.length_cons, Nat.zero_add, decide_true, Bool.true_and, Bool.or_false, Bool.or_self, Bool.not_false, Bool.or_true]
    apply FX.callB2 ok78_ 1000 rfl rfl
    ((repeat ((conv => lhs; whnf); simp only [go_sem, simprocAttr, sem78_, cn, Int.reduceEq, List.isEmpty_nil, List.isEmpty_cons, kRows_nil, kRows_cons, shape_o, kidsV, Name_o, h, hh, hk, hm, hl, hq])); try (conv => lhs; whnf); try rfl)
    exact k
  · have hq : ¬ (n.kids.length : Int) = 0 := by omega
    have hr : ¬ (n.kids.length : Int) = ((0 : Nat) : Int) := by omega
    simp only [hl, List.length_nil, List.length_cons, Nat.zero_add, decide_false, Bool.false_and, Bool.and_false]
    apply FX.callB2 ok78_ 1000 rfl rfl
    ((repeat ((conv => lhs; whnf); simp only [go_sem, simprocAttr, sem78_, cn, Int.reduceEq, List.isEmpty_nil, List.isEmpty_cons, kRows_nil, kRows_cons, shape_o, kidsV, Name_o, h, hh, hk, hm, hl, hq, hr])); try (conv => lhs; whnf); try rfl)
theorem formed_diff (n : Node) (hn : n.ok) (a b c : Bool) (ih : KidsF n) (hneg : n.neg = false) (hnum : ¬ 0 < (n.num.length : Int)) (hden : ¬ 0 < (n.den.length : Int)) (hm : noName n.name = true) (h : n.op = 12) : callL Tryz.prog hints 78 [.agg n.cells, .agg (placeCells a b c)] = some (.bool (n.rest a b c)) := by
  rw [rest_diff n a b c h]
  have hh : hasName 12 = false := rfl
  have hk : kidSorts 12 = [1] := rfl
  rw [h, hk]
  have k7 := fun a b c hl => fin_formed n hn a b c [1] (fun _ ho => by rw [h] at ho; omega) ih hl [] .nil false (.inl rfl)
  rw [h] at k7
  unfold placeCells noName at *
  cases a
  · cases c
    · by_cases hl : n.kids.length = 1
      · have hq : (n.kids.length : Int) = 1 := by omega
        obtain ⟨S', k⟩ := k7 true b false (by rw [hl]; rfl)
        rw [hq] at k
        simp only [hl, List.length_nil, List.length_cons, Nat.zero_add, decide_true, Bool.true_and, Bool.or_false, Bool.or_self, Bool.not_false, Bool.or_true]
        apply FX.callB2 ok78_ 1000 rfl rfl
        ((repeat ((conv => lhs; whnf); simp only [go_sem, simprocAttr, sem78_, hneg, hnum, hden, Int.reduceEq, List.isEmpty_nil, List.isEmpty_cons, kRows_nil, kRows_cons, shape_o, kidsV, Name_o, h, hh, hk, hm, hl, hq])); try (conv => lhs; whnf); try rfl)
        exact k
      · have hq : ¬ (n.kids.length : Int) = 1 := by omega
        have hr : ¬ (n.kids.length : Int) = ((1 : Nat) : Int) := by omega
        simp only [hl, List.length_nil, List.length_cons, Nat.zero_add, decide_false, Bool.false_and, Bool.and_false]
        apply FX.callB2 ok78_ 1000 rfl rfl
        ((repeat ((conv => lhs; whnf); simp only [go_sem, simprocAttr, sem78_, hneg, hnum, hden, Int.reduceEq, List.isEmpty_nil, List.isEmpty_cons, kRows_nil, kRows_cons, shape_o, kidsV, Name_o, h, hh, hk, hm, hl, hq, hr])); try (conv => lhs; whnf); try rfl)
    · apply FX.callB2 ok78_ 1000 rfl rfl
      ((repeat ((conv => lhs; whnf); simp only [go_sem, simprocAttr, sem78_, hneg, hnum, hden, Int.reduceEq, List.isEmpty_nil, List.isEmpty_cons, kRows_nil, kRows_cons, shape_o, kidsV, Name_o, h, hh, hk, hm])); try (conv => lhs; whnf); try rfl)
  · apply FX.callB2 ok78_ 1000 rfl rfl
    ((repeat ((conv => lhs; whnf); simp only [go_sem, simprocAttr, sem78_, hneg, hnum, hden, Int.reduceEq, List.isEmpty_nil, List.isEmpty_cons, kRows_nil, kRows_cons, shape_o, kidsV, Name_o, h, hh, hk, hm])); try (conv => lhs; whnf); try rfl)
theorem formed_fdiff (n : Node) (hn : n.ok) (a b c : Bool) (ih : KidsF n) (hneg : n.neg = false) (hnum : ¬ 0 < (n.num.length : Int)) (hden : ¬ 0 < (n.den.length : Int)) (hm : noName n.name = true) (h : n.op = 39) : callL Tryz.prog hints 78 [.agg n.cells, .agg (placeCells a b c)] = some (.bool (n.rest a b c)) := by
  rw [rest_fdiff n a b c h]
  have hh : hasName 39 = false := rfl
  have hk : kidSorts 39 = [2] := rfl
  rw [h, hk]
  have k7 := fun a b c hl => fin_formed n hn a b c [2] (fun _ ho => by rw [h] at ho; omega) ih hl [] .nil false (.inl rfl)
  rw [h] at k7
  unfold placeCells noName at *
  cases c
  · by_cases hl : n.kids.length = 1
    · have hq : (n.kids.length : Int) = 1 := by omega
      have h5 := fun S => diffable_o S _ (hn.kids _ (kids_mem (l := n.kids) (i := 0) (by omega)))
      obtain ⟨S', k⟩ := k7 a true false (by rw [hl]; rfl)
      rw [hq] at k
      simp only [hl, List.length_nil, List.length_cons, Nat.zero_add, decide_true, Bool.true_and, Bool.not_false]
      cases hd : (n.kids.getD 0 nd0).diff
      · rw [hd] at h5
        rw [Bool.false_and]
        apply FX.callB2 ok78_ 1000 rfl rfl
        ((repeat ((conv => lhs; whnf); simp only [go_sem, simprocAttr, sem78_, hneg, hnum, hden, Int.reduceEq, List.isEmpty_nil, List.isEmpty_cons, kRows_nil, kRows_cons, shape_o, kidsV, Name_o, h, hh, hk, hm, hl, hq, h5, Int.toNat_zero])); try (conv => lhs; whnf); try rfl)
      · rw [hd] at h5
        rw [Bool.true_and]
        apply FX.callB2 ok78_ 1000 rfl rfl
        ((repeat ((conv => lhs; whnf); simp only [go_sem, simprocAttr, sem78_, hneg, hnum, hden, Int.reduceEq, List.isEmpty_nil, List.isEmpty_cons, kRows_nil, kRows_cons, shape_o, kidsV, Name_o, h, hh, hk, hm, hl, hq, h5, Int.toNat_zero])); try (conv => lhs; whnf); try rfl)
        exact k
    · have hq : ¬ (n.kids.length : Int) = 1 := by omega
      simp only [hl, decide_false, Bool.false_and, Bool.and_false]
      apply FX.callB2 ok78_ 1000 rfl rfl
      ((repeat ((conv => lhs; whnf); simp only [go_sem, simprocAttr, sem78_, hneg, hnum, hden, Int.reduceEq, List.isEmpty_nil, List.isEmpty_cons, kRows_nil, kRows_cons, shape_o, kidsV, Name_o, h, hh, hk, hm, hl, hq])); try (conv => lhs; whnf); try rfl)
  · apply FX.callB2 ok78_ 1000 rfl rfl
    ((repeat ((conv => lhs; whnf); simp only [go_sem, simprocAttr, sem78_, hneg, hnum, hden, Int.reduceEq, List.isEmpty_nil, List.isEmpty_cons, kRows_nil, kRows_cons, shape_o, kidsV, Name_o, h, hh, hk, hm])); try (conv => lhs; whnf); try rfl)
end
end Go.Vs
end
section
set_option linter.unusedVariables false
set_option linter.unusedSimpArgs false
set_option maxRecDepth 100000
namespace Go.Vs
open Go Go.Proofs
section
attribute [local irreducible] Vs.callL Vs.callRL tyi callO callM callMV appendE storeE evLoad indexAddrO sliceO evFieldAddr evField buildO buildSliceO makeSliceO allocO boxed lenO copyE convertO indexO Vs.gc freezeAll
theorem fun_exit (n : Node) (hn : n.ok) (a b c : Bool) (ih : KidsF n) (L : List Int) (g : Option (Option Nat)) (hL : n.kids.length = L.length) (ho : n.op ≠ 8 ∧ n.op ≠ 9) : ∃ S', loopAt 0 fx78_ 1 16044 3 [.blk 1, .blk 0, .seq 0 63] [(2, .mp 0 0 0), (3, .mp 1 0 0), (6, .msl 2 0 L.length false), (88, .int .i64 L.length), (89, .int .i64 L.length)] [.arr [n.cells] none false, .arr [[.bool a, .bool b, .bool c]] none false, .arr (kRows .i64 L) g false] = some (.bool (Node.formeds n.kids L a b c && tailOK n.op n.kids), S') := by
  have h1 : ¬ (L.length : Int) < (L.length : Int) := by omega
  obtain ⟨S', k⟩ := fin_formed n hn a b c L (fun _ h => by omega) ih hL [.arr (kRows .i64 L) g true] (.cons (kRows_refs _ _) .nil) false (.inl rfl)
  have hz := kRows_fzV (S := [.arr [n.cells] none false, .arr [[.bool a, .bool b, .bool c]] none false, .arr (kRows .i64 L) g false]) (id := 2) (n := L.length) (k := .i64) (L := L) (ex := false) rfl rfl
  rw [hL] at k
  refine ⟨S', loopAt_step ok78_.good 1000 ?_⟩
  ((repeat ((conv => lhs; whnf); simp only [go_sem, simprocAttr, sem78_, h1])); try (conv => lhs; whnf); try rfl)
  refine exit_run ok78_.good 1000 ?_
  ((repeat ((conv => lhs; whnf); simp only [go_sem, simprocAttr, sem78_, hL, hz])); try (conv => lhs; whnf); try rfl)
  exact k
theorem formed_fun_t (n : Node) (hn : n.ok) (a b c : Bool) (ih : KidsF n) (hneg : n.neg = false) (hnum : ¬ 0 < (n.num.length : Int)) (hden : ¬ 0 < (n.den.length : Int)) (hq : (n.name.toList == (⟨#[]⟩ : ByteArray).toList) = true) (op : Int) (hop : op = 10 ∨ op = 37) (h : n.op = op) : callL Tryz.prog hints 78 [.agg n.cells, .agg (placeCells a b c)] = some (.bool (n.rest a b c)) := by
  rw [rest_fun n a b c (by rw [h]; exact hop)]
  have ho : n.op ≠ 8 ∧ n.op ≠ 9 := by omega
  have hh : hasName op = false := by rcases hop with h | h <;> rw [h] <;> rfl
  have hk : kidSorts op = [] := by rcases hop with h | h <;> rw [h] <;> rfl
  have g1 : ¬ op = 1 := by omega
  unfold placeCells
  cases hm : nameOK n.name
  · rw [Bool.false_and, Bool.false_and]
    apply FX.callB2 ok78_ 1000 rfl rfl
    rcases hop with rfl | rfl
    · ((repeat ((conv => lhs; whnf); simp only [go_sem, simprocAttr, sem78_, hq, h, hneg, hnum, hden, shape_o, kidsV, Name_o, hh, hk, hm, List.isEmpty_nil, kRows_nil, Int.reduceEq])); try (conv => lhs; whnf); try rfl)
    · ((repeat ((conv => lhs; whnf); simp only [go_sem, simprocAttr, sem78_, hq, h, hneg, hnum, hden, shape_o, kidsV, Name_o, hh, hk, hm, List.isEmpty_nil, kRows_nil, Int.reduceEq])); try (conv => lhs; whnf); try rfl)
  by_cases hl : n.kids.length ≤ 1
  case neg =>
    have hl1 : 1 < (n.kids.length : Int) := by omega
    rw [decide_eq_false hl, Bool.and_false, Bool.false_and]
    apply FX.callB2 ok78_ 1000 rfl rfl
    rcases hop with rfl | rfl
    · ((repeat ((conv => lhs; whnf); simp only [go_sem, simprocAttr, sem78_, hq, h, hneg, hnum, hden, shape_o, kidsV, Name_o, hh, hk, hm, List.isEmpty_nil, kRows_nil, Int.reduceEq, hl1])); try (conv => lhs; whnf); try rfl)
    · ((repeat ((conv => lhs; whnf); simp only [go_sem, simprocAttr, sem78_, hq, h, hneg, hnum, hden, shape_o, kidsV, Name_o, hh, hk, hm, List.isEmpty_nil, kRows_nil, Int.reduceEq, hl1])); try (conv => lhs; whnf); try rfl)
  rw [decide_eq_true hl, Bool.and_self, Bool.true_and]
  by_cases h0 : n.kids.length = 0
  · obtain ⟨S', k⟩ := fun_exit n hn a b c ih [] (some none) h0 ho
    have h0' : (n.kids.length : Int) = 0 := by omega
    rw [h0]
    apply FX.callB2 ok78_ 1000 rfl rfl
    rcases hop with rfl | rfl
    · ((repeat ((conv => lhs; whnf); simp only [go_sem, simprocAttr, sem78_, hq, h, hneg, hnum, hden, shape_o, kidsV, Name_o, hh, hk, hm, List.isEmpty_nil, kRows_nil, Int.reduceEq, h0', Int.reduceLT])); try (conv => lhs; whnf); try rfl)
      rw [h] at k
      exact k
    · ((repeat ((conv => lhs; whnf); simp only [go_sem, simprocAttr, sem78_, hq, h, hneg, hnum, hden, shape_o, kidsV, Name_o, hh, hk, hm, List.isEmpty_nil, kRows_nil, Int.reduceEq, h0', Int.reduceLT])); try (conv => lhs; whnf); try rfl)
      rw [h] at k
      exact k
  · have h1 : n.kids.length = 1 := by omega
    have h1' : (n.kids.length : Int) = 1 := by omega
    obtain ⟨S', k⟩ := fun_exit n hn a b c ih [1] (some (some 1)) h1 ho
    have ha := app_ints (S := [.arr [n.cells] none false, .arr [[.bool a, .bool b, .bool c]] none false, .arr (kRows .i64 []) (some none) false, .arr [[.int .i64 1]] (some (some 1)) false]) (j := 3) [] 1 none (.inl rfl) (by decide) true rfl rfl
      (S' := [.arr [n.cells] none false, .arr [[.bool a, .bool b, .bool c]] none false, .arr (kRows .i64 [1]) (some (some 1)) false, .arr [[.int .i64 1]] (some (some 1)) false])
      (by simp only [List.map_cons, List.map_nil, killObj_flat (node_flat _), killObj_flat (kRows_refs _ _), killObj_flat (show rowsRefs [[PV.bool a, .bool b, .bool c]] = [] from rfl), killObj_flat (show rowsRefs [[PV.int .i64 1]] = [] from rfl)]; rfl)
    have L1 : loopAt 0 fx78_ 1 16044 3 [.blk 1, .blk 0, .seq 0 63] [(2, .mp 0 0 0), (3, .mp 1 0 0), (6, .msl 2 0 0 false), (88, .int .i64 1), (89, .int .i64 0)] [.arr [n.cells] none false, .arr [[.bool a, .bool b, .bool c]] none false, .arr [] (some none) false] = some (.bool (Node.formeds n.kids [1] a b c && tailOK n.op n.kids), S') := by
      have c1 : (0 : Int) < 1 := by decide
      have w1 : IntKind.i64.wrap (0 + 1) = 1 := by rfl
      refine loopAt_step ok78_.good 1000 ?_
      simp only [kRows_nil, List.length_nil] at ha
      ((repeat ((conv => lhs; whnf); simp only [go_sem, simprocAttr, sem78_, c1, w1, ha])); try (conv => lhs; whnf); try rfl)
      exact k
    rw [h1]
    apply FX.callB2 ok78_ 1000 rfl rfl
    rcases hop with rfl | rfl
    · ((repeat ((conv => lhs; whnf); simp only [go_sem, simprocAttr, sem78_, hq, h, hneg, hnum, hden, shape_o, kidsV, Name_o, hh, hk, hm, List.isEmpty_nil, kRows_nil, Int.reduceEq, h1', Int.reduceLT])); try (conv => lhs; whnf); try rfl)
      rw [h] at L1
      exact L1
    · ((repeat ((conv => lhs; whnf); simp only [go_sem, simprocAttr, sem78_, hq, h, hneg, hnum, hden, shape_o, kidsV, Name_o, hh, hk, hm, List.isEmpty_nil, kRows_nil, Int.reduceEq, h1', Int.reduceLT])); try (conv => lhs; whnf); try rfl)
      rw [h] at L1
      exact L1
theorem formed_fun_f (n : Node) (hn : n.ok) (a b c : Bool) (ih : KidsF n) (hneg : n.neg = false) (hnum : ¬ 0 < (n.num.length : Int)) (hden : ¬ 0 < (n.den.length : Int)) (hq : (n.name.toList == (⟨#[]⟩ : ByteArray).toList) = false) (op : Int) (hop : op = 10 ∨ op = 37) (h : n.op = op) : callL Tryz.prog hints 78 [.agg n.cells, .agg (placeCells a b c)] = some (.bool (n.rest a b c)) := by
  rw [rest_fun n a b c (by rw [h]; exact hop)]
  have ho : n.op ≠ 8 ∧ n.op ≠ 9 := by omega
  have hh : hasName op = false := by rcases hop with h | h <;> rw [h] <;> rfl
  have hk : kidSorts op = [] := by rcases hop with h | h <;> rw [h] <;> rfl
  have g1 : ¬ op = 1 := by omega
  unfold placeCells
  cases hm : nameOK n.name
  · rw [Bool.false_and, Bool.false_and]
    apply FX.callB2 ok78_ 1000 rfl rfl
    rcases hop with rfl | rfl
    · ((repeat ((conv => lhs; whnf); simp only [go_sem, simprocAttr, sem78_, hq, h, hneg, hnum, hden, shape_o, kidsV, Name_o, hh, hk, hm, List.isEmpty_nil, kRows_nil, Int.reduceEq])); try (conv => lhs; whnf); try rfl)
    · ((repeat ((conv => lhs; whnf); simp only [go_sem, simprocAttr, sem78_, hq, h, hneg, hnum, hden, shape_o, kidsV, Name_o, hh, hk, hm, List.isEmpty_nil, kRows_nil, Int.reduceEq])); try (conv => lhs; whnf); try rfl)
  by_cases hl : n.kids.length ≤ 1
  case neg =>
    have hl1 : 1 < (n.kids.length : Int) := by omega
    rw [decide_eq_false hl, Bool.and_false, Bool.false_and]
    apply FX.callB2 ok78_ 1000 rfl rfl
    rcases hop with rfl | rfl
    · ((repeat ((conv => lhs; whnf); simp only [go_sem, simprocAttr, sem78_, hq, h, hneg, hnum, hden, shape_o, kidsV, Name_o, hh, hk, hm, List.isEmpty_nil, kRows_nil, Int.reduceEq, hl1])); try (conv => lhs; whnf); try rfl)
    · ((repeat ((conv => lhs; whnf); simp only [go_sem, simprocAttr, sem78_, hq, h, hneg, hnum, hden, shape_o, kidsV, Name_o, hh, hk, hm, List.isEmpty_nil, kRows_nil, Int.reduceEq, hl1])); try (conv => lhs; whnf); try rfl)
  rw [decide_eq_true hl, Bool.and_self, Bool.true_and]
  by_cases h0 : n.kids.length = 0
  · obtain ⟨S', k⟩ := fun_exit n hn a b c ih [] (some none) h0 ho
    have h0' : (n.kids.length : Int) = 0 := by omega
    rw [h0]
    apply FX.callB2 ok78_ 1000 rfl rfl
    rcases hop with rfl | rfl
    · ((repeat ((conv => lhs; whnf); simp only [go_sem, simprocAttr, sem78_, hq, h, hneg, hnum, hden, shape_o, kidsV, Name_o, hh, hk, hm, List.isEmpty_nil, kRows_nil, Int.reduceEq, h0', Int.reduceLT])); try (conv => lhs; whnf); try rfl)
      rw [h] at k
      exact k
    · ((repeat ((conv => lhs; whnf); simp only [go_sem, simprocAttr, sem78_, hq, h, hneg, hnum, hden, shape_o, kidsV, Name_o, hh, hk, hm, List.isEmpty_nil, kRows_nil, Int.reduceEq, h0', Int.reduceLT])); try (conv => lhs; whnf); try rfl)
      rw [h] at k
      exact k
  · have h1 : n.kids.length = 1 := by omega
    have h1' : (n.kids.length : Int) = 1 := by omega
    obtain ⟨S', k⟩ := fun_exit n hn a b c ih [1] (some (some 1)) h1 ho
    have ha := app_ints (S := [.arr [n.cells] none false, .arr [[.bool a, .bool b, .bool c]] none false, .arr (kRows .i64 []) (some none) false, .arr [[.int .i64 1]] (some (some 1)) false]) (j := 3) [] 1 none (.inl rfl) (by decide) true rfl rfl
      (S' := [.arr [n.cells] none false, .arr [[.bool a, .bool b, .bool c]] none false, .arr (kRows .i64 [1]) (some (some 1)) false, .arr [[.int .i64 1]] (some (some 1)) false])
      (by simp only [List.map_cons, List.map_nil, killObj_flat (node_flat _), killObj_flat (kRows_refs _ _), killObj_flat (show rowsRefs [[PV.bool a, .bool b, .bool c]] = [] from rfl), killObj_flat (show rowsRefs [[PV.int .i64 1]] = [] from rfl)]; rfl)
    have L1 : loopAt 0 fx78_ 1 16044 3 [.blk 1, .blk 0, .seq 0 63] [(2, .mp 0 0 0), (3, .mp 1 0 0), (6, .msl 2 0 0 false), (88, .int .i64 1), (89, .int .i64 0)] [.arr [n.cells] none false, .arr [[.bool a, .bool b, .bool c]] none false, .arr [] (some none) false] = some (.bool (Node.formeds n.kids [1] a b c && tailOK n.op n.kids), S') := by
      have c1 : (0 : Int) < 1 := by decide
      have w1 : IntKind.i64.wrap (0 + 1) = 1 := by rfl
      refine loopAt_step ok78_.good 1000 ?_
      simp only [kRows_nil, List.length_nil] at ha
      ((repeat ((conv => lhs; whnf); simp only [go_sem, simprocAttr, sem78_, c1, w1, ha])); try (conv => lhs; whnf); try rfl)
      exact k
    rw [h1]
    apply FX.callB2 ok78_ 1000 rfl rfl
    rcases hop with rfl | rfl
    · ((repeat ((conv => lhs; whnf); simp only [go_sem, simprocAttr, sem78_, hq, h, hneg, hnum, hden, shape_o, kidsV, Name_o, hh, hk, hm, List.isEmpty_nil, kRows_nil, Int.reduceEq, h1', Int.reduceLT])); try (conv => lhs; whnf); try rfl)
      rw [h] at L1
      exact L1
    · ((repeat ((conv => lhs; whnf); simp only [go_sem, simprocAttr, sem78_, hq, h, hneg, hnum, hden, shape_o, kidsV, Name_o, hh, hk, hm, List.isEmpty_nil, kRows_nil, Int.reduceEq, h1', Int.reduceLT])); try (conv => lhs; whnf); try rfl)
      rw [h] at L1
      exact L1
theorem formed_fun (n : Node) (hn : n.ok) (a b c : Bool) (ih : KidsF n) (hneg : n.neg = false) (hnum : ¬ 0 < (n.num.length : Int)) (hden : ¬ 0 < (n.den.length : Int)) (op : Int) (hop : op = 10 ∨ op = 37) (h : n.op = op) : callL Tryz.prog hints 78 [.agg n.cells, .agg (placeCells a b c)] = some (.bool (n.rest a b c)) := by
  cases hq : (n.name.toList == (⟨#[]⟩ : ByteArray).toList)
  · exact formed_fun_f n hn a b c ih hneg hnum hden hq op hop h
  · exact formed_fun_t n hn a b c ih hneg hnum hden hq op hop h
theorem flow_exit (n : Node) (hn : n.ok) (hlen : n.kids.length ≤ 100000) (a b c : Bool) (ih : KidsF n) (last : Nat) (hlast : last + 1 = n.kids.length) (g : Option Nat) (hg : g = none ∨ g = some 1) (h : n.op = 54) : ∃ S', exitTo 0 fx78_ 3 [.blk 3, .seq 0 32119, .blk 0, .seq 0 63] [(2, .mp 0 0 0), (3, .mp 1 0 0), (6, .msl 2 0 last false), (7, .undef), (8, .undef), (112, .undef)]
          [.arr [n.cells] none false, .arr [[.bool a, .bool b, .bool c]] none false, .arr (kRows .i64 (fours last)) (some g) false] = some (.bool (Node.formeds n.kids (fours last ++ [2]) a b true && tailOK n.op n.kids), S') := by
  have hL : n.kids.length = (fours last ++ [2]).length := by rw [List.length_append, fours_length]; simpa using hlast.symm
  have hL' : (n.kids.length : Int) = ((last + 1 : Nat) : Int) := by omega
  obtain ⟨S', k⟩ := fin_formed n hn a b true (fours last ++ [2]) (fun _ h => by omega) ih hL [.arr (kRows .i64 (fours last ++ [2])) (some (some 1)) true, .arr [[.int .i64 2]] (some (some 1)) false] (.cons (kRows_refs _ _) (.cons rfl .nil)) false (.inl rfl)
  have ha := app_ints (S := [.arr [n.cells] none false, .arr [[.bool a, .bool b, .bool c]] none false, .arr (kRows .i64 (fours last)) (some g) false, .arr [[.int .i64 2]] (some (some 1)) false]) (j := 3) (fours last) 2 g hg (by rw [fours_length]; omega) true rfl rfl
    (S' := [.arr [n.cells] none false, .arr [[.bool a, .bool b, .bool c]] none false, .arr (kRows .i64 (fours last ++ [2])) (some (some 1)) false, .arr [[.int .i64 2]] (some (some 1)) false])
    (by simp only [List.map_cons, List.map_nil, killObj_flat (node_flat _), killObj_flat (kRows_refs _ _), killObj_flat (show rowsRefs [[PV.bool a, .bool b, .bool c]] = [] from rfl), killObj_flat (show rowsRefs [[PV.int .i64 2]] = [] from rfl)]; rfl)
  rw [fours_length] at ha
  have hz := kRows_fzV (S := [.arr [n.cells] none false, .arr [[.bool a, .bool b, .bool true]] none false, .arr (kRows .i64 (fours last ++ [2])) (some (some 1)) false, .arr [[.int .i64 2]] (some (some 1)) false]) (id := 2) (n := last + 1) (k := .i64) (L := fours last ++ [2]) (ex := false) rfl (by rw [← hL]; exact hlast.symm)
  rw [hL'] at k
  refine ⟨S', exit_run ok78_.good 1000 ?_⟩
  ((repeat ((conv => lhs; whnf); simp only [go_sem, simprocAttr, sem78_, ha, hL', hz])); try (conv => lhs; whnf); try rfl)
  exact k
theorem formed_flw (n : Node) (hn : n.ok) (hlen : n.kids.length ≤ 100000) (a b c : Bool) (ih : KidsF n) (hneg : n.neg = false) (hnum : ¬ 0 < (n.num.length : Int)) (hden : ¬ 0 < (n.den.length : Int)) (hm : noName n.name = true) (h : n.op = 54) : callL Tryz.prog hints 78 [.agg n.cells, .agg (placeCells a b c)] = some (.bool (n.rest a b c)) := by
  rw [rest_flow n a b c h, hm, Bool.true_and]
  have hh : hasName 54 = false := rfl
  have hk : kidSorts 54 = [] := rfl
  have hM := maxLen_le
  have hnl := hn.len
  unfold placeCells noName at *
  by_cases hl : 2 ≤ n.kids.length
  case neg =>
    have hl' : (n.kids.length : Int) < 2 := by omega
    rw [decide_eq_false hl, Bool.false_and, Bool.false_and]
    apply FX.callB2 ok78_ 1000 rfl rfl
    ((repeat ((conv => lhs; whnf); simp only [go_sem, simprocAttr, sem78_, h, hneg, hnum, hden, shape_o, kidsV, hh, hk, hm, List.isEmpty_nil, kRows_nil, Int.reduceEq, hl'])); try (conv => lhs; whnf); try rfl)
  · have hl' : ¬ (n.kids.length : Int) < 2 := by omega
    obtain ⟨last, hlast⟩ : ∃ last, last + 1 = n.kids.length := ⟨n.kids.length - 1, by omega⟩
    have hlast' : n.kids.length - 1 = last := by omega
    have hw : IntKind.i64.wrap ((n.kids.length : Int) - 1) = (last : Int) := by rw [IntKind.wrap_i64]; omega
    have hd : n.kids.length = (fours last ++ [2]).length := by rw [List.length_append, fours_length]; simpa using hlast.symm
    obtain ⟨g, hg, k1, k2⟩ := loop3_formed n hn hlen a b c last hlast last 0 (by omega) none (.inl rfl)
    unfold flowOK
    rw [hlast', decide_eq_true hl, decide_eq_true hd, Bool.true_and, Bool.true_and]
    cases f : flowFrom n.kids last last 0
    · obtain ⟨S', k⟩ := k2 f
      rw [Bool.false_and]
      apply FX.callB2 ok78_ 1000 rfl rfl
      ((repeat ((conv => lhs; whnf); simp only [go_sem, simprocAttr, sem78_, h, hneg, hnum, hden, shape_o, kidsV, hh, hk, hm, List.isEmpty_nil, kRows_nil, Int.reduceEq, hl', hw])); try (conv => lhs; whnf); try rfl)
      exact k
    · obtain ⟨S', k⟩ := flow_exit n hn hlen a b c ih last hlast g hg h
      have k' := k1 f _ k
      rw [Bool.true_and]
      apply FX.callB2 ok78_ 1000 rfl rfl
      ((repeat ((conv => lhs; whnf); simp only [go_sem, simprocAttr, sem78_, h, hneg, hnum, hden, shape_o, kidsV, hh, hk, hm, List.isEmpty_nil, kRows_nil, Int.reduceEq, hl', hw])); try (conv => lhs; whnf); try rfl)
      rw [h] at k'
      exact k'
theorem call_formed : ∀ n : Node, n.ok → n.count ≤ 100000 → ∀ a b c, callL Tryz.prog hints 78 [.agg n.cells, .agg (placeCells a b c)] = some (.bool (n.formed a b c)) := by
  refine Node.ind' fun n ih0 hn hc a b c => ?_
  have hck := count_kids n
  have ih : KidsF n := fun k hk => ih0 k hk (hn.kids k hk) (by have := counts_le _ k hk; omega)
  have hlen : n.kids.length ≤ 100000 := by have := counts_len n.kids; omega
  rw [formed_head]
  cases hH : headOK n.op n.name n.neg n.num n.den
  · rw [Bool.false_and]
    unfold headOK at hH
    by_cases h1 : n.op = 1
    · have cn := fun S => natural_o S n hn
      rw [if_pos h1] at hH
      cases hnat : natOK n.neg n.num n.den
      · rw [hnat] at cn
        unfold placeCells
        apply FX.callB2 ok78_ 1000 rfl rfl
        ((repeat ((conv => lhs; whnf); simp only [go_sem, simprocAttr, sem78_, h1, cn])); try (conv => lhs; whnf); try rfl)
      · rw [hnat] at cn hH
        have hh : hasName 1 = false := rfl
        cases hm : noName n.name
        · unfold placeCells noName at *
          apply FX.callB2 ok78_ 1000 rfl rfl
          ((repeat ((conv => lhs; whnf); simp only [go_sem, simprocAttr, sem78_, h1, cn, shape_o, hh, hm, Int.reduceEq])); try (conv => lhs; whnf); try rfl)
        · simp [h1, hh, hm] at hH
    · rw [if_neg h1] at hH
      cases hneg : n.neg
      · by_cases hnum : n.num.length = 0
        · have hnum' : ¬ 0 < (n.num.length : Int) := by omega
          by_cases hden : n.den.length = 0
          · have hden' : ¬ 0 < (n.den.length : Int) := by omega
            cases hh : hasName n.op
            · cases hm : noName n.name
              · by_cases h10 : n.op = 10
                · rw [h10] at hH hh; simp [hneg, hnum, hden, hh, hm] at hH
                by_cases h37 : n.op = 37
                · rw [h37] at hH hh; simp [hneg, hnum, hden, hh, hm] at hH
                unfold placeCells noName at *
                apply FX.callB2 ok78_ 1000 rfl rfl
                ((repeat ((conv => lhs; whnf); simp only [go_sem, simprocAttr, sem78_, h1, hneg, hnum', hden', shape_o, hh, hm, h10, h37])); try (conv => lhs; whnf); try rfl)
              · simp [hneg, hnum, hden, hh, hm] at hH
            · cases hm : nameOK n.name
              · unfold placeCells
                apply FX.callB2 ok78_ 1000 rfl rfl
                ((repeat ((conv => lhs; whnf); simp only [go_sem, simprocAttr, sem78_, h1, hneg, hnum', hden', shape_o, hh, Name_o, hm])); try (conv => lhs; whnf); try rfl)
              · simp [hneg, hnum, hden, hh, hm] at hH
          · have hden' : 0 < (n.den.length : Int) := by omega
            unfold placeCells
            apply FX.callB2 ok78_ 1000 rfl rfl
            ((repeat ((conv => lhs; whnf); simp only [go_sem, simprocAttr, sem78_, h1, hneg, hnum', hden'])); try (conv => lhs; whnf); try rfl)
        · have hnum' : 0 < (n.num.length : Int) := by omega
          unfold placeCells
          apply FX.callB2 ok78_ 1000 rfl rfl
          ((repeat ((conv => lhs; whnf); simp only [go_sem, simprocAttr, sem78_, h1, hneg, hnum'])); try (conv => lhs; whnf); try rfl)
      · unfold placeCells
        apply FX.callB2 ok78_ 1000 rfl rfl
        ((repeat ((conv => lhs; whnf); simp only [go_sem, simprocAttr, sem78_, h1, hneg])); try (conv => lhs; whnf); try rfl)
  · rw [Bool.true_and]
    unfold headOK at hH
    by_cases h1 : n.op = 1
    · have hh : hasName 1 = false := rfl
      rw [if_pos h1] at hH
      have hnat : natOK n.neg n.num n.den = true := by
        cases e : natOK n.neg n.num n.den
        · rw [e] at hH; simp at hH
        · rfl
      have hm : noName n.name = true := by
        cases e : noName n.name
        · simp [h1, hh, e] at hH
        · rfl
      exact formed_num n hn a b c ih hnat hm h1
    · rw [if_neg h1] at hH
      simp only [Bool.and_eq_true, Bool.not_eq_true', decide_eq_true_eq] at hH
      obtain ⟨⟨hneg, hnum0, hden0⟩, hnm⟩ := hH
      have hnum : ¬ 0 < (n.num.length : Int) := by omega
      have hden : ¬ 0 < (n.den.length : Int) := by omega
      by_cases h10 : n.op = 10
      · exact formed_fun n hn a b c ih hneg hnum hden 10 (.inl rfl) h10
      by_cases h37 : n.op = 37
      · exact formed_fun n hn a b c ih hneg hnum hden 37 (.inr rfl) h37
      have nn : hasName n.op = false → noName n.name = true := fun hh => by
        cases e : noName n.name
        · simp [hh, e, h10, h37] at hnm
        · rfl
      have nm : hasName n.op = true → nameOK n.name = true := fun hh => by
        cases e : nameOK n.name
        · simp [hh, e] at hnm
        · rfl
      by_cases h54 : n.op = 54
      · exact formed_flw n hn hlen a b c ih hneg hnum hden (nn (by rw [h54]; rfl)) h54
      by_cases h3 : n.op = 3
      · exact formed_prime n hn a b c ih hneg hnum hden (nm (by rw [h3]; rfl)) h3
      by_cases h12 : n.op = 12
      · exact formed_diff n hn a b c ih hneg hnum hden (nn (by rw [h12]; rfl)) h12
      by_cases h39 : n.op = 39
      · exact formed_fdiff n hn a b c ih hneg hnum hden (nn (by rw [h39]; rfl)) h39
      cases hh : hasName n.op
      · exact formed_bare n hn a b c ih h1 hneg hnum hden hh (nn hh) ⟨h10, h37, h54, h3, h12, h39⟩
      · exact formed_named n hn a b c ih h1 hneg hnum hden hh (nm hh) ⟨h10, h37, h54, h3, h12, h39⟩
end
end Go.Vs
end

/- The reference's natural numbers: Split, Words. -/

import Derived.Test.YtkaeejkajfinhaaGreatMS19
section
set_option linter.unusedVariables false
set_option linter.unusedSimpArgs false
set_option maxRecDepth 100000
namespace Go.Vs
open Go Go.Proofs
theorem fz_tup {S : Store} {vs : List PV} (h : ∀ v ∈ vs, fzPV1 S v = some v) : fzPV S (.tup vs) = some (.tup vs) := by
  show (mapO (fzPV1 S) vs).map PV.tup = _
  rw [mapO_all (g := fun v => v) h]
  simp
theorem fz1_sl (S : Store) (r : List (List PV)) : fzPV1 S (.sl r false) = some (.sl r false) := fzPV_sl S r
theorem set_rep {L : List Int} {i m : Nat} (v : Int) (hi : i = m) : (List.replicate (m + 1) (0 : Int) ++ L).set i v = List.replicate m 0 ++ (v :: L) := by
  subst hi
  rw [List.replicate_succ', List.append_assoc, List.set_append, if_neg (by simp)]
  simp
section
attribute [local irreducible] Vs.callL Vs.callRL tyi callO callM callMV appendE storeE evLoad indexAddrO sliceO evFieldAddr evField buildO buildSliceO makeSliceO allocO boxed lenO copyE convertO indexO Vs.gc freezeAll
noncomputable def fx_isochroneref01_Split : FX := ⟨Tryz.f120, hints.of 120, []⟩
theorem ok_isochroneref01_Split : fx_isochroneref01_Split.ok 120 := ⟨by kernel_rfl, of_decide_eq_true (by kernel_rfl), by kernel_rfl, by kernel_rfl, by kernel_rfl, by kernel_rfl⟩
theorem sem_isochroneref01_Split (b0 : Nat) (m : Md) (fs : List Fr) (e : Env) (S : Store) : sem b0 fx_isochroneref01_Split m fs e S = run b0 fx_isochroneref01_Split 1000 m fs e S := (sem_eq _ _ _ _ _ _).trans (run_sem b0 fx_isochroneref01_Split ok_isochroneref01_Split.good 1000 m fs e S).symm
theorem loop_Split (A : List Int) (e : Bool) (hA : OkD DB A) (hl : A.length ≤ 1000000) (k : Int) (hk : 1 ≤ k ∧ k ≤ 65536) (fs : List Fr) {z : PV × Store} (hz : exitTo 0 fx_isochroneref01_Split 0 fs [(0, .undef), (1, .undef), (6, .msl 0 0 A.length true), (7, .int .i64 (splitR DB k A)), (8, .undef), (16, .undef)] [.arr (kRows .i64 (splitF DB k A)) (some (some 1)) false] = some z) :
    ∀ (i : Nat), i ≤ A.length → loopAt 0 fx_isochroneref01_Split 0 244 1 fs [(0, .sl (kRows .i64 A) e), (1, .int .i64 k), (6, .msl 0 0 A.length true), (7, .int .i64 (splitR DB k (A.drop i))), (8, .int .i64 ((i : Int) - 1))] [.arr (kRows .i64 (List.replicate i 0 ++ splitF DB k (A.drop i))) (some (some 1)) false] = some z := by
  intro i
  induction i with
  | zero =>
    intro hi
    rw [List.drop_zero, List.replicate_zero, List.nil_append]
    refine loopAt_step ok_isochroneref01_Split.good 1000 ?_
    ((repeat ((conv => lhs; whnf); simp only [go_sem, ↓reduceIte, Nat.reduceEqDiff, Nat.reduceBEq, Nat.reduceAdd, Nat.reduceMul, Nat.reduceSub, Nat.reduceLT, Nat.reduceLeDiff, reduceCtorEq, Int.reduceToNat, Int.reduceLE, Int.reduceLT, Int.reduceEq, sem_isochroneref01_Split])); try (conv => lhs; whnf); try rfl)
    exact hz
  | succ i ih =>
    intro hi
    have key := ih (by omega)
    have ed := list_at A (k := i) (by omega)
    have ha := hA.getD (by decide) i
    have ha' : A.getD i 0 < 10000 := ha.2
    have hr := splitR_lt (b := DB) (k := k) (by omega) (A.drop (i + 1))
    have eR : splitR DB k (A.drop i) = (splitR DB k (A.drop (i + 1)) * 10000 + A.getD i 0) % k := by rw [ed]; rfl
    have eF : splitF DB k (A.drop i) = (splitR DB k (A.drop (i + 1)) * 10000 + A.getD i 0) / k :: splitF DB k (A.drop (i + 1)) := by rw [ed]; rfl
    rw [eR, eF] at key
    have hfl : (splitF DB k (A.drop (i + 1))).length = A.length - (i + 1) := by rw [splitF_len]; simp
    generalize splitR DB k (A.drop (i + 1)) = R at *
    generalize splitF DB k (A.drop (i + 1)) = F at *
    have x1 : 0 ≤ ((i + 1 : Nat) : Int) - 1 ∧ ((i + 1 : Nat) : Int) - 1 < (A.length : Int) := ⟨by omega, by omega⟩
    have h0 : (0 : Int) ≤ ((i + 1 : Nat) : Int) - 1 := by omega
    have ti : (((i + 1 : Nat) : Int) - 1).toNat = i := by omega
    have ei : ((i + 1 : Nat) : Int) - 1 = (i : Int) := by omega
    have w1 : IntKind.i64.wrap ((i : Int) - 1) = (i : Int) - 1 := by rw [IntKind.wrap_i64]; omega
    have w2 : IntKind.i64.wrap (R * 10000) = R * 10000 := by rw [IntKind.wrap_i64]; omega
    have w3 : IntKind.i64.wrap (R * 10000 + A.getD i 0) = R * 10000 + A.getD i 0 := by rw [IntKind.wrap_i64]; omega
    have hT : 0 ≤ R * 10000 + A.getD i 0 ∧ R * 10000 + A.getD i 0 < 700000000 := by omega
    have kne : ¬ k = 0 := by omega
    have hq0 : 0 ≤ (R * 10000 + A.getD i 0) / k := Int.ediv_nonneg (by omega) (by omega)
    have hq1 : (R * 10000 + A.getD i 0) / k ≤ R * 10000 + A.getD i 0 := Int.ediv_le_self _ (by omega)
    have td : IntKind.i64.wrap ((R * 10000 + A.getD i 0).tdiv k) = (R * 10000 + A.getD i 0) / k := by
      rw [Int.tdiv_eq_ediv_of_nonneg (by omega), IntKind.wrap_i64]; omega
    have tm : (R * 10000 + A.getD i 0).tmod k = (R * 10000 + A.getD i 0) % k := Int.tmod_eq_emod_of_nonneg (by omega)
    have xm := sl_nat.idxmk .i64 (S := [.arr (kRows .i64 (List.replicate (i + 1) 0 ++ F)) (some (some 1)) false]) (id := 0) (off := 0) (n := A.length) (ex := true) (L := List.replicate (i + 1) 0 ++ F) i rfl (by simp; omega) (by omega)
    have len : i < (List.replicate (i + 1) (0 : Int) ++ F).length := by simp; omega
    have len1 : ((kRows .i64 (List.replicate (i + 1) 0 ++ F)).getD i []).length = 1 := by rw [kRows_get _ _ len]; rfl
    have set : ∀ v : Int, (kRows .i64 (List.replicate (i + 1) 0 ++ F)).set i [.int .i64 v] = kRows .i64 (List.replicate i 0 ++ (v :: F)) := fun v => by rw [kRows_set, set_rep v rfl]
    rw [ei] at *
    have x1' : 0 ≤ (i : Int) ∧ (i : Int) < (A.length : Int) := ⟨by omega, by omega⟩
    refine loopAt_step ok_isochroneref01_Split.good 1000 ?_
    ((repeat ((conv => lhs; whnf); simp only [go_sem, ↓reduceIte, Nat.reduceEqDiff, Nat.reduceBEq, Nat.reduceAdd, Nat.reduceMul, Nat.reduceSub, Nat.reduceLT, Nat.reduceLeDiff, reduceCtorEq, Int.reduceToNat, Int.reduceLE, Int.reduceLT, Int.reduceEq, sem_isochroneref01_Split, x1', h0, Int.toNat_natCast, w1, w2, w3, td, tm, kne, xm, len, len1, set, kRows_length, kRows_refs])); try (conv => lhs; whnf); try rfl)
    exact key
theorem call_Split (n : Nat) (e : Bool) (k : Nat) (hk : 1 ≤ k ∧ k ≤ 65536) (hn : (dec n).length ≤ 1000000) : callL Tryz.prog hints 120 [natE n e, .int .i64 k] = some (.tup [natV (n / k), .int .i64 (n % k : Nat)]) := by
  have hM := maxLen_big
  have hv := split_val DB k (dec n)
  have hr := splitR_lt (b := DB) (k := k) (by omega) (dec n)
  have hF := splitF_ok (b := DB) (k := k) (by omega) (dec n) (dec_ok n)
  have hFl := splitF_len DB k (dec n)
  rw [dec_val] at hv
  have hF0 := valD_nonneg hF
  obtain ⟨R, hR⟩ : ∃ R : Nat, splitR DB k (dec n) = R := ⟨(splitR DB k (dec n)).toNat, by omega⟩
  obtain ⟨Q, hQ⟩ : ∃ Q : Nat, valD DB (splitF DB k (dec n)) = Q := ⟨(valD DB (splitF DB k (dec n))).toNat, by omega⟩
  rw [hR] at hv hr
  rw [hQ] at hv
  have hnat : n = k * Q + R := by
    have : ((k * Q + R : Nat) : Int) = (k : Int) * Q + R := by rw [Int.natCast_add, Int.natCast_mul]
    omega
  have hRk : R < k := by omega
  have hq : n / k = Q := by rw [hnat, Nat.mul_add_div (by omega), Nat.div_eq_of_lt hRk, Nat.add_zero]
  have hm : n % k = R := by rw [hnat, Nat.mul_add_mod, Nat.mod_eq_of_lt hRk]
  have ct := call_trim_ok (by omega) hF
  rw [hQ, Int.toNat_natCast] at ct
  have c1 := callO_msl (S := [.arr (kRows .i64 (splitF DB k (dec n))) (some (some 1)) false]) (id := 0) (n := (dec n).length) (ex := true) ct rfl hFl (by simp)
  have mk := fun id => make_nat id (dec n).length (by omega)
  have w1 : IntKind.i64.wrap (((dec n).length : Int) - 1) = ((dec n).length : Int) - 1 := by rw [IntKind.wrap_i64]; omega
  have key := loop_Split (dec n) e (dec_ok n) hn k ⟨by omega, by omega⟩ [.blk 0, .seq 0 31] (z := (.tup [natV Q, .int .i64 R], [.arr (kRows .i64 (splitF DB k (dec n))) (some (some 1)) true])) (by
    rw [hR]
    refine exit_run ok_isochroneref01_Split.good 1000 ?_
    ((repeat ((conv => lhs; whnf); simp only [go_sem, ↓reduceIte, Nat.reduceEqDiff, Nat.reduceBEq, Nat.reduceAdd, Nat.reduceMul, Nat.reduceSub, Nat.reduceLT, Nat.reduceLeDiff, reduceCtorEq, Int.reduceToNat, Int.reduceLE, Int.reduceLT, Int.reduceEq, sem_isochroneref01_Split, c1])); try (conv => lhs; whnf); try rfl)) (dec n).length (Nat.le_refl _)
  rw [List.drop_length] at key
  have e0 : splitF DB k [] = [] := rfl
  have e1 : splitR DB k [] = 0 := rfl
  rw [e0, e1, List.append_nil] at key
  rw [hq, hm]
  refine FX.callL (r := (.tup [natV Q, .int .i64 R], [.arr (kRows .i64 (splitF DB k (dec n))) (some (some 1)) true])) ok_isochroneref01_Split 1000 rfl rfl ?_ (fz_tup (by simp only [List.mem_cons, List.not_mem_nil, or_false, forall_eq_or_imp, forall_eq]; exact ⟨fz1_sl _ _, rfl⟩))
  unfold natE
  ((repeat ((conv => lhs; whnf); simp only [go_sem, ↓reduceIte, Nat.reduceEqDiff, Nat.reduceBEq, Nat.reduceAdd, Nat.reduceMul, Nat.reduceSub, Nat.reduceLT, Nat.reduceLeDiff, reduceCtorEq, Int.reduceToNat, Int.reduceLE, Int.reduceLT, Int.reduceEq, sem_isochroneref01_Split, w1, mk])); try (conv => lhs; whnf); try rfl)
  exact key
theorem nat_Split {n : Nat} {v : PV} (h : IsNat n v) (k : Nat) (hk : 1 ≤ k ∧ k ≤ 65536) (hn : (dec n).length ≤ 1000000) (S : Store) : callO (callL Tryz.prog hints) S 120 [v, .int .i64 k] = some { v := .tup [natV (n / k), .int .i64 (n % k : Nat)] } := by
  obtain ⟨e, rfl, hp⟩ := h.form
  exact callO_plain (S := S) (call_Split n e k hk hn) (by simp [hp, Plain.int])
end
end Go.Vs
end
/- The reference's natural numbers: Words. -/
section
set_option linter.unusedVariables false
set_option linter.unusedSimpArgs false
set_option maxRecDepth 100000
namespace Go.Vs
open Go Go.Proofs
theorem sl_ints : SlT 59 3 1 8 := ⟨by kernel_rfl, by kernel_rfl, by kernel_rfl, by kernel_rfl, by kernel_rfl⟩
@[go_sem] theorem len_ints (r : List (List PV)) (ex : Bool) : lenO (tyi Tryz.prog 59) (.sl r ex) = some (.int .i64 r.length) := sl_ints.len r ex
@[go_sem] theorem lenm_ints (i o l : Nat) (ex : Bool) : lenO (tyi Tryz.prog 59) (.msl i o l ex) = some (.int .i64 l) := sl_ints.lenm i o l ex
@[go_sem] theorem build_ints (id n : Nat) (is : List Nat) (rows : List (List PV)) : buildSliceO Tryz.prog 59 id n is rows = if is = List.range n ∧ rowsOK 1 rows = true ∧ (rows.all fun r => r.all PV.cell) = true ∧ n * 1 ≤ 16777216 then some { v := .msl id 0 n true, new := some (rows, some (some 1)) } else none := sl_ints.buildSlice (by decide) id n is rows
/-- A number appended to a list of one's own, behind another array. -/
theorem SlT.app2 {t el : TypeId} {bytes : Nat} (h : SlT t el 1 bytes) (hb : bytes ≤ 8) (k : IntKind) {R0 : List (List PV)} (hR0 : rowsRefs R0 = []) (g0 : Option (Option Nat)) (f0 : Bool) (L : List Int) (x : Int) (g : Option Nat) (hg : g = none ∨ g = some 1) (hl : L.length ≤ 10000000) (ex : Bool) : appendE Tryz.prog 0 t t [.arr R0 g0 f0, .arr (kRows k L) (some g) false, .arr [[.int k x]] (some (some 1)) false] (.msl 1 0 L.length false) (.msl 2 0 1 ex) =
    some { v := .msl 1 0 (L.length + 1) false, S := [.arr R0 g0 f0, .arr (kRows k (L ++ [x])) (some (some 1)) false, .arr [[.int k x]] (some (some 1)) false], kill := [1] } := by
  have hm : (L.length + 1) * bytes ≤ (L.length + 1) * 8 := Nat.mul_le_mul_left _ hb
  have := h.app (b := 0) (S := [.arr R0 g0 f0, .arr (kRows k L) (some g) false, .arr [[.int k x]] (some (some 1)) false]) (id := 1) (rows := kRows k L) (new := kRows k [x]) (g := g) (p := .msl 2 0 1 ex) rfl (by decide) hg (RowsV.msl 2 (kRows k [x]) ex _ _ rfl) (kRows_ok _ _) (kRows_ok _ _) (by rw [kRows_length, kRows_length]; simp only [List.length_singleton]; omega) (by rw [kRows_length, kRows_length]; simp; omega) (by rw [kRows_refs]; simp) (by rw [kRows_refs]; simp)
  rw [kRows_length] at this
  rw [this]
  simp only [List.map_cons, List.map_nil, killObj, killRows, kRows_refs, hR0, List.any_nil, Bool.false_eq_true, if_false, List.set_cons_zero, List.set_cons_succ, kRows_append, rowsRefs_cons, rowsRefs_nil, refsL_cons, refs_int, refsL_nil, List.nil_append, kRows_length]
  rfl
/-- Halves of words put together. -/
def pairs : List Int → List Int
  | [] => []
  | [a] => [a]
  | a :: b :: r => (a + b * 65536) :: pairs r
theorem pairs_digs (n : Nat) : pairs (digs 65536 n) = words n := by
  induction n using Nat.strongRecOn with
  | ind n ih =>
    by_cases h : n = 0
    · subst h
      unfold words
      rw [digs_zero, digs_zero]
      rfl
    · have e1 := digs_pos (b := 65536) (by decide) h
      have e2 : words n = ((n % WB : Nat) : Int) :: digs WB (n / WB) := digs_pos WB2 h
      rw [e1, e2]
      by_cases h2 : n / 65536 = 0
      · have e3 : n / WB = 0 := Nat.div_eq_of_lt (by show n < 4294967296; omega)
        have e4 : n % 65536 = n % WB := by show n % 65536 = n % 4294967296; omega
        rw [h2, e3, digs_zero, digs_zero, e4]
        rfl
      · rw [digs_pos (b := 65536) (by decide) h2]
        have e5 : n / 65536 / 65536 = n / WB := by show _ = n / 4294967296; omega
        have e6 : ((n % 65536 : Nat) : Int) + ((n / 65536 % 65536 : Nat) : Int) * 65536 = ((n % WB : Nat) : Int) := by
          show _ = ((n % 4294967296 : Nat) : Int); omega
        show (_ + _) :: pairs (digs 65536 (n / 65536 / 65536)) = _
        rw [e5, ih (n / WB) (Nat.div_lt_self (by omega) (by decide)), e6]
        rfl
section
attribute [local irreducible] Vs.callL Vs.callRL tyi callO callM callMV appendE storeE evLoad indexAddrO sliceO evFieldAddr evField buildO buildSliceO makeSliceO allocO boxed lenO copyE convertO indexO Vs.gc freezeAll
noncomputable def fx_isochroneref01_Words : FX := ⟨Tryz.f73, hints.of 73, []⟩
theorem ok_isochroneref01_Words : fx_isochroneref01_Words.ok 73 := ⟨by kernel_rfl, of_decide_eq_true (by kernel_rfl), by kernel_rfl, by kernel_rfl, by kernel_rfl, by kernel_rfl⟩
theorem sem_isochroneref01_Words (b0 : Nat) (m : Md) (fs : List Fr) (e : Env) (S : Store) : sem b0 fx_isochroneref01_Words m fs e S = run b0 fx_isochroneref01_Words 1000 m fs e S := (sem_eq _ _ _ _ _ _).trans (run_sem b0 fx_isochroneref01_Words ok_isochroneref01_Words.good 1000 m fs e S).symm
theorem loop_Words0 (fs : List Fr) : ∀ (f n : Nat), n ≤ f → (dec n).length ≤ 1000000 → ∀ (e : Bool) (D : List Int) (g : Option Nat), (g = none ∨ g = some 1) → IsNat n (natE n e) → D.length + (digs 65536 n).length ≤ 5000000 →
    ∃ g', (g' = none ∨ g' = some 1) ∧ ∀ z : PV × Store, exitTo 0 fx_isochroneref01_Words 0 fs [(0, .undef), (3, .msl 0 0 (D ++ digs 65536 n).length false), (11, .undef)] [.arr (kRows .i64 (D ++ digs 65536 n)) (some g') false] = some z →
      loopAt 0 fx_isochroneref01_Words 0 56 1 fs [(0, natE n e), (3, .msl 0 0 D.length false)] [.arr (kRows .i64 D) (some g) false] = some z := by
  have base : ∀ (e : Bool) (D : List Int) (g : Option Nat), (g = none ∨ g = some 1) →
      ∃ g', (g' = none ∨ g' = some 1) ∧ ∀ z : PV × Store, exitTo 0 fx_isochroneref01_Words 0 fs [(0, .undef), (3, .msl 0 0 (D ++ digs 65536 0).length false), (11, .undef)] [.arr (kRows .i64 (D ++ digs 65536 0)) (some g') false] = some z →
      loopAt 0 fx_isochroneref01_Words 0 56 1 fs [(0, natE 0 e), (3, .msl 0 0 D.length false)] [.arr (kRows .i64 D) (some g) false] = some z := by
    intro e D g hg
    refine ⟨g, hg, fun z hz => ?_⟩
    rw [digs_zero, List.append_nil] at hz
    have l0 : (dec 0).length = 0 := dec_len0.2 rfl
    unfold natE
    refine loopAt_step ok_isochroneref01_Words.good 1000 ?_
    ((repeat ((conv => lhs; whnf); simp only [go_sem, ↓reduceIte, Nat.reduceEqDiff, Nat.reduceBEq, Nat.reduceAdd, Nat.reduceMul, Nat.reduceSub, Nat.reduceLT, Nat.reduceLeDiff, reduceCtorEq, Int.reduceToNat, Int.reduceLE, Int.reduceLT, Int.reduceEq, sem_isochroneref01_Words, l0])); try (conv => lhs; whnf); try rfl)
    exact hz
  intro f
  induction f with
  | zero =>
    intro n hn _ e D g hg _ _
    have h0 : n = 0 := by omega
    subst h0
    exact base e D g hg
  | succ f ih =>
    intro n hn hd e D g hg hi hl
    by_cases h0 : n = 0
    · subst h0
      exact base e D g hg
    · have hp : n / 65536 < n := Nat.div_lt_self (by omega) (by decide)
      have ed : digs 65536 n = ((n % 65536 : Nat) : Int) :: digs 65536 (n / 65536) := digs_pos (by decide) h0
      rw [ed] at hl ⊢
      simp only [List.length_cons] at hl
      obtain ⟨g', hg', k⟩ := ih (n / 65536) (by omega) (Nat.le_trans (dec_mono (Nat.div_le_self _ _)) hd) false (D ++ [((n % 65536 : Nat) : Int)]) (some 1) (.inr rfl) (.of _) (by simp; omega)
      refine ⟨g', hg', fun z hz => ?_⟩
      have key := k z (by simpa using hz)
      rw [List.length_append, List.length_singleton] at key
      have sp := nat_Split hi 65536 (by decide) hd
      have l1 : (dec n).length ≠ 0 := fun e => h0 (dec_len0.1 e)
      have l2 : (0 : Int) < (dec n).length := by omega
      have l3 : 0 < (dec n).length := by omega
      have ap := sl_ints.app1 D ((n % 65536 : Nat) : Int) g hg (by omega) true
      have k5 : ((65536 : Nat) : Int) = 65536 := rfl
      rw [k5] at sp
      unfold natV natE at *
      refine loopAt_step ok_isochroneref01_Words.good 1000 ?_
      ((repeat ((conv => lhs; whnf); simp only [go_sem, ↓reduceIte, Nat.reduceEqDiff, Nat.reduceBEq, Nat.reduceAdd, Nat.reduceMul, Nat.reduceSub, Nat.reduceLT, Nat.reduceLeDiff, reduceCtorEq, Int.reduceToNat, Int.reduceLE, Int.reduceLT, Int.reduceEq, sem_isochroneref01_Words, l2, l3, sp, ap, kRows_refs])); try (conv => lhs; whnf); try rfl)
      exact key
theorem loop_Words2 (H : List Int) (hH : OkD 65536 H) (hl : H.length ≤ 5000000) (g0 : Option (Option Nat)) (fs : List Fr) : ∀ (m i : Nat), H.length ≤ i + m → ∀ (D : List Int) (g : Option Nat), (g = none ∨ g = some 1) → D.length ≤ i →
    ∃ g', (g' = none ∨ g' = some 1) ∧ ∀ z : PV × Store, exitTo 0 fx_isochroneref01_Words 2 fs [(3, .undef), (6, .msl 1 0 (D ++ pairs (H.drop i)).length false), (7, .undef), (25, .undef)] [.arr (kRows .i64 H) g0 false, .arr (kRows .u32 (D ++ pairs (H.drop i))) (some g') false] = some z →
      loopAt 0 fx_isochroneref01_Words 2 500 2 fs [(3, .msl 0 0 H.length false), (6, .msl 1 0 D.length false), (7, .int .i64 i)] [.arr (kRows .i64 H) g0 false, .arr (kRows .u32 D) (some g) false] = some z := by
  have hM := maxLen_big
  have done : ∀ (i : Nat), H.length ≤ i → ∀ (D : List Int) (g : Option Nat), (g = none ∨ g = some 1) →
      ∃ g', (g' = none ∨ g' = some 1) ∧ ∀ z : PV × Store, exitTo 0 fx_isochroneref01_Words 2 fs [(3, .undef), (6, .msl 1 0 (D ++ pairs (H.drop i)).length false), (7, .undef), (25, .undef)] [.arr (kRows .i64 H) g0 false, .arr (kRows .u32 (D ++ pairs (H.drop i))) (some g') false] = some z →
      loopAt 0 fx_isochroneref01_Words 2 500 2 fs [(3, .msl 0 0 H.length false), (6, .msl 1 0 D.length false), (7, .int .i64 i)] [.arr (kRows .i64 H) g0 false, .arr (kRows .u32 D) (some g) false] = some z := by
    intro i hi D g hg
    refine ⟨g, hg, fun z hz => ?_⟩
    rw [List.drop_of_length_le hi] at hz
    simp only [pairs, List.append_nil] at hz
    have h1 : ¬ (i : Int) < (H.length : Int) := by omega
    refine loopAt_step ok_isochroneref01_Words.good 1000 ?_
    ((repeat ((conv => lhs; whnf); simp only [go_sem, ↓reduceIte, Nat.reduceEqDiff, Nat.reduceBEq, Nat.reduceAdd, Nat.reduceMul, Nat.reduceSub, Nat.reduceLT, Nat.reduceLeDiff, reduceCtorEq, Int.reduceToNat, Int.reduceLE, Int.reduceLT, Int.reduceEq, sem_isochroneref01_Words, h1])); try (conv => lhs; whnf); try rfl)
    exact hz
  intro m
  induction m with
  | zero =>
    intro i hi D g hg _
    exact done i (by omega) D g hg
  | succ m ih =>
    intro i hi D g hg hD
    by_cases h0 : H.length ≤ i
    · exact done i h0 D g hg
    · have h1 : (i : Int) < (H.length : Int) := by omega
      have w0 : IntKind.i64.wrap ((i : Int) + 1) = ((i + 1 : Nat) : Int) := by rw [IntKind.wrap_i64]; omega
      have w2 : IntKind.i64.wrap ((i : Int) + 2) = ((i + 2 : Nat) : Int) := by rw [IntKind.wrap_i64]; omega
      have xm := sl_ints.idxmk .i64 (S := [.arr (kRows .i64 H) g0 false, .arr (kRows .u32 D) (some g) false]) (id := 0) (off := 0) (n := H.length) (ex := false) (L := H) i rfl (by omega) (by omega)
      have gk := kRows_get .i64 H (i := i) (by omega)
      have len : i < H.length := by omega
      have ha := hH.getD (by decide) i
      have ha' : H.getD i 0 < 65536 := ha.2
      have c1 : IntKind.u32.wrap (H.getD i 0) = H.getD i 0 := by rw [IntKind.wrap_u32]; omega
      have ed := list_at H (k := i) (by omega)
      by_cases h2 : i + 1 < H.length
      · have h3 : ((i + 1 : Nat) : Int) < (H.length : Int) := by omega
        have ed2 := list_at H (k := i + 1) h2
        have ep : pairs (H.drop i) = (H.getD i 0 + H.getD (i + 1) 0 * 65536) :: pairs (H.drop (i + 2)) := by rw [ed, ed2]; rfl
        rw [ep]
        obtain ⟨g', hg', k⟩ := ih (i + 2) (by omega) (D ++ [H.getD i 0 + H.getD (i + 1) 0 * 65536]) (some 1) (.inr rfl) (by simp; omega)
        refine ⟨g', hg', fun z hz => ?_⟩
        have key := k z (by simpa using hz)
        rw [List.length_append, List.length_singleton] at key
        have xm2 := sl_ints.idxmk .i64 (S := [.arr (kRows .i64 H) g0 false, .arr (kRows .u32 D) (some g) false]) (id := 0) (off := 0) (n := H.length) (ex := false) (L := H) (i + 1) rfl (by omega) h2
        have gk2 := kRows_get .i64 H (i := i + 1) h2
        have hb := hH.getD (by decide) (i + 1)
        have hb' : H.getD (i + 1) 0 < 65536 := hb.2
        have c2 : IntKind.u32.wrap (H.getD (i + 1) 0) = H.getD (i + 1) 0 := by rw [IntKind.wrap_u32]; omega
        have c3 : IntKind.u32.wrap (H.getD (i + 1) 0 * 65536) = H.getD (i + 1) 0 * 65536 := by rw [IntKind.wrap_u32]; omega
        have c4 : IntKind.u32.wrap (H.getD i 0 + H.getD (i + 1) 0 * 65536) = H.getD i 0 + H.getD (i + 1) 0 * 65536 := by rw [IntKind.wrap_u32]; omega
        have ap := sl_us.app2 (by decide) .u32 (kRows_refs .i64 H) g0 false D (H.getD i 0 + H.getD (i + 1) 0 * 65536) g hg (by omega) true
        rw [Nat.zero_add] at xm xm2
        refine loopAt_step ok_isochroneref01_Words.good 1000 ?_
        ((repeat ((conv => lhs; whnf); simp only [go_sem, ↓reduceIte, Nat.reduceEqDiff, Nat.reduceBEq, Nat.reduceAdd, Nat.reduceMul, Nat.reduceSub, Nat.reduceLT, Nat.reduceLeDiff, reduceCtorEq, Int.reduceToNat, Int.reduceLE, Int.reduceLT, Int.reduceEq, sem_isochroneref01_Words, h1, w0, w2, xm, gk, len, c1, h3, h2, xm2, gk2, c2, c3, c4, ap, kRows_refs, kRows_length])); try (conv => lhs; whnf); try rfl)
        exact key
      · have h3 : ¬ ((i + 1 : Nat) : Int) < (H.length : Int) := by omega
        have ep : pairs (H.drop i) = H.getD i 0 :: pairs (H.drop (i + 2)) := by
          rw [ed, List.drop_of_length_le (by omega), List.drop_of_length_le (by omega)]; rfl
        rw [ep]
        obtain ⟨g', hg', k⟩ := ih (i + 2) (by omega) (D ++ [H.getD i 0]) (some 1) (.inr rfl) (by simp; omega)
        refine ⟨g', hg', fun z hz => ?_⟩
        have key := k z (by simpa using hz)
        rw [List.length_append, List.length_singleton] at key
        have ap := sl_us.app2 (by decide) .u32 (kRows_refs .i64 H) g0 false D (H.getD i 0) g hg (by omega) true
        rw [Nat.zero_add] at xm
        refine loopAt_step ok_isochroneref01_Words.good 1000 ?_
        ((repeat ((conv => lhs; whnf); simp only [go_sem, ↓reduceIte, Nat.reduceEqDiff, Nat.reduceBEq, Nat.reduceAdd, Nat.reduceMul, Nat.reduceSub, Nat.reduceLT, Nat.reduceLeDiff, reduceCtorEq, Int.reduceToNat, Int.reduceLE, Int.reduceLT, Int.reduceEq, sem_isochroneref01_Words, h1, w0, w2, xm, gk, len, c1, h3, h2, ap, kRows_refs, kRows_length])); try (conv => lhs; whnf); try rfl)
        exact key
theorem halves_len {n k : Nat} (h : (dec n).length ≤ k) : (digs 65536 n).length ≤ k := by
  refine (digs_le (by decide) k n).2 ?_
  exact Nat.lt_of_lt_of_le ((digs_le DB2 k n).1 h) (Nat.pow_le_pow_left (by decide) k)
theorem call_Words {n : Nat} {v : PV} (h : IsNat n v) (hn : (dec n).length ≤ 1000000) : callL Tryz.prog hints 73 [v] = some (magV n) := by
  obtain ⟨e, rfl, hp⟩ := h.form
  have hl := halves_len hn
  obtain ⟨g1, hg1, k1⟩ := loop_Words0 [.blk 0, .seq 0 15] n n (Nat.le_refl _) hn e [] none (.inl rfl) h (by simp; omega)
  obtain ⟨g2, hg2, k2⟩ := loop_Words2 (digs 65536 n) (digs_ok (by decide) n) (by omega) (some g1) [.blk 2, .seq 0 63] (digs 65536 n).length 0 (by omega) [] none (.inl rfl) (by simp)
  rw [List.drop_zero, pairs_digs, List.nil_append] at k2
  rw [List.nil_append] at k1
  refine FX.callL (r := (.msl 1 0 (words n).length false, [.arr (kRows .i64 (digs 65536 n)) (some g1) false, .arr (kRows .u32 (words n)) (some g2) false])) ok_isochroneref01_Words 1000 rfl rfl ?_ (kRows_fzV rfl rfl)
  have key := k1 (.msl 1 0 (words n).length false, [.arr (kRows .i64 (digs 65536 n)) (some g1) false, .arr (kRows .u32 (words n)) (some g2) false]) (by
    have q := k2 (.msl 1 0 (words n).length false, [.arr (kRows .i64 (digs 65536 n)) (some g1) false, .arr (kRows .u32 (words n)) (some g2) false]) (by
      refine exit_run ok_isochroneref01_Words.good 1000 ?_
      ((repeat ((conv => lhs; whnf); simp only [go_sem, ↓reduceIte, Nat.reduceEqDiff, Nat.reduceBEq, Nat.reduceAdd, Nat.reduceMul, Nat.reduceSub, Nat.reduceLT, Nat.reduceLeDiff, reduceCtorEq, Int.reduceToNat, Int.reduceLE, Int.reduceLT, Int.reduceEq, sem_isochroneref01_Words])); try (conv => lhs; whnf); try rfl))
    refine exit_run ok_isochroneref01_Words.good 1000 ?_
    ((repeat ((conv => lhs; whnf); simp only [go_sem, ↓reduceIte, Nat.reduceEqDiff, Nat.reduceBEq, Nat.reduceAdd, Nat.reduceMul, Nat.reduceSub, Nat.reduceLT, Nat.reduceLeDiff, reduceCtorEq, Int.reduceToNat, Int.reduceLE, Int.reduceLT, Int.reduceEq, sem_isochroneref01_Words])); try (conv => lhs; whnf); try rfl)
    exact q)
  unfold natE at *
  ((repeat ((conv => lhs; whnf); simp only [go_sem, ↓reduceIte, Nat.reduceEqDiff, Nat.reduceBEq, Nat.reduceAdd, Nat.reduceMul, Nat.reduceSub, Nat.reduceLT, Nat.reduceLeDiff, reduceCtorEq, Int.reduceToNat, Int.reduceLE, Int.reduceLT, Int.reduceEq, sem_isochroneref01_Words])); try (conv => lhs; whnf); try rfl)
  exact key
end
end Go.Vs
end
/- The reference's natural numbers: Add. -/
section
set_option linter.unusedVariables false
set_option linter.unusedSimpArgs false
set_option maxRecDepth 100000
namespace Go.Vs
open Go Go.Proofs
/-- No zero at the end. -/
def Can (L : List Int) : Prop := trimD L = L
theorem Can.nil : Can [] := rfl
theorem Can.tail {x : Int} {r : List Int} (h : Can (x :: r)) : Can r ∧ (r = [] → x ≠ 0) := by
  unfold Can at h
  rw [trimD] at h
  split at h
  · cases h
  · rename_i hc
    have h1 : trimD r = r := by simpa using h
    refine ⟨h1, fun hr hx => hc ⟨?_, hx⟩⟩
    rw [h1, hr]
theorem Can.cons {x : Int} {r : List Int} (h : Can r) (hx : r = [] → x ≠ 0) : Can (x :: r) := by
  unfold Can at *
  rw [trimD, h, if_neg]
  exact fun hh => hx hh.1 hh.2
section
attribute [local irreducible] Vs.callL Vs.callRL tyi callO callM callMV appendE storeE evLoad indexAddrO sliceO evFieldAddr evField buildO buildSliceO makeSliceO allocO boxed lenO copyE convertO indexO Vs.gc freezeAll
end
end Go.Vs
end
/- The reference's natural numbers: Sub. -/
section
set_option linter.unusedVariables false
set_option linter.unusedSimpArgs false
set_option maxRecDepth 100000
namespace Go.Vs
open Go Go.Proofs
/-- Digits of a difference, and what is borrowed at the end. -/
def subD : List Int → List Int → Int → List Int
  | [], _, _ => []
  | x :: a, b, c => (x - c - b.headD 0) % 10000 :: subD a b.tail (if x - c - b.headD 0 < 0 then 1 else 0)
def subDB : List Int → List Int → Int → Int
  | [], _, c => c
  | x :: a, b, c => subDB a b.tail (if x - c - b.headD 0 < 0 then 1 else 0)
theorem headD_okB {b : Nat} (hb : 0 < b) {l : List Int} (h : OkD b l) : 0 ≤ l.headD 0 ∧ l.headD 0 < b := by
  cases l with
  | nil => exact ⟨Int.le_refl 0, by simp; omega⟩
  | cons x l => exact h.head
theorem tail_okB {b : Nat} {l : List Int} (h : OkD b l) : OkD b l.tail := by
  cases l with
  | nil => exact h
  | cons x l => exact h.tail
theorem valD_htB (b : Nat) (l : List Int) : valD b l = l.headD 0 + b * valD b l.tail := by
  cases l with
  | nil => simp [valD]
  | cons x l => rfl
theorem subD_val : ∀ (a b : List Int) (c : Int), OkD DB a → OkD DB b → b.length ≤ a.length → (c = 0 ∨ c = 1) → OkD DB (subD a b c) ∧ (subD a b c).length = a.length ∧ (subDB a b c = 0 ∨ subDB a b c = 1) ∧ valD DB (subD a b c) = valD DB a - valD DB b - c + (10000 : Int) ^ a.length * subDB a b c
  | [], b, c, ha, hb, hl, hc => by
    have : b = [] := List.eq_nil_of_length_eq_zero (by simpa using hl)
    subst this
    refine ⟨.nil _, rfl, hc, ?_⟩
    simp [subD, subDB, valD]; omega
  | x :: a, b, c, ha, hb, hl, hc => by
    have hx := ha.head
    have hx' : x < 10000 := hx.2
    have hh := headD_okB (by decide) hb
    have hh' : b.headD 0 < 10000 := hh.2
    have hbt : b.tail.length ≤ a.length := by simp only [List.length_cons] at hl; rw [List.length_tail]; omega
    obtain ⟨i1, i2, i3, i4⟩ := subD_val a b.tail (if x - c - b.headD 0 < 0 then 1 else 0) ha.tail (tail_okB hb) hbt (by split <;> simp)
    refine ⟨.cons ⟨by omega, by show _ < ((10000 : Nat) : Int); omega⟩ i1, by simp only [subD, List.length_cons, i2], i3, ?_⟩
    have e1 : valD DB (x :: a) = x + 10000 * valD DB a := rfl
    have e2 : valD DB b = b.headD 0 + 10000 * valD DB b.tail := valD_htB DB b
    have e3 : valD DB (subD (x :: a) b c) = (x - c - b.headD 0) % 10000 + 10000 * valD DB (subD a b.tail (if x - c - b.headD 0 < 0 then 1 else 0)) := rfl
    have e4 : subDB (x :: a) b c = subDB a b.tail (if x - c - b.headD 0 < 0 then 1 else 0) := rfl
    rw [e3, i4, e4, e1, e2, List.length_cons, Int.pow_succ]
    generalize subDB a b.tail (if x - c - b.headD 0 < 0 then 1 else 0) = s at *
    generalize hp : (10000 : Int) ^ a.length = P at *
    rw [Int.mul_comm P 10000, Int.mul_assoc]
    generalize P * s = Q
    split <;> omega
section
attribute [local irreducible] Vs.callL Vs.callRL tyi callO callM callMV appendE storeE evLoad indexAddrO sliceO evFieldAddr evField buildO buildSliceO makeSliceO allocO boxed lenO copyE convertO indexO Vs.gc freezeAll
noncomputable def fx_slices_Clone_isochroneref01_Nat_int : FX := ⟨Tryz.f179, hints.of 179, []⟩
theorem ok_slices_Clone_isochroneref01_Nat_int : fx_slices_Clone_isochroneref01_Nat_int.ok 179 := ⟨by kernel_rfl, of_decide_eq_true (by kernel_rfl), by kernel_rfl, by kernel_rfl, by kernel_rfl, by kernel_rfl⟩
theorem sem_slices_Clone_isochroneref01_Nat_int (b0 : Nat) (m : Md) (fs : List Fr) (e : Env) (S : Store) : sem b0 fx_slices_Clone_isochroneref01_Nat_int m fs e S = run b0 fx_slices_Clone_isochroneref01_Nat_int 1000 m fs e S := (sem_eq _ _ _ _ _ _).trans (run_sem b0 fx_slices_Clone_isochroneref01_Nat_int ok_slices_Clone_isochroneref01_Nat_int.good 1000 m fs e S).symm
theorem call_Clone (A : List Int) (e : Bool) (hA : A ≠ []) (hl : A.length ≤ 3000000) : callRL Tryz.prog hints 179 [.sl (kRows .i64 A) e] [] = some (.msl 1 0 A.length false, [.arr [] (some (some 1)) false, .arr (kRows .i64 A) (some (some 1)) false]) := by
  have hn : evBinO .eql (tyi Tryz.prog 60) (.const (.slice none 0 0)) (.sl (kRows .i64 A) e) (.sl [] true) = some (.bool false) := by
    cases A with
    | nil => exact absurd rfl hA
    | cons x r =>
      have hd : (tyi Tryz.prog 60).d = .slice 3 := sl_nat.d
      simp only [evBinO, kRows_cons, nilCmp, hd]
      rfl
  have ap : appendE Tryz.prog 0 60 60 [.arr [] (some (some 1)) false] (.msl 0 0 0 true) (.sl (kRows .i64 A) e) = some { v := .msl 1 0 A.length false, S := [.arr [] (some (some 1)) false, .arr (kRows .i64 A) (some (some 1)) false] } := by
    have hx : exact (.msl 0 0 0 true) = true := rfl
    have hr : rowsIn [.arr [] (some (some 1)) false] (.msl 0 0 0 true) = some [] := rfl
    have hy : rowsS [.arr [] (some (some 1)) false] (.sl (kRows .i64 A) e) = some (kRows .i64 A) := rfl
    have h0 : ¬ (kRows .i64 A).length = 0 := by
      rw [kRows_length]; exact fun h => hA (List.eq_nil_of_length_eq_zero h)
    simp only [appendE, hx, if_true, appendN, sl_nat.d, srcT, sl_nat.z, and_self, sl_nat.b, sl_nat.s, evAppendNew, hr, hy, Option.bind_some, List.length_nil, Nat.zero_add, List.nil_append]
    rw [if_pos ⟨rfl, kRows_ok _ _, by rw [kRows_length]; omega, by rw [kRows_length]; omega⟩, if_neg h0]
    simp only [Option.map_some, kRows_length]
    rfl
  refine FX.callRL (r := (.msl 1 0 A.length false, [.arr [] (some (some 1)) false, .arr (kRows .i64 A) (some (some 1)) false])) ok_slices_Clone_isochroneref01_Nat_int 1000 rfl rfl ?_
  ((repeat ((conv => lhs; whnf); simp only [go_sem, ↓reduceIte, Nat.reduceEqDiff, Nat.reduceBEq, Nat.reduceAdd, Nat.reduceMul, Nat.reduceSub, Nat.reduceLT, Nat.reduceLeDiff, reduceCtorEq, Int.reduceToNat, Int.reduceLE, Int.reduceLT, Int.reduceEq, sem_slices_Clone_isochroneref01_Nat_int, hn, ap])); try (conv => lhs; whnf); try rfl)
noncomputable def fx_isochroneref01_Sub : FX := ⟨Tryz.f164, hints.of 164, []⟩
theorem ok_isochroneref01_Sub : fx_isochroneref01_Sub.ok 164 := ⟨by kernel_rfl, of_decide_eq_true (by kernel_rfl), by kernel_rfl, by kernel_rfl, by kernel_rfl, by kernel_rfl⟩
theorem sem_isochroneref01_Sub (b0 : Nat) (m : Md) (fs : List Fr) (e : Env) (S : Store) : sem b0 fx_isochroneref01_Sub m fs e S = run b0 fx_isochroneref01_Sub 1000 m fs e S := (sem_eq _ _ _ _ _ _).trans (run_sem b0 fx_isochroneref01_Sub ok_isochroneref01_Sub.good 1000 m fs e S).symm
theorem loop_Sub01 (A B : List Int) (e2 : Bool) (hA : OkD DB A) (hB : OkD DB B) (hl : B.length ≤ A.length) (hm : A.length ≤ 1000000) (fs : List Fr) {z : PV × Store} (hz : exitTo 0 fx_isochroneref01_Sub 0 fs [(1, .undef), (5, .msl 1 0 A.length false), (6, .undef), (12, .undef), (13, .undef), (14, .undef)] [.arr [] (some (some 1)) false, .arr (kRows .i64 (subD A B 0)) (some (some 1)) false] = some z) : ∀ (m i : Nat), i + m = A.length → ∀ (D : List Int) (c : Int), D.length = i → (c = 0 ∨ c = 1) → D ++ subD (A.drop i) (B.drop i) c = subD A B 0 →
    loopAt 0 fx_isochroneref01_Sub 0 244 2 fs [(1, .sl (kRows .i64 B) e2), (5, .msl 1 0 A.length false), (6, .int .i64 c), (12, .int .i64 A.length), (13, .int .i64 i)] [.arr [] (some (some 1)) false, .arr (kRows .i64 (D ++ A.drop i)) (some (some 1)) false] = some z := by
  have hM := maxLen_big
  intro m
  induction m with
  | zero =>
    intro i hi D c hD hc hs
    have h1 : ¬ (i : Int) < (A.length : Int) := by omega
    have hd : A.drop i = [] := List.drop_of_length_le (by omega)
    rw [hd] at hs ⊢
    simp only [subD] at hs
    rw [hs]
    refine loopAt_step ok_isochroneref01_Sub.good 1000 ?_
    ((repeat ((conv => lhs; whnf); simp only [go_sem, ↓reduceIte, Nat.reduceEqDiff, Nat.reduceBEq, Nat.reduceAdd, Nat.reduceMul, Nat.reduceSub, Nat.reduceLT, Nat.reduceLeDiff, reduceCtorEq, Int.reduceToNat, Int.reduceLE, Int.reduceLT, Int.reduceEq, sem_isochroneref01_Sub, h1])); try (conv => lhs; whnf); try rfl)
    exact hz
  | succ m ih =>
    intro i hi D c hD hc hs
    have h1 : (i : Int) < (A.length : Int) := by omega
    have w1 := wrap_succ (i := i) (n := A.length) (by omega) (by omega)
    have ha := hA.getD (by decide) i
    have hb := hB.getD (by decide) i
    have ha' : A.getD i 0 < 10000 := ha.2
    have hb' : B.getD i 0 < 10000 := hb.2
    have hd := list_at A (k := i) (by omega)
    have hbh : (B.drop i).headD 0 = B.getD i 0 := by
      by_cases hib : i < B.length
      · rw [list_at B hib]; rfl
      · rw [List.drop_of_length_le (by omega), List.getD_eq_getElem?_getD, List.getElem?_eq_none (by omega)]; rfl
    have hbt : (B.drop i).tail = B.drop (i + 1) := List.tail_drop
    rw [hd] at hs ⊢
    rw [subD, hbh, hbt] at hs
    have key := ih (i + 1) (by omega) (D ++ [(A.getD i 0 - c - B.getD i 0) % 10000]) (if A.getD i 0 - c - B.getD i 0 < 0 then 1 else 0) (by simp [hD]) (by split <;> simp) (by simpa using hs)
    have get : (D ++ A.getD i 0 :: A.drop (i + 1)).getD i 0 = A.getD i 0 := by
      rw [List.getD_eq_getElem?_getD, List.getElem?_append_right (by omega), hD, Nat.sub_self]; rfl
    have set : ∀ v : Int, (kRows .i64 (D ++ A.getD i 0 :: A.drop (i + 1))).set i [.int .i64 v] = kRows .i64 ((D ++ [v]) ++ A.drop (i + 1)) := fun v => by
      rw [kRows_set]
      congr 1
      rw [List.set_append, if_neg (by omega), hD, Nat.sub_self, List.set_cons_zero]
      simp
    have hlen : (D ++ A.getD i 0 :: A.drop (i + 1)).length = A.length := by simp; omega
    have xm := sl_nat.idxmk .i64 (S := [.arr [] (some (some 1)) false, .arr (kRows .i64 (D ++ A.getD i 0 :: A.drop (i + 1))) (some (some 1)) false]) (id := 1) (off := 0) (n := A.length) (ex := false) (L := D ++ A.getD i 0 :: A.drop (i + 1)) i rfl (by omega) (by omega)
    have len : i < (D ++ A.getD i 0 :: A.drop (i + 1)).length := by omega
    have gk := kRows_get .i64 (D ++ A.getD i 0 :: A.drop (i + 1)) len
    rw [get] at gk
    have v0 : IntKind.i64.wrap (A.getD i 0 - c) = A.getD i 0 - c := by rw [IntKind.wrap_i64]; omega
    rw [Nat.zero_add] at xm
    -- the digit, and whether it is borrowed
    have fin : ∀ d : Int, -20000 < d → d < 10000 → IntKind.i64.wrap d = d ∧ (d < 0 → IntKind.i64.wrap (d + 10000) = d + 10000) := fun d h1 h2 => ⟨by rw [IntKind.wrap_i64]; omega, fun _ => by rw [IntKind.wrap_i64]; omega⟩
    refine loopAt_step ok_isochroneref01_Sub.good 1000 ?_
    by_cases hib : i < B.length
    · have h2 : (i : Int) < (B.length : Int) := by omega
      have x2 : 0 ≤ (i : Int) ∧ (i : Int) < (B.length : Int) := ⟨by omega, h2⟩
      obtain ⟨f1, f2⟩ := fin (A.getD i 0 - c - B.getD i 0) (by omega) (by omega)
      by_cases hn : A.getD i 0 - c - B.getD i 0 < 0
      · have f3 := f2 hn
        have e1 : (A.getD i 0 - c - B.getD i 0) % 10000 = A.getD i 0 - c - B.getD i 0 + 10000 := by omega
        rw [if_pos hn, e1] at key
        ((repeat ((conv => lhs; whnf); simp only [go_sem, ↓reduceIte, Nat.reduceEqDiff, Nat.reduceBEq, Nat.reduceAdd, Nat.reduceMul, Nat.reduceSub, Nat.reduceLT, Nat.reduceLeDiff, reduceCtorEq, Int.reduceToNat, Int.reduceLE, Int.reduceLT, Int.reduceEq, sem_isochroneref01_Sub, h1, Int.toNat_natCast, h2, x2, xm, gk, v0, f1, f3, hn, set, len, w1, kRows_length, kRows_refs])); try (conv => lhs; whnf); try rfl)
        exact key
      · have e1 : (A.getD i 0 - c - B.getD i 0) % 10000 = A.getD i 0 - c - B.getD i 0 := by omega
        rw [if_neg hn, e1] at key
        ((repeat ((conv => lhs; whnf); simp only [go_sem, ↓reduceIte, Nat.reduceEqDiff, Nat.reduceBEq, Nat.reduceAdd, Nat.reduceMul, Nat.reduceSub, Nat.reduceLT, Nat.reduceLeDiff, reduceCtorEq, Int.reduceToNat, Int.reduceLE, Int.reduceLT, Int.reduceEq, sem_isochroneref01_Sub, h1, Int.toNat_natCast, h2, x2, xm, gk, v0, f1, hn, set, len, w1, kRows_length, kRows_refs])); try (conv => lhs; whnf); try rfl)
        exact key
    · have h2 : ¬ (i : Int) < (B.length : Int) := by omega
      have hb0 : B.getD i 0 = 0 := by rw [List.getD_eq_getElem?_getD, List.getElem?_eq_none (by omega)]; rfl
      rw [hb0, Int.sub_zero] at key
      obtain ⟨f1, f2⟩ := fin (A.getD i 0 - c) (by omega) (by omega)
      by_cases hn : A.getD i 0 - c < 0
      · have f3 := f2 hn
        have e1 : (A.getD i 0 - c) % 10000 = A.getD i 0 - c + 10000 := by omega
        rw [if_pos hn, e1] at key
        ((repeat ((conv => lhs; whnf); simp only [go_sem, ↓reduceIte, Nat.reduceEqDiff, Nat.reduceBEq, Nat.reduceAdd, Nat.reduceMul, Nat.reduceSub, Nat.reduceLT, Nat.reduceLeDiff, reduceCtorEq, Int.reduceToNat, Int.reduceLE, Int.reduceLT, Int.reduceEq, sem_isochroneref01_Sub, h1, Int.toNat_natCast, h2, xm, gk, v0, f1, f3, hn, set, len, w1, kRows_length, kRows_refs])); try (conv => lhs; whnf); try rfl)
        exact key
      · have e1 : (A.getD i 0 - c) % 10000 = A.getD i 0 - c := by omega
        rw [if_neg hn, e1] at key
        ((repeat ((conv => lhs; whnf); simp only [go_sem, ↓reduceIte, Nat.reduceEqDiff, Nat.reduceBEq, Nat.reduceAdd, Nat.reduceMul, Nat.reduceSub, Nat.reduceLT, Nat.reduceLeDiff, reduceCtorEq, Int.reduceToNat, Int.reduceLE, Int.reduceLT, Int.reduceEq, sem_isochroneref01_Sub, h1, Int.toNat_natCast, h2, xm, gk, v0, f1, hn, set, len, w1, kRows_length, kRows_refs])); try (conv => lhs; whnf); try rfl)
        exact key
theorem call_Sub01 (m n : Nat) (e1 e2 : Bool) (hm0 : m ≠ 0) (hmn : n ≤ m) (hm : (dec m).length ≤ 1000000) : callL Tryz.prog hints 164 [natE m e1, natE n e2] = some (natV (m - n)) := by
  have hM := maxLen_big
  have hl : (dec n).length ≤ (dec m).length := dec_mono hmn
  obtain ⟨i1, i2, i3, i4⟩ := subD_val (dec m) (dec n) 0 (dec_ok m) (dec_ok n) hl (.inl rfl)
  have hb : subDB (dec m) (dec n) 0 = 0 := by
    have h1 := valD_lt i1
    rw [i2, i4, dec_val, dec_val] at h1
    rcases i3 with h | h
    · exact h
    · rw [h] at h1
      have : (((10000 : Nat) : Int)) = (10000 : Int) := rfl
      rw [this] at h1
      omega
  have hv : (valD DB (subD (dec m) (dec n) 0)).toNat = m - n := by
    rw [i4, hb, dec_val, dec_val]; omega
  have ct := call_trim_ok (by rw [i2]; omega) i1
  rw [hv] at ct
  have c1 := callO_msl (S := [.arr [] (some (some 1)) false, .arr (kRows .i64 (subD (dec m) (dec n) 0)) (some (some 1)) false]) (id := 1) (n := (dec m).length) (ex := false) ct rfl i2 (by simp)
  have hne : dec m ≠ [] := fun e => hm0 (dec_len0.1 (by rw [e]; rfl))
  have cl := callM_eq (by kernel_rfl) (call_Clone (dec m) e1 hne (by omega)) (by simp)
  have key := loop_Sub01 (dec m) (dec n) e2 (dec_ok m) (dec_ok n) hl hm [.blk 0, .seq 0 31] (z := (natV (m - n), [.arr [] (some (some 1)) false, .arr (kRows .i64 (subD (dec m) (dec n) 0)) (some (some 1)) true])) (by
    refine exit_run ok_isochroneref01_Sub.good 1000 ?_
    ((repeat ((conv => lhs; whnf); simp only [go_sem, ↓reduceIte, Nat.reduceEqDiff, Nat.reduceBEq, Nat.reduceAdd, Nat.reduceMul, Nat.reduceSub, Nat.reduceLT, Nat.reduceLeDiff, reduceCtorEq, Int.reduceToNat, Int.reduceLE, Int.reduceLT, Int.reduceEq, sem_isochroneref01_Sub, c1])); try (conv => lhs; whnf); try rfl)) (dec m).length 0 (by omega) [] 0 rfl (.inl rfl) (by simp)
  rw [List.drop_zero, List.nil_append] at key
  refine FX.callL (r := (natV (m - n), [.arr [] (some (some 1)) false, .arr (kRows .i64 (subD (dec m) (dec n) 0)) (some (some 1)) true])) ok_isochroneref01_Sub 1000 rfl rfl ?_ (fzPV_sl _ _)
  unfold natE at *
  ((repeat ((conv => lhs; whnf); simp only [go_sem, ↓reduceIte, Nat.reduceEqDiff, Nat.reduceBEq, Nat.reduceAdd, Nat.reduceMul, Nat.reduceSub, Nat.reduceLT, Nat.reduceLeDiff, reduceCtorEq, Int.reduceToNat, Int.reduceLE, Int.reduceLT, Int.reduceEq, sem_isochroneref01_Sub, cl])); try (conv => lhs; whnf); try rfl)
  exact key
theorem nat_Sub {m n : Nat} {a b : PV} (ha : IsNat m a) (hb : IsNat n b) (hm0 : m ≠ 0) (hmn : n ≤ m) (hm : (dec m).length ≤ 1000000) (S : Store) : callO (callL Tryz.prog hints) S 164 [a, b] = some { v := natV (m - n) } := by
  obtain ⟨e1, rfl, h1⟩ := ha.form
  obtain ⟨e2, rfl, h2⟩ := hb.form
  exact callO_plain (S := S) (call_Sub01 m n e1 e2 hm0 hmn hm) (by simp [h1, h2])
end
end Go.Vs
end
/- The reference's natural numbers: Mul. -/
section
set_option linter.unusedVariables false
set_option linter.unusedSimpArgs false
set_option maxRecDepth 100000
namespace Go.Vs
open Go Go.Proofs
section
attribute [local irreducible] Vs.callL Vs.callRL tyi callO callM callMV appendE storeE evLoad indexAddrO sliceO evFieldAddr evField buildO buildSliceO makeSliceO allocO boxed lenO copyE convertO indexO Vs.gc freezeAll
end
end Go.Vs
end

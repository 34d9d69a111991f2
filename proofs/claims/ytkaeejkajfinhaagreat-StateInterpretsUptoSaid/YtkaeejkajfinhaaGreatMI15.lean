
import Derived.Test.YtkaeejkajfinhaaGreatMI14
section
set_option linter.unusedVariables false
set_option linter.unusedSimpArgs false
set_option maxRecDepth 100000
namespace Go.Vs
open Go Go.Proofs
theorem words_len0 {n : Nat} : (words n).length = 0 ↔ n = 0 := by
  rw [List.length_eq_zero_iff]; exact digs_nil WB2
section
attribute [local irreducible] Vs.callL Vs.callRL tyi callO callM callMV appendE storeE evLoad indexAddrO sliceO evFieldAddr evField buildO buildSliceO makeSliceO allocO boxed lenO copyE convertO indexO Vs.gc freezeAll
noncomputable def fx181_ : FX := ⟨Tryz.f181, hints.of 181, []⟩
theorem ok181_ : fx181_.ok 181 := ⟨by kernel_rfl, of_decide_eq_true (by kernel_rfl), by kernel_rfl, by kernel_rfl, by kernel_rfl, by kernel_rfl⟩
theorem sem181_ (b0 : Nat) (m : Md) (fs : List Fr) (e : Env) (S : Store) : sem b0 fx181_ m fs e S = run b0 fx181_ 1000 m fs e S := (sem_eq _ _ _ _ _ _).trans (run_sem b0 fx181_ ok181_.good 1000 m fs e S).symm
theorem loop_divWord (A : List Int) (e1 : Bool) (hA : OkD WB A) (hm : A.length ≤ 1000000) (w : Int) (hw : 0 < w ∧ w < 4294967296) (fs : List Fr) : ∀ (k : Nat) (i : Int), i = (k : Int) - 1 → k ≤ A.length → ∀ (Q : List Int) (r : Int), Q.length + k = A.length → OkD WB Q → (0 ≤ r ∧ r < w) → valD WB (A.drop k) = w * valD WB Q + r →
    ∃ (O : List Int) (t : Int), OkD WB O ∧ O.length = A.length ∧ (0 ≤ t ∧ t < w) ∧ valD WB A = w * valD WB O + t ∧ ∀ z : PV × Store, exitTo 0 fx181_ 0 fs [(0, .undef), (1, .undef), (6, .msl 0 0 A.length true), (7, .int .u64 t), (8, .undef), (16, .undef)] [.arr (kRows .u32 O) (some (some 1)) false] = some z →
    loopAt 0 fx181_ 0 244 1 fs [(0, .sl (kRows .u32 A) e1), (1, .int .u32 w), (6, .msl 0 0 A.length true), (7, .int .u64 r), (8, .int .i64 i)] [.arr (kRows .u32 (List.replicate k 0 ++ Q)) (some (some 1)) false] = some z := by
  have hM : 2000000 ≤ maxLen := by decide
  intro k
  induction k with
  | zero =>
    intro i hi hk Q r hQ hQo hr hv
    refine ⟨Q, r, hQo, by omega, hr, by simpa using hv, fun z hz => ?_⟩
    have c : ¬ 0 ≤ i := by omega
    refine loopAt_step ok181_.good 1000 ?_
    simp only [List.replicate_zero, List.nil_append]
    ((repeat ((conv => lhs; whnf); simp only [go_sem, ↓reduceIte, Nat.reduceEqDiff, Nat.reduceBEq, Nat.reduceAdd, Nat.reduceMul, Nat.reduceSub, Nat.reduceLT, Nat.reduceLeDiff, reduceCtorEq, Int.reduceToNat, Int.reduceLE, Int.reduceLT, Int.reduceEq, sem181_, c])); try (conv => lhs; whnf); try rfl)
    exact hz
  | succ k ih =>
    intro i hi hk Q r hQ hQo hr hv
    have hi' : i = (k : Int) := by omega
    subst hi'
    have c : (0 : Int) ≤ (k : Int) := by omega
    have x1 : 0 ≤ (k : Int) ∧ (k : Int) < (A.length : Int) := ⟨by omega, by omega⟩
    have wd : IntKind.i64.wrap ((k : Int) - 1) = (k : Int) - 1 := by rw [IntKind.wrap_i64]; omega
    have ha := hA.getD (by decide) k
    have ha' : A.getD k 0 < 4294967296 := ha.2
    have hr4 : 0 ≤ r ∧ r < 4294967296 := ⟨hr.1, by omega⟩
    have hR : 0 ≤ r * 4294967296 + A.getD k 0 := by omega
    have hq : (r * 4294967296 + A.getD k 0) / w < 4294967296 := by
      rw [Int.ediv_lt_iff_lt_mul hw.1]
      have : (r + 1) * 4294967296 ≤ w * 4294967296 := Int.mul_le_mul_of_nonneg_right (by omega) (by decide)
      omega
    have hq0 : 0 ≤ (r * 4294967296 + A.getD k 0) / w := Int.ediv_nonneg hR (by omega)
    have hm0 := Int.emod_nonneg (r * 4294967296 + A.getD k 0) (show w ≠ 0 by omega)
    have hm1 := Int.emod_lt_of_pos (r * 4294967296 + A.getD k 0) hw.1
    obtain ⟨O, t, o1, o2, o3, o4, o5⟩ := ih _ rfl (by omega) ((r * 4294967296 + A.getD k 0) / w :: Q) ((r * 4294967296 + A.getD k 0) % w) (by simp; omega) (.cons ⟨hq0, hq⟩ hQo) ⟨hm0, hm1⟩ (by
      rw [list_at A (by omega)]
      show A.getD k 0 + 4294967296 * valD WB (A.drop (k + 1)) = w * ((r * 4294967296 + A.getD k 0) / w + 4294967296 * valD WB Q) + (r * 4294967296 + A.getD k 0) % w
      have := Int.mul_ediv_add_emod (r * 4294967296 + A.getD k 0) w
      have e2 := Int.mul_add w ((r * 4294967296 + A.getD k 0) / w) (4294967296 * valD WB Q)
      have e3 := Int.mul_left_comm w 4294967296 (valD WB Q)
      rw [hv, e2, e3]
      omega)
    refine ⟨O, t, o1, o2, o3, o4, fun z hz => ?_⟩
    have key := o5 z hz
    have sh : IntKind.u64.wrap (r * 4294967296) = r * 4294967296 := by rw [wU64]; omega
    have cu : IntKind.u64.wrap (A.getD k 0) = A.getD k 0 := by rw [wU64]; omega
    have cw : IntKind.u64.wrap w = w := by rw [wU64]; omega
    have bo := bor_high hr4 ⟨ha.1, ha'⟩
    have w0 : ¬ w = 0 := by omega
    have td : (r * 4294967296 + A.getD k 0).tdiv w = (r * 4294967296 + A.getD k 0) / w := Int.tdiv_eq_ediv_of_nonneg hR
    have tm : (r * 4294967296 + A.getD k 0).tmod w = (r * 4294967296 + A.getD k 0) % w := Int.tmod_eq_emod_of_nonneg hR
    have q64 : IntKind.u64.wrap ((r * 4294967296 + A.getD k 0) / w) = (r * 4294967296 + A.getD k 0) / w := by rw [wU64]; omega
    have q32 : IntKind.u32.wrap ((r * 4294967296 + A.getD k 0) / w) = (r * 4294967296 + A.getD k 0) / w := by rw [IntKind.wrap_u32]; omega
    have hlen : (List.replicate (k + 1) (0 : Int) ++ Q).length = A.length := by simp; omega
    have len : k < (List.replicate (k + 1) (0 : Int) ++ Q).length := by omega
    have xm := sl_us.idxmk .u32 (S := [.arr (kRows .u32 (List.replicate (k + 1) 0 ++ Q)) (some (some 1)) false]) (id := 0) (off := 0) (n := A.length) (ex := true) (L := List.replicate (k + 1) 0 ++ Q) k rfl (by omega) (by omega)
    rw [Nat.zero_add] at xm
    have gk : ((kRows .u32 (List.replicate (k + 1) 0 ++ Q)).getD k []).length = 1 := by rw [kRows_get _ _ len]; rfl
    have set : ∀ v : Int, (kRows .u32 (List.replicate (k + 1) 0 ++ Q)).set k [.int .u32 v] = kRows .u32 (List.replicate k 0 ++ v :: Q) := fun v => by
      rw [kRows_set]
      congr 1
      have e : List.replicate (k + 1) (0 : Int) ++ Q = List.replicate k 0 ++ 0 :: Q := by
        rw [List.replicate_succ', List.append_assoc]; rfl
      rw [e, List.set_append, if_neg (by simp)]
      simp
    refine loopAt_step ok181_.good 1000 ?_
    ((repeat ((conv => lhs; whnf); simp only [go_sem, ↓reduceIte, Nat.reduceEqDiff, Nat.reduceBEq, Nat.reduceAdd, Nat.reduceMul, Nat.reduceSub, Nat.reduceLT, Nat.reduceLeDiff, reduceCtorEq, Int.reduceToNat, Int.reduceLE, Int.reduceLT, Int.reduceEq, sem181_, c, x1, Int.toNat_natCast, sh, cu, cw, bo, w0, td, tm, q64, q32, xm, gk, len, set, wd])); try (conv => lhs; whnf); try rfl)
    exact key
theorem call_divWord (m : Nat) (e1 : Bool) (w : Nat) (hw : 0 < w ∧ w < 4294967296) (hm : (words m).length ≤ 1000000) : callL Tryz.prog hints 181 [magE m e1, .int .u32 w] = some (.tup [magV (m / w), .int .u32 (m % w : Nat)]) := by
  have hM : 2000000 ≤ maxLen := by decide
  obtain ⟨O, t, o1, o2, o3, o4, o5⟩ := loop_divWord (words m) e1 (words_ok m) hm w ⟨by omega, by omega⟩ [.blk 0, .seq 0 31] (words m).length ((words m).length - 1) rfl (Nat.le_refl _) [] 0 (by simp) (.nil _) ⟨by omega, by omega⟩ (by rw [List.drop_length]; simp [valD])
  rw [words_val] at o4
  have hO := valD_nonneg o1
  obtain ⟨q, hq⟩ : ∃ q : Nat, valD WB O = q := ⟨(valD WB O).toNat, by omega⟩
  obtain ⟨s, rfl⟩ : ∃ s : Nat, t = s := ⟨t.toNat, by omega⟩
  rw [hq] at o4
  have e : m = w * q + s := by
    have : ((m : Nat) : Int) = ((w * q + s : Nat) : Int) := by rw [Int.natCast_add, Int.natCast_mul]; exact o4
    omega
  have hs : s < w := by omega
  have eq1 : m / w = q := by rw [e, Nat.mul_add_div hw.1, Nat.div_eq_of_lt hs, Nat.add_zero]
  have eq2 : m % w = s := by rw [e, Nat.mul_add_mod, Nat.mod_eq_of_lt hs]
  rw [eq1, eq2]
  have ct := call_Trim_ok (L := O) (by omega) o1
  rw [hq, Int.toNat_natCast] at ct
  have cc := callO_msl (S := [.arr (kRows .u32 O) (some (some 1)) false]) (id := 0) (n := (words m).length) (ex := true) ct rfl o2 (by simp)
  have mk := fun id => make_us id (words m).length (by omega)
  have wd : IntKind.i64.wrap (((words m).length : Int) - 1) = ((words m).length : Int) - 1 := by rw [IntKind.wrap_i64]; omega
  have cs : IntKind.u32.wrap (s : Int) = s := by rw [IntKind.wrap_u32]; omega
  have key := o5 (.tup [magV q, .int .u32 s], [.arr (kRows .u32 O) (some (some 1)) true]) (by
    refine exit_run ok181_.good 1000 ?_
    ((repeat ((conv => lhs; whnf); simp only [go_sem, ↓reduceIte, Nat.reduceEqDiff, Nat.reduceBEq, Nat.reduceAdd, Nat.reduceMul, Nat.reduceSub, Nat.reduceLT, Nat.reduceLeDiff, reduceCtorEq, Int.reduceToNat, Int.reduceLE, Int.reduceLT, Int.reduceEq, sem181_, cc, cs])); try (conv => lhs; whnf); try rfl))
  have key' : loopAt 0 fx181_ 0 244 1 [.blk 0, .seq 0 31] [(0, .sl (kRows .u32 (words m)) e1), (1, .int .u32 w), (6, .msl 0 0 (words m).length true), (7, .int .u64 0), (8, .int .i64 ((words m).length - 1))] [.arr (kRows .u32 (List.replicate (words m).length 0)) (some (some 1)) false] = some (.tup [magV q, .int .u32 s], [.arr (kRows .u32 O) (some (some 1)) true]) := by
    rw [List.append_nil] at key
    exact key
  refine FX.callL (r := (.tup [magV q, .int .u32 s], [.arr (kRows .u32 O) (some (some 1)) true])) ok181_ 1000 rfl rfl ?_ ?_
  · unfold magE
    ((repeat ((conv => lhs; whnf); simp only [go_sem, ↓reduceIte, Nat.reduceEqDiff, Nat.reduceBEq, Nat.reduceAdd, Nat.reduceMul, Nat.reduceSub, Nat.reduceLT, Nat.reduceLeDiff, reduceCtorEq, Int.reduceToNat, Int.reduceLE, Int.reduceLT, Int.reduceEq, sem181_, wd, mk])); try (conv => lhs; whnf); try rfl)
    exact key'
  · show (mapO (fzPV1 _) [magV q, .int .u32 s]).map PV.tup = _
    have f : fzPV1 [.arr (kRows .u32 O) (some (some 1)) true] (magV q) = some (magV q) := fzPV_sl _ _
    simp only [mapO, f, Option.bind_some]
    rfl
end
def blen (n : Nat) : Nat := if n = 0 then 0 else n.log2 + 1
theorem blen_le {n : Nat} (k : Nat) : blen n ≤ k ↔ n < 2 ^ k := by
  unfold blen
  by_cases h : n = 0
  · rw [if_pos h, h]
    simp [Nat.pow_pos]
  · rw [if_neg h]
    have := Nat.log2_lt (k := k) h
    omega
theorem blen_pos {n : Nat} (h : n ≠ 0) : 0 < blen n := by unfold blen; rw [if_neg h]; omega
theorem blen_ge {n : Nat} (h : n ≠ 0) : 2 ^ (blen n - 1) ≤ n := by
  have := blen_le (n := n) (blen n - 1)
  have := blen_pos h
  omega
theorem blen_lt (n : Nat) : n < 2 ^ blen n := (blen_le _).1 (Nat.le_refl _)
theorem blen_eq {n k : Nat} (h1 : 2 ^ k ≤ n) (h2 : n < 2 ^ (k + 1)) : blen n = k + 1 := by
  have a := (blen_le (n := n) (k + 1)).2 h2
  have b : ¬ blen n ≤ k := fun h => by have := (blen_le (n := n) k).1 h; omega
  omega
theorem blen_shift {n k : Nat} (h : 2 ^ k ≤ n) : blen n = k + blen (n / 2 ^ k) := by
  have hp : 0 < 2 ^ k := Nat.pow_pos (by decide)
  have hq : n / 2 ^ k ≠ 0 := by
    have : 1 ≤ n / 2 ^ k := (Nat.le_div_iff_mul_le hp).2 (by omega)
    omega
  have h1 := blen_ge hq
  have h2 := blen_lt (n / 2 ^ k)
  have h3 := blen_pos hq
  have e : blen n = (k + (blen (n / 2 ^ k) - 1)) + 1 := by
    refine blen_eq ?_ ?_
    · rw [Nat.pow_add, Nat.mul_comm]
      exact (Nat.le_div_iff_mul_le hp).1 h1
    · have : k + (blen (n / 2 ^ k) - 1) + 1 = k + blen (n / 2 ^ k) := by omega
      rw [this, Nat.pow_add, Nat.mul_comm]
      exact (Nat.div_lt_iff_lt_mul hp).1 h2
  omega
theorem blen_mono {m n : Nat} (h : m ≤ n) : blen m ≤ blen n := (blen_le _).2 (Nat.lt_of_le_of_lt h (blen_lt n))
theorem index_u8 {s : ByteArray} {n : Nat} (h : n < s.size) : indexO Tryz.prog 9 (.str s) (.int .u8 n) = some (.int .u8 (byteAt s n)) := by
  simp [indexO, tyStr, evIndex, byteAt]
  omega
def tab8 (s : ByteArray) : Bool := (List.range 256).all fun n => decide (n < s.size) && decide (byteAt s n = (blen n : Int))
theorem index_tab {s : ByteArray} (h : tab8 s = true) {n : Nat} (hn : n < 256) : indexO Tryz.prog 9 (.str s) (.int .u8 n) = some (.int .u8 (blen n)) := by
  have := List.all_eq_true.1 h n (List.mem_range.2 hn)
  simp only [Bool.and_eq_true, decide_eq_true_eq] at this
  rw [index_u8 this.1, this.2]
theorem d_int : (tyi Tryz.prog 3).d = .int .i64 := by kernel_rfl
theorem d_u8 : (tyi Tryz.prog 5).d = .int .u8 := by kernel_rfl
theorem known_u8 : (tyi Tryz.prog 5).known = true := by kernel_rfl
@[go_sem] theorem conv_u32_u8 (S : Store) (k : IntKind) (n : Int) : convertO Tryz.prog 126 5 S (.int k n) = some (.int .u8 (IntKind.u8.wrap n)) := by simp [convertO, known_u32, evConvert, d_u8]
@[go_sem] theorem conv_u8_int (S : Store) (k : IntKind) (n : Int) : convertO Tryz.prog 5 3 S (.int k n) = some (.int .i64 (IntKind.i64.wrap n)) := by simp [convertO, known_u8, evConvert, d_int]
@[go_sem] theorem pow16_32 : (2 : Int) ^ min 16 32 = 65536 := nr (by decide)
@[go_sem] theorem pow8_32 : (2 : Int) ^ min 8 32 = 256 := nr (by decide)
@[go_sem] theorem pow16_32' : (2 : Int) ^ min 16 IntKind.u32.bits = 65536 := nr (by decide)
@[go_sem] theorem pow8_32' : (2 : Int) ^ min 8 IntKind.u32.bits = 256 := nr (by decide)
@[go_sem] theorem fdiv_16 (a : Int) : a.fdiv 65536 = a / 65536 := Int.fdiv_eq_ediv_of_nonneg _ (by decide)
@[go_sem] theorem fdiv_8 (a : Int) : a.fdiv 256 = a / 256 := Int.fdiv_eq_ediv_of_nonneg _ (by decide)
section
attribute [local irreducible] Vs.callL Vs.callRL tyi callO callM callMV appendE storeE evLoad indexAddrO sliceO evFieldAddr evField buildO buildSliceO makeSliceO allocO boxed lenO copyE convertO indexO Vs.gc freezeAll
noncomputable def fx191_ : FX := ⟨Tryz.f191, hints.of 191, []⟩
theorem ok191_ : fx191_.ok 191 := ⟨by kernel_rfl, of_decide_eq_true (by kernel_rfl), by kernel_rfl, by kernel_rfl, by kernel_rfl, by kernel_rfl⟩
theorem sem191_ (b0 : Nat) (m : Md) (fs : List Fr) (e : Env) (S : Store) : sem b0 fx191_ m fs e S = run b0 fx191_ 1000 m fs e S := (sem_eq _ _ _ _ _ _).trans (run_sem b0 fx191_ ok191_.good 1000 m fs e S).symm
theorem call_Len32 (n : Nat) (hn : n < 4294967296) : callL Tryz.prog hints 191 [.int .u32 n] = some (.int .i64 (blen n)) := by
  have w64 : ∀ n < 4294967296, IntKind.i64.wrap (blen n : Int) = blen n := fun n hn => by
    have := (blen_le (n := n) 32).2 hn
    rw [IntKind.wrap_i64]; omega
  have wc : ∀ (c n : Nat), c ≤ 32 → n < 4294967296 → IntKind.i64.wrap ((c : Int) + blen n) = (c + blen n : Nat) := fun c n hc hn => by
    have := (blen_le (n := n) 32).2 hn
    rw [IntKind.wrap_i64]; omega
  refine FX.callL (r := (.int .i64 (blen n), [])) ok191_ 1000 rfl rfl ?_ rfl
  by_cases c1 : 65536 ≤ n
  · have e1 : blen n = 16 + blen (n / 65536) := blen_shift (n := n) (k := 16) c1
    obtain ⟨x, hx⟩ : ∃ x, x = n / 65536 := ⟨_, rfl⟩
    have hx' : (n : Int) / 65536 = x := by omega
    have d1 : (65536 : Int) ≤ n := by omega
    have e1' : blen n = 16 + blen x := by rw [e1, hx]
    have ux : IntKind.u32.wrap (x : Int) = x := by rw [IntKind.wrap_u32]; omega
    by_cases c2 : 256 ≤ x
    · have e2 : blen x = 8 + blen (x / 256) := blen_shift (n := x) (k := 8) c2
      obtain ⟨y, hy⟩ : ∃ y, y = x / 256 := ⟨_, rfl⟩
      have hy' : (x : Int) / 256 = y := by omega
      have d2 : (256 : Int) ≤ x := by omega
      have uy : IntKind.u32.wrap (y : Int) = y := by rw [IntKind.wrap_u32]; omega
      have u8 : IntKind.u8.wrap (y : Int) = y := by rw [IntKind.wrap_u8]; omega
      have e2' : blen n = 24 + blen y := by rw [e1', e2, hy]; omega
      have w1 := w64 y (by omega)
      have w2 : IntKind.i64.wrap (IntKind.i64.wrap (16 + 8) + (blen y : Int)) = blen n := by
        rw [show IntKind.i64.wrap (16 + 8) = 24 by decide, e2']; exact wc 24 y (by decide) (by omega)
      ((repeat ((conv => lhs; whnf); simp only [go_sem, ↓reduceIte, Nat.reduceEqDiff, Nat.reduceBEq, Nat.reduceAdd, Nat.reduceMul, Nat.reduceSub, Nat.reduceLT, Nat.reduceLeDiff, reduceCtorEq, Int.reduceToNat, Int.reduceLE, Int.reduceLT, Int.reduceEq, sem191_, d1, d2, hx', hy', ux, uy, u8])); try (conv => lhs; whnf); try rfl)
      rw [index_tab ?tab (by omega)]
      case tab => kernel_rfl
      ((repeat ((conv => lhs; whnf); simp only [go_sem, ↓reduceIte, Nat.reduceEqDiff, Nat.reduceBEq, Nat.reduceAdd, Nat.reduceMul, Nat.reduceSub, Nat.reduceLT, Nat.reduceLeDiff, reduceCtorEq, Int.reduceToNat, Int.reduceLE, Int.reduceLT, Int.reduceEq, sem191_, w1, w2])); try (conv => lhs; whnf); try rfl)
    · have d2 : ¬ (256 : Int) ≤ x := by omega
      have u8 : IntKind.u8.wrap (x : Int) = x := by rw [IntKind.wrap_u8]; omega
      have w1 := w64 x (by omega)
      have w2 : IntKind.i64.wrap (16 + (blen x : Int)) = blen n := by rw [e1']; exact wc 16 x (by decide) (by omega)
      ((repeat ((conv => lhs; whnf); simp only [go_sem, ↓reduceIte, Nat.reduceEqDiff, Nat.reduceBEq, Nat.reduceAdd, Nat.reduceMul, Nat.reduceSub, Nat.reduceLT, Nat.reduceLeDiff, reduceCtorEq, Int.reduceToNat, Int.reduceLE, Int.reduceLT, Int.reduceEq, sem191_, d1, d2, hx', ux, u8])); try (conv => lhs; whnf); try rfl)
      rw [index_tab ?tab (by omega)]
      case tab => kernel_rfl
      ((repeat ((conv => lhs; whnf); simp only [go_sem, ↓reduceIte, Nat.reduceEqDiff, Nat.reduceBEq, Nat.reduceAdd, Nat.reduceMul, Nat.reduceSub, Nat.reduceLT, Nat.reduceLeDiff, reduceCtorEq, Int.reduceToNat, Int.reduceLE, Int.reduceLT, Int.reduceEq, sem191_, w1, w2])); try (conv => lhs; whnf); try rfl)
  · have d1 : ¬ (65536 : Int) ≤ n := by omega
    by_cases c2 : 256 ≤ n
    · have e2 : blen n = 8 + blen (n / 256) := blen_shift (n := n) (k := 8) c2
      obtain ⟨y, hy⟩ : ∃ y, y = n / 256 := ⟨_, rfl⟩
      have hy' : (n : Int) / 256 = y := by omega
      have d2 : (256 : Int) ≤ n := by omega
      have uy : IntKind.u32.wrap (y : Int) = y := by rw [IntKind.wrap_u32]; omega
      have u8 : IntKind.u8.wrap (y : Int) = y := by rw [IntKind.wrap_u8]; omega
      have e2' : blen n = 8 + blen y := by rw [e2, hy]
      have w1 := w64 y (by omega)
      have w2 : IntKind.i64.wrap (IntKind.i64.wrap (0 + 8) + (blen y : Int)) = blen n := by
        rw [show IntKind.i64.wrap (0 + 8) = 8 by decide, e2']; exact wc 8 y (by decide) (by omega)
      ((repeat ((conv => lhs; whnf); simp only [go_sem, ↓reduceIte, Nat.reduceEqDiff, Nat.reduceBEq, Nat.reduceAdd, Nat.reduceMul, Nat.reduceSub, Nat.reduceLT, Nat.reduceLeDiff, reduceCtorEq, Int.reduceToNat, Int.reduceLE, Int.reduceLT, Int.reduceEq, sem191_, d1, d2, hy', uy, u8])); try (conv => lhs; whnf); try rfl)
      rw [index_tab ?tab (by omega)]
      case tab => kernel_rfl
      ((repeat ((conv => lhs; whnf); simp only [go_sem, ↓reduceIte, Nat.reduceEqDiff, Nat.reduceBEq, Nat.reduceAdd, Nat.reduceMul, Nat.reduceSub, Nat.reduceLT, Nat.reduceLeDiff, reduceCtorEq, Int.reduceToNat, Int.reduceLE, Int.reduceLT, Int.reduceEq, sem191_, w1, w2])); try (conv => lhs; whnf); try rfl)
    · have d2 : ¬ (256 : Int) ≤ n := by omega
      have u8 : IntKind.u8.wrap (n : Int) = n := by rw [IntKind.wrap_u8]; omega
      have w1 := w64 n (by omega)
      have w2 : IntKind.i64.wrap ((0 : Int) + blen n) = blen n := by rw [Int.zero_add]; exact w1
      ((repeat ((conv => lhs; whnf); simp only [go_sem, ↓reduceIte, Nat.reduceEqDiff, Nat.reduceBEq, Nat.reduceAdd, Nat.reduceMul, Nat.reduceSub, Nat.reduceLT, Nat.reduceLeDiff, reduceCtorEq, Int.reduceToNat, Int.reduceLE, Int.reduceLT, Int.reduceEq, sem191_, d1, d2, u8])); try (conv => lhs; whnf); try rfl)
      rw [index_tab ?tab (by omega)]
      case tab => kernel_rfl
      ((repeat ((conv => lhs; whnf); simp only [go_sem, ↓reduceIte, Nat.reduceEqDiff, Nat.reduceBEq, Nat.reduceAdd, Nat.reduceMul, Nat.reduceSub, Nat.reduceLT, Nat.reduceLeDiff, reduceCtorEq, Int.reduceToNat, Int.reduceLE, Int.reduceLT, Int.reduceEq, sem191_, w1, w2])); try (conv => lhs; whnf); try rfl)
noncomputable def fx182_ : FX := ⟨Tryz.f182, hints.of 182, []⟩
theorem ok182_ : fx182_.ok 182 := ⟨by kernel_rfl, of_decide_eq_true (by kernel_rfl), by kernel_rfl, by kernel_rfl, by kernel_rfl, by kernel_rfl⟩
theorem sem182_ (b0 : Nat) (m : Md) (fs : List Fr) (e : Env) (S : Store) : sem b0 fx182_ m fs e S = run b0 fx182_ 1000 m fs e S := (sem_eq _ _ _ _ _ _).trans (run_sem b0 fx182_ ok182_.good 1000 m fs e S).symm
theorem call_LeadingZeros32 (n : Nat) (hn : n < 4294967296) : callL Tryz.prog hints 182 [.int .u32 n] = some (.int .i64 (32 - blen n : Nat)) := by
  have hb := (blen_le (n := n) 32).2 hn
  have cl := fun S => callO_plain (S := S) (call_Len32 n hn) (by simp [Plain.int])
  have w : IntKind.i64.wrap ((32 : Int) - blen n) = (32 - blen n : Nat) := by rw [IntKind.wrap_i64]; omega
  refine FX.callL (r := (.int .i64 (32 - blen n : Nat), [])) ok182_ 1000 rfl rfl ?_ rfl
  ((repeat ((conv => lhs; whnf); simp only [go_sem, ↓reduceIte, Nat.reduceEqDiff, Nat.reduceBEq, Nat.reduceAdd, Nat.reduceMul, Nat.reduceSub, Nat.reduceLT, Nat.reduceLeDiff, reduceCtorEq, Int.reduceToNat, Int.reduceLE, Int.reduceLT, Int.reduceEq, sem182_, cl, w])); try (conv => lhs; whnf); try rfl)
end
theorem quo_of {a p x n : Nat} (h : a + p * x = n) (hlt : a < p) : n / p = x := by
  rw [← h, Nat.add_mul_div_left _ _ (by omega), Nat.div_eq_of_lt hlt, Nat.zero_add]
theorem quo_le {a p x n : Nat} (h : a + p * x = n) (hx : x ≠ 0) : p ≤ n := by
  have := Nat.mul_le_mul_left p (show 1 ≤ x by omega)
  omega
theorem words_blen {n : Nat} (h : n ≠ 0) : ∃ x : Nat, x ≠ 0 ∧ x < 4294967296 ∧ (words n).getD ((words n).length - 1) 0 = x ∧ (words n).length ≠ 0 ∧ blen n = 32 * ((words n).length - 1) + blen x := by
  have h0 : (words n).length ≠ 0 := fun e => h (words_len0.1 e)
  have hl := digs_last WB2 h
  have hx := (words_ok n).getD (by decide) ((words n).length - 1)
  obtain ⟨x, ex⟩ : ∃ x : Nat, (words n).getD ((words n).length - 1) 0 = x := ⟨((words n).getD ((words n).length - 1) 0).toNat, by omega⟩
  have x0 : x ≠ 0 := fun e => by
    subst e
    exact hl ex
  have x1 : x < 4294967296 := by
    have : ((words n).getD ((words n).length - 1) 0) < 4294967296 := hx.2
    omega
  refine ⟨x, x0, x1, ex, h0, ?_⟩
  have hv := words_val n
  have hsp : words n = (words n).take ((words n).length - 1) ++ [(x : Int)] := by
    rw [← ex]
    conv => lhs; rw [← List.take_append_drop ((words n).length - 1) (words n)]
    congr 1
    rw [list_at _ (by omega)]
    congr 1
    try (rw [List.drop_eq_nil_iff]; omega)
  have hok : OkD WB ((words n).take ((words n).length - 1)) := fun y hy => words_ok n y (List.mem_of_mem_take hy)
  have hlt := valD_lt hok
  have hge := valD_nonneg hok
  have hlen : ((words n).take ((words n).length - 1)).length = (words n).length - 1 := by rw [List.length_take]; omega
  rw [hsp, valD_append, hlen] at hv
  rw [hlen] at hlt
  obtain ⟨a, ha⟩ : ∃ a : Nat, valD WB ((words n).take ((words n).length - 1)) = a := ⟨(valD WB ((words n).take ((words n).length - 1))).toNat, by omega⟩
  rw [ha] at hv hlt
  have hv' : a + WB ^ ((words n).length - 1) * x = n := by
    have : ((a + WB ^ ((words n).length - 1) * x : Nat) : Int) = n := by
      rw [← hv]
      simp [valD]
    exact Int.ofNat.inj this
  have hlt' : a < WB ^ ((words n).length - 1) := by
    have : ((a : Nat) : Int) < ((WB ^ ((words n).length - 1) : Nat) : Int) := by rw [Int.natCast_pow]; exact hlt
    omega
  have hp : WB ^ ((words n).length - 1) = 2 ^ (32 * ((words n).length - 1)) := by rw [Nat.pow_mul]
  rw [hp] at hv' hlt'
  have hq := quo_of hv' hlt'
  have hle := quo_le hv' (show x ≠ 0 from x0)
  rw [blen_shift hle, hq]
section
attribute [local irreducible] Vs.callL Vs.callRL tyi callO callM callMV appendE storeE evLoad indexAddrO sliceO evFieldAddr evField buildO buildSliceO makeSliceO allocO boxed lenO copyE convertO indexO Vs.gc freezeAll
noncomputable def fx189_ : FX := ⟨Tryz.f189, hints.of 189, []⟩
theorem ok189_ : fx189_.ok 189 := ⟨by kernel_rfl, of_decide_eq_true (by kernel_rfl), by kernel_rfl, by kernel_rfl, by kernel_rfl, by kernel_rfl⟩
theorem sem189_ (b0 : Nat) (m : Md) (fs : List Fr) (e : Env) (S : Store) : sem b0 fx189_ m fs e S = run b0 fx189_ 1000 m fs e S := (sem_eq _ _ _ _ _ _).trans (run_sem b0 fx189_ ok189_.good 1000 m fs e S).symm
theorem call_Bits (n : Nat) (e : Bool) (hm : (words n).length ≤ 1000000) : callL Tryz.prog hints 189 [magE n e] = some (.int .i64 (blen n)) := by
  refine FX.callL (r := (.int .i64 (blen n), [])) ok189_ 1000 rfl rfl ?_ rfl
  unfold magE
  by_cases h : n = 0
  · have h0 := words_len0.2 h
    have hb : blen n = 0 := by rw [h]; rfl
    ((repeat ((conv => lhs; whnf); simp only [go_sem, ↓reduceIte, Nat.reduceEqDiff, Nat.reduceBEq, Nat.reduceAdd, Nat.reduceMul, Nat.reduceSub, Nat.reduceLT, Nat.reduceLeDiff, reduceCtorEq, Int.reduceToNat, Int.reduceLE, Int.reduceLT, Int.reduceEq, sem189_, h0, hb])); try (conv => lhs; whnf); try rfl)
  · obtain ⟨x, x0, x1, ex, h0, hb⟩ := words_blen h
    have bx := (blen_le (n := x) 32).2 x1
    have c : ¬ ((words n).length : Int) = 0 := by omega
    have cl := fun S => callO_plain (S := S) (call_LeadingZeros32 x x1) (by simp [Plain.int])
    have w1 : IntKind.i64.wrap (32 * ((words n).length : Int)) = 32 * ((words n).length : Int) := by rw [IntKind.wrap_i64]; omega
    have w2 : IntKind.i64.wrap (((words n).length : Int) - 1) = ((words n).length - 1 : Nat) := by rw [IntKind.wrap_i64]; omega
    have w3 : IntKind.i64.wrap (32 * ((words n).length : Int) - (32 - blen x : Nat)) = blen n := by rw [IntKind.wrap_i64, hb]; omega
    have lt : ((words n).length - 1 : Nat) < (words n).length := by omega
    have ht : (((words n).length - 1 : Nat) : Int).toNat = (words n).length - 1 := Int.toNat_natCast _
    have b0 : (0 : Int) ≤ (((words n).length - 1 : Nat) : Int) := by omega
    have b1 : (((words n).length - 1 : Nat) : Int) < (words n).length := by omega
    ((repeat ((conv => lhs; whnf); simp only [go_sem, ↓reduceIte, Nat.reduceEqDiff, Nat.reduceBEq, Nat.reduceAdd, Nat.reduceMul, Nat.reduceSub, Nat.reduceLT, Nat.reduceLeDiff, reduceCtorEq, Int.reduceToNat, Int.reduceLE, Int.reduceLT, Int.reduceEq, sem189_, c, cl, w1, w2, w3, ht, ex, b0, b1, lt, h0])); try (conv => lhs; whnf); try rfl)
end
end Go.Vs
end
section
set_option linter.unusedVariables false
set_option linter.unusedSimpArgs false
set_option maxRecDepth 100000
namespace Go.Vs
open Go Go.Proofs
theorem two_split {p : Nat} (hp : p < 32) : 2 ^ p * 2 ^ (32 - p) = 4294967296 := by
  rw [← Nat.pow_add, show p + (32 - p) = 32 by omega]
theorem shl_low {a p c : Nat} (hp : p < 32) (hc : c < 2 ^ p) : c + (a * 2 ^ p) % 4294967296 < 4294967296 ∧ bor .u32 c ((a * 2 ^ p % 4294967296 : Nat) : Int) = (c + a * 2 ^ p % 4294967296 : Nat) := by
  have e := two_split hp
  have hq : 0 < 2 ^ (32 - p) := Nat.pow_pos (by decide)
  have e2 : a * 2 ^ p % 4294967296 = a % 2 ^ (32 - p) * 2 ^ p := by
    rw [← e, Nat.mul_comm (2 ^ p) (2 ^ (32 - p)), Nat.mul_mod_mul_right]
  have hb := Nat.mod_lt a hq
  rw [e2]
  generalize a % 2 ^ (32 - p) = b at *
  have h1 : (b + 1) * 2 ^ p ≤ 2 ^ (32 - p) * 2 ^ p := Nat.mul_le_mul_right _ (by omega)
  rw [Nat.mul_comm (2 ^ (32 - p)), e, Nat.add_mul, Nat.one_mul] at h1
  refine ⟨by omega, ?_⟩
  show IntKind.u32.wrap (((BitVec.ofInt 32 (c : Int) ||| BitVec.ofInt 32 ((b * 2 ^ p : Nat) : Int)).toNat : Nat) : Int) = _
  rw [BitVec.toNat_or, BitVec.ofInt_natCast, BitVec.ofInt_natCast, BitVec.toNat_ofNat, BitVec.toNat_ofNat, Nat.mod_eq_of_lt (by omega), Nat.mod_eq_of_lt (by omega)]
  have e2 : c ||| b * 2 ^ p = c + b * 2 ^ p := by
    have := Nat.shiftLeft_add_eq_or_of_lt (i := p) (b := c) hc b
    rw [Nat.shiftLeft_eq] at this
    rw [Nat.or_comm, ← this, Nat.add_comm]
  rw [e2, IntKind.wrap_u32]
  omega
theorem valD_rep0 (b : Nat) : ∀ k : Nat, valD b (List.replicate k 0) = 0
  | 0 => rfl
  | k + 1 => by rw [List.replicate_succ, valD, valD_rep0 b k]; simp
@[go_sem] theorem conv_int_uint (S : Store) (k : IntKind) (n : Int) : convertO Tryz.prog 3 143 S (.int k n) = some (.int .u64 (IntKind.u64.wrap n)) := by
  simp [convertO, show (tyi Tryz.prog 3).known = true by kernel_rfl, evConvert, show (tyi Tryz.prog 143).d = .int .u64 by kernel_rfl]
section
attribute [local irreducible] Vs.callL Vs.callRL tyi callO callM callMV appendE storeE evLoad indexAddrO sliceO evFieldAddr evField buildO buildSliceO makeSliceO allocO boxed lenO copyE convertO indexO Vs.gc freezeAll
noncomputable def fx183_ : FX := ⟨Tryz.f183, hints.of 183, []⟩
theorem ok183_ : fx183_.ok 183 := ⟨by kernel_rfl, of_decide_eq_true (by kernel_rfl), by kernel_rfl, by kernel_rfl, by kernel_rfl, by kernel_rfl⟩
theorem sem183_ (b0 : Nat) (m : Md) (fs : List Fr) (e : Env) (S : Store) : sem b0 fx183_ m fs e S = run b0 fx183_ 1000 m fs e S := (sem_eq _ _ _ _ _ _).trans (run_sem b0 fx183_ ok183_.good 1000 m fs e S).symm
theorem loop_Shl (A : List Int) (e1 : Bool) (hA : OkD WB A) (ha : A.length ≤ 1000000) (wq p : Nat) (hw : wq ≤ 1000000) (hp : p < 32) (fs : List Fr) : ∀ (r i : Nat), i + r = A.length → ∀ (P : List Int) (c : Nat), P.length = wq + i → OkD WB P → c < 2 ^ p → valD WB P + (4294967296 : Int) ^ (wq + i) * c = (4294967296 : Int) ^ wq * (2 : Int) ^ p * valD WB (A.take i) →
    ∃ O : List Int, OkD WB O ∧ O.length = A.length + wq + 1 ∧ valD WB O = (4294967296 : Int) ^ wq * (2 : Int) ^ p * valD WB A ∧ ∀ z : PV × Store, exitTo 0 fx183_ 0 fs [(5, .undef), (6, .undef), (7, .msl 0 0 (A.length + wq + 1) true), (25, .undef), (26, .undef), (27, .undef), (28, .undef)] [.arr (kRows .u32 O) (some (some 1)) false] = some z →
    loopAt 0 fx183_ 0 500 1 fs [(5, .int .i64 wq), (6, .int .u64 p), (7, .msl 0 0 (A.length + wq + 1) true), (25, .sl (kRows .u32 A) e1), (26, .int .i64 A.length), (27, .int .i64 i)] [.arr (kRows .u32 (P ++ (c : Int) :: List.replicate r 0)) (some (some 1)) false] = some z := by
  have hM : 3000000 ≤ maxLen := by decide
  intro r
  induction r with
  | zero =>
    intro i hi P c hP hPo hc hv
    have h1 : ¬ (i : Int) < (A.length : Int) := by omega
    have hi' : i = A.length := by omega
    have hq : 2 ^ p ≤ 4294967296 := by have := two_split hp; have := Nat.le_mul_of_pos_right (2 ^ p) (show 0 < 2 ^ (32 - p) from Nat.pow_pos (by decide)); omega
    refine ⟨P ++ [(c : Int)], hPo.append (.cons ⟨by omega, by show (c : Int) < ((4294967296 : Nat) : Int); omega⟩ (.nil _)), by simp [hP]; omega, ?_, fun z hz => ?_⟩
    · rw [valD_append, hP]
      have e0 : (((WB : Nat) : Int)) = (4294967296 : Int) := rfl
      have e1 : valD WB [(c : Int)] = c := by simp [valD]
      rw [e0, e1, hv, List.take_of_length_le (by omega)]
    · refine loopAt_step ok183_.good 1000 ?_
      simp only [List.replicate_zero]
      ((repeat ((conv => lhs; whnf); simp only [go_sem, simprocAttr, sem183_, h1])); try (conv => lhs; whnf); try rfl)
      exact hz
  | succ r ih =>
    intro i hi P c hP hPo hc hv
    have h1 : (i : Int) < (A.length : Int) := by omega
    have w1 := wrap_succ (i := i) (n := A.length) (by omega) (by omega)
    have x1 : 0 ≤ (i : Int) ∧ (i : Int) < (A.length : Int) := ⟨by omega, h1⟩
    have hx := hA.getD (by decide) i
    have hx' : A.getD i 0 < 4294967296 := hx.2
    obtain ⟨a, ea⟩ : ∃ a : Nat, A.getD i 0 = a := ⟨(A.getD i 0).toNat, by omega⟩
    have sl := shl_low (a := a) hp hc
    have hq : 2 ^ p ≤ 2147483648 := by
      have := Nat.pow_le_pow_right (n := 2) (by decide) (show p ≤ 31 by omega)
      exact this
    obtain ⟨x, hX⟩ : ∃ x : Nat, x = a * 2 ^ p := ⟨_, rfl⟩
    have hXl : x ≤ 4294967295 * 2 ^ p := by rw [hX]; exact Nat.mul_le_mul_right _ (by omega)
    obtain ⟨lo, hlo⟩ : ∃ lo : Nat, lo = x % 4294967296 := ⟨_, rfl⟩
    obtain ⟨up, hup⟩ : ∃ up : Nat, up = x / 4294967296 := ⟨_, rfl⟩
    have hsplit : x = lo + 4294967296 * up := by omega
    have hup' : up < 2 ^ p := by
      rw [hup]; exact (Nat.div_lt_iff_lt_mul (by decide)).2 (by have : 0 < 2 ^ p := Nat.pow_pos (by decide); omega)
    rw [← hX, ← hlo] at sl
    have et : A.take (i + 1) = A.take i ++ [(a : Int)] := by
      rw [List.take_add_one]
      have : A[i]? = some (A.getD i 0) := by rw [List.getElem?_eq_getElem (by omega)]; simp [List.getD_eq_getElem?_getD, show i < A.length by omega]
      rw [this, ea]; rfl
    have e0 : (((WB : Nat) : Int)) = (4294967296 : Int) := rfl
    obtain ⟨O, o1, o2, o3, o4⟩ := ih (i + 1) (by omega) (P ++ [((c + lo : Nat) : Int)]) up (by simp [hP]; omega) (hPo.append (.cons ⟨by omega, by show ((c + lo : Nat) : Int) < ((4294967296 : Nat) : Int); omega⟩ (.nil _))) hup' (by
      have hti : (A.take i).length = i := by simp; omega
      have s1 : valD WB [(a : Int)] = a := by simp [valD]
      have s2 : valD WB [((c + lo : Nat) : Int)] = (c : Int) + lo := by simp [valD]
      rw [et, valD_append, valD_append, hti, hP, e0, s1, s2, Int.mul_add, Int.mul_add, ← hv]
      have p1 : (4294967296 : Int) ^ (wq + (i + 1)) = 4294967296 ^ (wq + i) * 4294967296 := by rw [← Nat.add_assoc, Int.pow_succ]
      have p2 : (4294967296 : Int) ^ wq * (2 : Int) ^ p * (4294967296 ^ i * a) = 4294967296 ^ (wq + i) * (x : Int) := by
        rw [hX, Int.natCast_mul, Int.natCast_pow, Int.pow_add]
        have : ((2 : Nat) : Int) = 2 := rfl
        rw [this]
        ac_rfl
      rw [p1, p2, hsplit, Int.mul_assoc]
      have : (((lo + 4294967296 * up : Nat) : Int)) = lo + 4294967296 * up := by omega
      rw [this, Int.mul_add]
      omega)
    refine ⟨O, o1, o2, o3, fun z hz => ?_⟩
    have key := o4 z hz
    have hs : min p 64 = p := by omega
    have ca : IntKind.u64.wrap (a : Int) = a := by rw [wU64]; omega
    have ap : (a : Int) * 2 ^ p = (x : Int) := by rw [hX, Int.natCast_mul, Int.natCast_pow]; rfl
    have cx : IntKind.u64.wrap (x : Int) = x := by rw [wU64]; omega
    have cl : IntKind.u32.wrap (x : Int) = lo := by rw [IntKind.wrap_u32]; omega
    have dx : (x : Int) / 4294967296 = up := by omega
    have cu6 : IntKind.u64.wrap (up : Int) = up := by rw [wU64]; omega
    have cu : IntKind.u32.wrap (up : Int) = up := by rw [IntKind.wrap_u32]; omega
    have wi : IntKind.i64.wrap ((i : Int) + wq) = ((wq + i : Nat) : Int) := by rw [IntKind.wrap_i64]; omega
    have wi2 : IntKind.i64.wrap (((wq + i : Nat) : Int) + 1) = ((wq + i + 1 : Nat) : Int) := by rw [IntKind.wrap_i64]; omega
    have hl1 : (P ++ (c : Int) :: List.replicate (r + 1) (0 : Int)).length = A.length + wq + 1 := by simp; omega
    have hl2 : (P ++ ((c + lo : Nat) : Int) :: List.replicate (r + 1) (0 : Int)).length = A.length + wq + 1 := by simp; omega
    have xm1 := sl_us.idxmk .u32 (S := [.arr (kRows .u32 (P ++ (c : Int) :: List.replicate (r + 1) 0)) (some (some 1)) false]) (id := 0) (off := 0) (n := A.length + wq + 1) (ex := true) (L := P ++ (c : Int) :: List.replicate (r + 1) 0) (wq + i) rfl (by omega) (by omega)
    have xm2 := sl_us.idxmk .u32 (S := [.arr (kRows .u32 (P ++ ((c + lo : Nat) : Int) :: List.replicate (r + 1) 0)) (some (some 1)) false]) (id := 0) (off := 0) (n := A.length + wq + 1) (ex := true) (L := P ++ ((c + lo : Nat) : Int) :: List.replicate (r + 1) 0) (wq + i + 1) rfl (by omega) (by omega)
    rw [Nat.zero_add] at xm1 xm2
    have len1 : wq + i < (P ++ (c : Int) :: List.replicate (r + 1) (0 : Int)).length := by omega
    have len2 : wq + i + 1 < (P ++ ((c + lo : Nat) : Int) :: List.replicate (r + 1) (0 : Int)).length := by omega
    have get : (P ++ (c : Int) :: List.replicate (r + 1) (0 : Int)).getD (wq + i) 0 = c := by
      rw [← hP]; simp [List.getD_eq_getElem?_getD]
    have gk1 := kRows_get .u32 (P ++ (c : Int) :: List.replicate (r + 1) 0) len1
    rw [get] at gk1
    have gk2 : ((kRows .u32 (P ++ ((c + lo : Nat) : Int) :: List.replicate (r + 1) 0)).getD (wq + i + 1) []).length = 1 := by rw [kRows_get _ _ len2]; rfl
    have set1 : (kRows .u32 (P ++ (c : Int) :: List.replicate (r + 1) 0)).set (wq + i) [.int .u32 ((c + lo : Nat) : Int)] = kRows .u32 (P ++ ((c + lo : Nat) : Int) :: List.replicate (r + 1) 0) := by
      rw [kRows_set, ← hP, List.set_append, if_neg (by simp)]
      simp
    have set2 : (kRows .u32 (P ++ ((c + lo : Nat) : Int) :: List.replicate (r + 1) 0)).set (wq + i + 1) [.int .u32 (up : Int)] = kRows .u32 ((P ++ [((c + lo : Nat) : Int)]) ++ (up : Int) :: List.replicate r 0) := by
      rw [kRows_set, ← hP, List.set_append, if_neg (by simp)]
      have : P.length + 1 - P.length = 1 := by omega
      rw [this, List.replicate_succ]
      simp
    have sl2 := sl.2
    refine loopAt_step ok183_.good 1000 ?_
    ((repeat ((conv => lhs; whnf); simp only [go_sem, simprocAttr, sem183_, h1, x1, Int.toNat_natCast, ea, hs, ca, ap, cx, cl, dx, cu6, cu, wi, wi2, xm1, xm2, len1, len2, gk1, gk2, set1, set2, sl2, w1])); try (conv => lhs; whnf); try rfl)
    exact key
theorem call_Shl (m : Nat) (e1 : Bool) (k : Nat) (hk : k ≤ 32000000) (hm : (words m).length ≤ 1000000) : callL Tryz.prog hints 183 [magE m e1, .int .i64 k] = some (if m = 0 then .sl [] true else magV (m * 2 ^ k)) := by
  have hM : 3000000 ≤ maxLen := by decide
  by_cases h : m = 0
  · rw [if_pos h]
    refine FX.callL (r := (.sl [] true, [])) ok183_ 1000 rfl rfl ?_ rfl
    unfold magE
    have c : (words m).length = 0 := words_len0.2 h
    ((repeat ((conv => lhs; whnf); simp only [go_sem, simprocAttr, sem183_, c])); try (conv => lhs; whnf); try rfl)
  · rw [if_neg h]
    have c0 : (words m).length ≠ 0 := fun e => h (words_len0.1 e)
    have c : ¬ ((words m).length : Int) = 0 := by omega
    obtain ⟨q, hq⟩ : ∃ q, q = k / 32 := ⟨_, rfl⟩
    obtain ⟨p, hp⟩ : ∃ p, p = k % 32 := ⟨_, rfl⟩
    have hpq : k = 32 * q + p := by omega
    obtain ⟨O, o1, o2, o3, o4⟩ := loop_Shl (words m) e1 (words_ok m) hm q p (by omega) (by omega) [.blk 0, .seq 0 63] (words m).length 0 (by omega) (List.replicate q 0) 0 (by simp) (fun x hx => by
      rw [List.eq_of_mem_replicate hx]; exact ⟨Int.le_refl 0, by decide⟩) (Nat.pow_pos (by decide)) (by
      rw [valD_rep0]; simp [valD])
    have hv : (valD WB O).toNat = m * 2 ^ k := by
      rw [o3, words_val]
      have : (4294967296 : Int) ^ q * 2 ^ p * (m : Int) = ((m * 2 ^ k : Nat) : Int) := by
        rw [hpq, Nat.pow_add, Nat.pow_mul]
        have : (2 ^ 32 : Nat) = 4294967296 := by decide
        rw [this]
        simp only [Int.natCast_mul, Int.natCast_pow]
        have a1 : ((4294967296 : Nat) : Int) = 4294967296 := rfl
        have a2 : ((2 : Nat) : Int) = 2 := rfl
        rw [a1, a2, Int.mul_comm]
      rw [this, Int.toNat_natCast]
    have ct := call_Trim_ok (L := O) (by omega) o1
    rw [hv] at ct
    have cc := callO_msl (S := [.arr (kRows .u32 O) (some (some 1)) false]) (id := 0) (n := (words m).length + q + 1) (ex := true) ct rfl o2 (by simp)
    have mk := fun id => make_us id ((words m).length + q + 1) (by omega)
    have wi : IntKind.i64.wrap (((words m).length : Int) + (q : Int)) = (((words m).length + q : Nat) : Int) := by rw [IntKind.wrap_i64]; omega
    have wi2 : IntKind.i64.wrap ((((words m).length + q : Nat) : Int) + 1) = (((words m).length + q + 1 : Nat) : Int) := by rw [IntKind.wrap_i64]; omega
    have dq : (k : Int).tdiv 32 = q := by rw [Int.tdiv_eq_ediv_of_nonneg (by omega)]; omega
    have dp : (k : Int).tmod 32 = p := by rw [Int.tmod_eq_emod_of_nonneg (by omega)]; omega
    have wq : IntKind.i64.wrap (q : Int) = q := by rw [IntKind.wrap_i64]; omega
    have wp : IntKind.i64.wrap (p : Int) = p := by rw [IntKind.wrap_i64]; omega
    have up : IntKind.u64.wrap (p : Int) = p := by rw [wU64]; omega
    have er : List.replicate ((words m).length + q + 1) (0 : Int) = List.replicate q 0 ++ 0 :: List.replicate (words m).length 0 := by
      rw [← List.replicate_succ, List.replicate_append_replicate]; congr 1; omega
    have key := o4 (magV (m * 2 ^ k), [.arr (kRows .u32 O) (some (some 1)) true]) (by
      refine exit_run ok183_.good 1000 ?_
      ((repeat ((conv => lhs; whnf); simp only [go_sem, simprocAttr, sem183_, cc])); try (conv => lhs; whnf); try rfl))
    refine FX.callL (r := (magV (m * 2 ^ k), [.arr (kRows .u32 O) (some (some 1)) true])) ok183_ 1000 rfl rfl ?_ (fzPV_sl _ _)
    unfold magE
    have key' : loopAt 0 fx183_ 0 500 1 [.blk 0, .seq 0 63] [(5, .int .i64 q), (6, .int .u64 p), (7, .msl 0 0 ((words m).length + q + 1) true), (25, .sl (kRows .u32 (words m)) e1), (26, .int .i64 (words m).length), (27, .int .i64 0)] [.arr (kRows .u32 (List.replicate ((words m).length + q + 1) 0)) (some (some 1)) false] = some (magV (m * 2 ^ k), [.arr (kRows .u32 O) (some (some 1)) true]) := by
      rw [er]; exact key
    ((repeat ((conv => lhs; whnf); simp only [go_sem, simprocAttr, sem183_, c, c0, dq, dp, wq, wp, up, wi, wi2, mk])); try (conv => lhs; whnf); try rfl)
    exact key'
end
end Go.Vs
end
section
set_option linter.unusedVariables false
set_option linter.unusedSimpArgs false
set_option maxRecDepth 100000
namespace Go.Vs
open Go Go.Proofs
theorem bor_comm (k : IntKind) (a b : Int) : bor k a b = bor k b a := by unfold bor; rw [BitVec.or_comm]
def shrF (q : Int) : List Int → List Int
  | [] => []
  | a :: r => ((a + 4294967296 * r.getD 0 0) / q) % 4294967296 :: shrF q r
theorem shrF_len (q : Int) : ∀ L : List Int, (shrF q L).length = L.length
  | [] => rfl
  | a :: r => by simp [shrF, shrF_len q r]
theorem shrF_ok (q : Int) : ∀ L : List Int, OkD WB (shrF q L)
  | [] => .nil _
  | a :: r => .cons ⟨Int.emod_nonneg _ (by decide), Int.emod_lt_of_pos _ (by decide)⟩ (shrF_ok q r)
theorem shrF_get (q : Int) : ∀ (L : List Int) (i : Nat), i < L.length → (shrF q L).getD i 0 = ((L.getD i 0 + 4294967296 * L.getD (i + 1) 0) / q) % 4294967296
  | [], i, h => by simp at h
  | a :: r, 0, h => by simp [shrF, List.getD_eq_getElem?_getD]
  | a :: r, i + 1, h => by
    have := shrF_get q r i (by simpa using h)
    simp only [shrF, List.getD_cons_succ]
    exact this
theorem shr_step {a r0 R q s : Int} (hq : 0 < q) (hs : 0 < s) (hqs : q * s = 4294967296) (ha : 0 ≤ a ∧ a < 4294967296) (hr : 0 ≤ r0) : ((a + 4294967296 * r0) / q) % 4294967296 + 4294967296 * ((r0 + 4294967296 * R) / q) = (a + 4294967296 * (r0 + 4294967296 * R)) / q := by
  have e1 : (a + 4294967296 * r0) / q = a / q + s * r0 := by
    rw [← hqs, Int.mul_assoc, Int.add_mul_ediv_left _ _ (by omega)]
  have e2 : (r0 + 4294967296 * R) / q = r0 / q + s * R := by
    rw [← hqs, Int.mul_assoc, Int.add_mul_ediv_left _ _ (by omega)]
  have e3 : (a + 4294967296 * (r0 + 4294967296 * R)) / q = a / q + s * (r0 + 4294967296 * R) := by
    rw [← hqs, Int.mul_assoc q s, Int.mul_assoc q s, Int.add_mul_ediv_left _ _ (by omega)]
  rw [e1, e2, e3]
  have h1 : a / q < s := by
    rw [Int.ediv_lt_iff_lt_mul hq, Int.mul_comm, hqs]; exact ha.2
  have h0 : 0 ≤ a / q := Int.ediv_nonneg ha.1 (by omega)
  have hd := Int.mul_ediv_add_emod r0 q
  have hm0 := Int.emod_nonneg r0 (show q ≠ 0 by omega)
  have hm1 := Int.emod_lt_of_pos r0 hq
  generalize r0 / q = d at *
  generalize r0 % q = t at *
  subst hd
  have k1 : s * (q * d + t) = 4294967296 * d + s * t := by rw [Int.mul_add, ← Int.mul_assoc, Int.mul_comm s q, hqs]
  have k2 : s * t + a / q < 4294967296 := by
    have : s * (t + 1) ≤ s * q := Int.mul_le_mul_of_nonneg_left (by omega) (by omega)
    rw [Int.mul_comm s q, hqs, Int.mul_add] at this
    omega
  have k3 : 0 ≤ s * t := Int.mul_nonneg (by omega) hm0
  have k4 : (a / q + s * (q * d + t)) % 4294967296 = s * t + a / q := by
    rw [k1, show a / q + (4294967296 * d + s * t) = (s * t + a / q) + 4294967296 * d by omega, Int.add_mul_emod_self_left]
    exact Int.emod_eq_of_lt (by omega) k2
  have k5 : s * (q * d + t + 4294967296 * R) = 4294967296 * d + s * t + 4294967296 * (s * R) := by
    rw [Int.mul_add, k1, Int.mul_left_comm s 4294967296 R]
  rw [k4, k5, Int.mul_add]
  omega
theorem valD_shrF {q s : Int} (hq : 0 < q) (hs : 0 < s) (hqs : q * s = 4294967296) : ∀ L : List Int, OkD WB L → valD WB (shrF q L) = valD WB L / q
  | [], _ => by simp [shrF, valD]
  | [a], h => by
    have ha : 0 ≤ a ∧ a < 4294967296 := h.head
    have : a / q < 4294967296 := by
      have := Int.ediv_le_self q ha.1
      omega
    have h0 : 0 ≤ a / q := Int.ediv_nonneg ha.1 (by omega)
    simp [shrF, valD]
    exact Int.emod_eq_of_lt h0 this
  | a :: b :: r, h => by
    have ha : 0 ≤ a ∧ a < 4294967296 := h.head
    have hb := h.tail.head
    have ih := valD_shrF hq hs hqs (b :: r) h.tail
    have e0 : (((WB : Nat) : Int)) = (4294967296 : Int) := rfl
    have := shr_step (R := valD WB r) hq hs hqs ha hb.1
    show ((a + 4294967296 * b) / q) % 4294967296 + 4294967296 * valD WB (shrF q (b :: r)) = (a + 4294967296 * (b + 4294967296 * valD WB r)) / q
    rw [ih]
    exact this
theorem valD_drop {L : List Int} (h : OkD WB L) : ∀ (k : Nat) , valD WB (L.drop k) = valD WB L / (4294967296 : Int) ^ k := by
  intro k
  by_cases hk : k ≤ L.length
  · have e := valD_append WB (L.take k) (L.drop k)
    rw [List.take_append_drop, List.length_take, Nat.min_eq_left hk] at e
    have ht : OkD WB (L.take k) := fun y hy => h y (List.mem_of_mem_take hy)
    have h1 := valD_lt ht
    have h2 := valD_nonneg ht
    rw [List.length_take, Nat.min_eq_left hk] at h1
    have e0 : (((WB : Nat) : Int)) = (4294967296 : Int) := rfl
    rw [e0] at e h1
    have hp : (0 : Int) < 4294967296 ^ k := Int.pow_pos (by decide)
    rw [e, Int.add_mul_ediv_left _ _ (by omega), Int.ediv_eq_zero_of_lt h2 h1, Int.zero_add]
  · rw [List.drop_eq_nil_of_le (by omega)]
    have h1 := valD_lt h
    have h2 := valD_nonneg h
    have e0 : (((WB : Nat) : Int)) = (4294967296 : Int) := rfl
    rw [e0] at h1
    have : (4294967296 : Int) ^ L.length ≤ 4294967296 ^ k := by
      have := Nat.pow_le_pow_right (n := 4294967296) (by decide) (show L.length ≤ k by omega)
      have h := Int.ofNat_le.2 this
      rw [Int.natCast_pow, Int.natCast_pow] at h
      exact h
    rw [Int.ediv_eq_zero_of_lt h2 (by omega)]
    rfl
section
attribute [local irreducible] Vs.callL Vs.callRL tyi callO callM callMV appendE storeE evLoad indexAddrO sliceO evFieldAddr evField buildO buildSliceO makeSliceO allocO boxed lenO copyE convertO indexO Vs.gc freezeAll
noncomputable def fx186_ : FX := ⟨Tryz.f186, hints.of 186, []⟩
theorem ok186_ : fx186_.ok 186 := ⟨by kernel_rfl, of_decide_eq_true (by kernel_rfl), by kernel_rfl, by kernel_rfl, by kernel_rfl, by kernel_rfl⟩
theorem sem186_ (b0 : Nat) (m : Md) (fs : List Fr) (e : Env) (S : Store) : sem b0 fx186_ m fs e S = run b0 fx186_ 1000 m fs e S := (sem_eq _ _ _ _ _ _).trans (run_sem b0 fx186_ ok186_.good 1000 m fs e S).symm
theorem loop_Shr (A : List Int) (e1 : Bool) (hA : OkD WB A) (ha : A.length ≤ 1000000) (wq p N : Nat) (hw : wq + N = A.length) (hp : p < 32) (fs : List Fr) : ∀ (r i : Nat), i + r = N → ∀ z : PV × Store, exitTo 0 fx186_ 0 fs [(0, .undef), (5, .undef), (6, .undef), (7, .msl 0 0 N true), (25, .undef), (26, .undef), (27, .undef)] [.arr (kRows .u32 (shrF (2 ^ p) (A.drop wq))) (some (some 1)) false] = some z →
    loopAt 0 fx186_ 0 500 1 fs [(0, .sl (kRows .u32 A) e1), (5, .int .i64 wq), (6, .int .u64 p), (7, .msl 0 0 N true), (25, .int .i64 N), (26, .int .i64 i)] [.arr (kRows .u32 ((shrF (2 ^ p) (A.drop wq)).take i ++ List.replicate r 0)) (some (some 1)) false] = some z := by
  intro r
  have hSl : (shrF (2 ^ p) (A.drop wq)).length = N := by rw [shrF_len, List.length_drop]; omega
  induction r with
  | zero =>
    intro i hi z hz
    have h1 : ¬ (i : Int) < (N : Int) := by omega
    refine loopAt_step ok186_.good 1000 ?_
    rw [List.take_of_length_le (by omega)]
    simp only [List.replicate_zero, List.append_nil]
    ((repeat ((conv => lhs; whnf); simp only [go_sem, simprocAttr, sem186_, h1])); try (conv => lhs; whnf); try rfl)
    exact hz
  | succ r ih =>
    intro i hi z hz
    have h1 : (i : Int) < (N : Int) := by omega
    have hM : 2000000 ≤ maxLen := by decide
    have w1 := wrap_succ (i := i) (n := N) (by omega) (by omega)
    have key := ih (i + 1) (by omega) z hz
    have ga := hA.getD (by decide) (wq + i)
    have gb := hA.getD (by decide) (wq + i + 1)
    have hget := shrF_get (2 ^ p) (A.drop wq) i (by rw [List.length_drop]; omega)
    have d1 : (A.drop wq).getD i 0 = A.getD (wq + i) 0 := by simp [List.getD_eq_getElem?_getD]
    have d2 : (A.drop wq).getD (i + 1) 0 = A.getD (wq + i + 1) 0 := by simp [List.getD_eq_getElem?_getD, Nat.add_assoc]
    rw [d1, d2] at hget
    have ga' : A.getD (wq + i) 0 < 4294967296 := ga.2
    have gb' : A.getD (wq + i + 1) 0 < 4294967296 := gb.2
    have gb0 : ¬ wq + i + 1 < A.length → A.getD (wq + i + 1) 0 = 0 := fun h => by
      simp [List.getD_eq_getElem?_getD, List.getElem?_eq_none (show A.length ≤ wq + i + 1 by omega)]
    generalize ea : A.getD (wq + i) 0 = a at *
    generalize eb : A.getD (wq + i + 1) 0 = b at *
    have wi : IntKind.i64.wrap ((i : Int) + wq) = ((wq + i : Nat) : Int) := by rw [IntKind.wrap_i64]; omega
    have wi2 : IntKind.i64.wrap (((wq + i : Nat) : Int) + 1) = ((wq + i + 1 : Nat) : Int) := by rw [IntKind.wrap_i64]; omega
    have x2 : 0 ≤ ((wq + i : Nat) : Int) ∧ ((wq + i : Nat) : Int) < A.length := ⟨by omega, by omega⟩
    have ca : IntKind.u64.wrap a = a := by rw [wU64]; omega
    have cb : IntKind.u64.wrap b = b := by rw [wU64]; omega
    have cb2 : IntKind.u64.wrap (b * 4294967296) = b * 4294967296 := by rw [wU64]; omega
    have bo : bor .u64 a (b * 4294967296) = a + 4294967296 * b := by
      rw [bor_comm, bor_high ⟨gb.1, gb'⟩ ⟨ga.1, ga'⟩]; omega
    have hs : min p 64 = p := by omega
    have fd : ∀ x : Int, x.fdiv (2 ^ p) = x / 2 ^ p := fun x => Int.fdiv_eq_ediv_of_nonneg _ (Int.le_of_lt (Int.pow_pos (by decide)))
    have q0 : (0 : Int) < 2 ^ p := Int.pow_pos (by decide)
    have qw : ∀ x : Int, 0 ≤ x → x < 18446744073709551616 → IntKind.u64.wrap (x / 2 ^ p) = x / 2 ^ p := fun x h0 h1 => by
      have := Int.ediv_le_self (2 ^ p) h0
      have := Int.ediv_nonneg h0 (Int.le_of_lt q0)
      rw [wU64]; omega
    have q1 := qw (a + 4294967296 * b) (by omega) (by omega)
    have q2 := qw a ga.1 (by omega)
    have u1 : IntKind.u32.wrap ((a + 4294967296 * b) / 2 ^ p) = (shrF (2 ^ p) (A.drop wq)).getD i 0 := by rw [IntKind.wrap_u32, hget]
    generalize hS : shrF (2 ^ p) (A.drop wq) = S at *
    have hlen : (S.take i ++ List.replicate (r + 1) (0 : Int)).length = N := by simp; omega
    have len : i < (S.take i ++ List.replicate (r + 1) (0 : Int)).length := by omega
    have xm := sl_us.idxmk .u32 (S := [.arr (kRows .u32 (S.take i ++ List.replicate (r + 1) 0)) (some (some 1)) false]) (id := 0) (off := 0) (n := N) (ex := true) (L := S.take i ++ List.replicate (r + 1) 0) i rfl (by omega) (by omega)
    rw [Nat.zero_add] at xm
    have gk : ((kRows .u32 (S.take i ++ List.replicate (r + 1) 0)).getD i []).length = 1 := by rw [kRows_get _ _ len]; rfl
    have set : (kRows .u32 (S.take i ++ List.replicate (r + 1) 0)).set i [.int .u32 (S.getD i 0)] = kRows .u32 (S.take (i + 1) ++ List.replicate r 0) := by
      rw [kRows_set]
      congr 1
      have hti : (S.take i).length = i := by simp; omega
      have et : S.take (i + 1) = S.take i ++ [S.getD i 0] := by
        rw [List.take_add_one]
        have : S[i]? = some (S.getD i 0) := by rw [List.getElem?_eq_getElem (by omega)]; simp [List.getD_eq_getElem?_getD, show i < S.length by omega]
        rw [this]; rfl
      rw [List.set_append, if_neg (by omega), hti, Nat.sub_self, List.replicate_succ, List.set_cons_zero, et, List.append_assoc]
      rfl
    refine loopAt_step ok186_.good 1000 ?_
    by_cases c : wq + i + 1 < A.length
    · have c' : ((wq + i + 1 : Nat) : Int) < A.length := by omega
      have x3 : 0 ≤ ((wq + i + 1 : Nat) : Int) ∧ ((wq + i + 1 : Nat) : Int) < A.length := ⟨by omega, c'⟩
      ((repeat ((conv => lhs; whnf); simp only [go_sem, simprocAttr, sem186_, h1, Int.toNat_natCast, wi, wi2, x2, x3, c', ea, eb, ca, cb, cb2, bo, hs, fd, q1, u1, xm, len, gk, set, w1])); try (conv => lhs; whnf); try rfl)
      exact key
    · have c' : ¬ ((wq + i + 1 : Nat) : Int) < A.length := by omega
      have hb := gb0 c
      rw [hb] at u1
      have ez : a + 4294967296 * 0 = a := by omega
      rw [ez] at u1
      ((repeat ((conv => lhs; whnf); simp only [go_sem, simprocAttr, sem186_, h1, Int.toNat_natCast, wi, wi2, x2, c', ea, ca, hs, fd, q2, u1, xm, len, gk, set, w1])); try (conv => lhs; whnf); try rfl)
      exact key
theorem call_Shr (m : Nat) (e1 : Bool) (k : Nat) (hk : k ≤ 2000000000) (hm : (words m).length ≤ 1000000) : callL Tryz.prog hints 186 [magE m e1, .int .i64 k] = some (if (words m).length ≤ k / 32 then .sl [] true else magV (m / 2 ^ k)) := by
  have hM : 3000000 ≤ maxLen := by decide
  obtain ⟨q, hq⟩ : ∃ q, q = k / 32 := ⟨_, rfl⟩
  obtain ⟨p, hp⟩ : ∃ p, p = k % 32 := ⟨_, rfl⟩
  have hpq : k = 32 * q + p := by omega
  have dq : (k : Int).tdiv 32 = q := by rw [Int.tdiv_eq_ediv_of_nonneg (by omega)]; omega
  have dp : (k : Int).tmod 32 = p := by rw [Int.tmod_eq_emod_of_nonneg (by omega)]; omega
  have wq : IntKind.i64.wrap (q : Int) = q := by rw [IntKind.wrap_i64]; omega
  have wp : IntKind.i64.wrap (p : Int) = p := by rw [IntKind.wrap_i64]; omega
  have up : IntKind.u64.wrap (p : Int) = p := by rw [wU64]; omega
  rw [← hq]
  by_cases h : (words m).length ≤ q
  · rw [if_pos h]
    refine FX.callL (r := (.sl [] true, [])) ok186_ 1000 rfl rfl ?_ rfl
    unfold magE
    have c : ((words m).length : Int) ≤ q := by omega
    ((repeat ((conv => lhs; whnf); simp only [go_sem, simprocAttr, sem186_, dq, dp, wq, wp, up, c])); try (conv => lhs; whnf); try rfl)
  · rw [if_neg h]
    have c : ¬ ((words m).length : Int) ≤ q := by omega
    obtain ⟨N, hN⟩ : ∃ N, N = (words m).length - q := ⟨_, rfl⟩
    have hok := shrF_ok (2 ^ p) ((words m).drop q)
    have o2 : (shrF (2 ^ p) ((words m).drop q)).length = N := by rw [shrF_len, List.length_drop]; omega
    have hv : (valD WB (shrF (2 ^ p) ((words m).drop q))).toNat = m / 2 ^ k := by
      have hs := two_split (p := p) (by omega)
      have hs' : (2 : Int) ^ p * 2 ^ (32 - p) = 4294967296 := by
        have := congrArg (fun n : Nat => (n : Int)) hs
        simp only [Int.natCast_mul, Int.natCast_pow] at this
        exact this
      rw [valD_shrF (Int.pow_pos (by decide)) (Int.pow_pos (by decide)) hs' _ (fun y hy => words_ok m y (List.mem_of_mem_drop hy)), valD_drop (words_ok m), words_val]
      have e : ((m : Int) / 4294967296 ^ q / 2 ^ p) = ((m / 2 ^ k : Nat) : Int) := by
        rw [hpq, Nat.pow_add, Nat.pow_mul, ← Nat.div_div_eq_div_mul]
        have : (2 ^ 32 : Nat) = 4294967296 := by decide
        rw [this]
        simp only [Int.natCast_ediv, Int.natCast_pow]
        rfl
      rw [e, Int.toNat_natCast]
    have ct := call_Trim_ok (L := shrF (2 ^ p) ((words m).drop q)) (by omega) hok
    rw [hv] at ct
    have cc := callO_msl (S := [.arr (kRows .u32 (shrF (2 ^ p) ((words m).drop q))) (some (some 1)) false]) (id := 0) (n := N) (ex := true) ct rfl o2 (by simp)
    have mk := fun id => make_us id N (by omega)
    have wi : IntKind.i64.wrap (((words m).length : Int) - (q : Int)) = (N : Int) := by rw [IntKind.wrap_i64]; omega
    have key := loop_Shr (words m) e1 (words_ok m) hm q p N (by omega) (by omega) [.blk 0, .seq 0 63] N 0 (by omega) (magV (m / 2 ^ k), [.arr (kRows .u32 (shrF (2 ^ p) ((words m).drop q))) (some (some 1)) true]) (by
      refine exit_run ok186_.good 1000 ?_
      ((repeat ((conv => lhs; whnf); simp only [go_sem, simprocAttr, sem186_, cc])); try (conv => lhs; whnf); try rfl))
    rw [List.take_zero, List.nil_append] at key
    refine FX.callL (r := (magV (m / 2 ^ k), [.arr (kRows .u32 (shrF (2 ^ p) ((words m).drop q))) (some (some 1)) true])) ok186_ 1000 rfl rfl ?_ (fzPV_sl _ _)
    unfold magE
    ((repeat ((conv => lhs; whnf); simp only [go_sem, simprocAttr, sem186_, c, dq, dp, wq, wp, up, wi, mk])); try (conv => lhs; whnf); try rfl)
    exact key
end
end Go.Vs
end

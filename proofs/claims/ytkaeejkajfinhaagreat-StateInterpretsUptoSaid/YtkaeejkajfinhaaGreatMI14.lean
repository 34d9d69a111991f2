
import Derived.Test.YtkaeejkajfinhaaGreatMI13
section
set_option linter.unusedVariables false
set_option linter.unusedSimpArgs false
set_option maxRecDepth 100000
namespace Go.Vs
open Go Go.Proofs
def cmpN (m n : Nat) : Int := if m < n then -1 else if n < m then 1 else 0
def cmpI (m n : Int) : Int := if m < n then -1 else if n < m then 1 else 0
theorem cmpI_cast (m n : Nat) : cmpI m n = cmpN m n := by
  unfold cmpI cmpN
  by_cases h : m < n
  · rw [if_pos h, if_pos (by omega)]
  · rw [if_neg h, if_neg (by omega)]
    by_cases h2 : n < m
    · rw [if_pos h2, if_pos (by omega)]
    · rw [if_neg h2, if_neg (by omega)]
theorem list_split (L : List Int) {k : Nat} (h : k < L.length) : L = L.take k ++ [L.getD k 0] ++ L.drop (k + 1) := by
  have : L.drop k = L.getD k 0 :: L.drop (k + 1) := by
    rw [List.drop_eq_getElem_cons h]
    simp [List.getD_eq_getElem?_getD, h]
  rw [List.append_assoc, List.singleton_append, ← this, List.take_append_drop]
theorem list_at (L : List Int) {k : Nat} (h : k < L.length) : L.drop k = L.getD k 0 :: L.drop (k + 1) := by
  rw [List.drop_eq_getElem_cons h]
  simp [List.getD_eq_getElem?_getD, h]
theorem OkD.take {b : Nat} {l : List Int} (h : OkD b l) (k : Nat) : OkD b (l.take k) := fun x hx => h x (List.mem_of_mem_take hx)
theorem OkD.drop {b : Nat} {l : List Int} (h : OkD b l) (k : Nat) : OkD b (l.drop k) := fun x hx => h x (List.mem_of_mem_drop hx)
theorem valD_less {A B : List Int} (hA : OkD WB A) (hB : OkD WB B) (hl : A.length = B.length) {k : Nat} (hk : k < A.length) (hs : A.drop (k + 1) = B.drop (k + 1)) (hlt : A.getD k 0 < B.getD k 0) : valD WB A < valD WB B := by
  have eA : valD WB A = _ := (congrArg (valD WB) (list_split A hk)).trans (valD_append WB _ _)
  have eB : valD WB B = _ := (congrArg (valD WB) (list_split B (k := k) (by omega))).trans (valD_append WB _ _)
  rw [eA, eB, hs]
  have ha := hA.getD (by decide) k
  have hb := hB.getD (by decide) k
  have h := valD_cmp (hA.take k) (hB.take k) (by simp; omega) ha.1 ha.2 hb.1 hb.2 hlt
  have e : (A.take k ++ [A.getD k 0]).length = (B.take k ++ [B.getD k 0]).length := by simp; omega
  rw [e]
  omega
section
attribute [local irreducible] Vs.callL Vs.callRL tyi callO callM callMV appendE storeE evLoad indexAddrO sliceO evFieldAddr evField buildO buildSliceO makeSliceO allocO boxed lenO copyE convertO indexO Vs.gc freezeAll
noncomputable def fx115_ : FX := ⟨Tryz.f115, hints.of 115, []⟩
theorem ok115_ : fx115_.ok 115 := ⟨by kernel_rfl, of_decide_eq_true (by kernel_rfl), by kernel_rfl, by kernel_rfl, by kernel_rfl, by kernel_rfl⟩
theorem sem115_ (b0 : Nat) (m : Md) (fs : List Fr) (e : Env) (S : Store) : sem b0 fx115_ m fs e S = run b0 fx115_ 1000 m fs e S := (sem_eq _ _ _ _ _ _).trans (run_sem b0 fx115_ ok115_.good 1000 m fs e S).symm
theorem loop_Cmp (A B : List Int) (e1 e2 : Bool) (hA : OkD WB A) (hB : OkD WB B) (hl : A.length = B.length) (hm : A.length ≤ maxLen) : ∀ (k : Nat) (i : Int), i = (k : Int) - 1 → k ≤ A.length → A.drop k = B.drop k → loopAt 0 fx115_ 0 116 0 [.blk 0, .seq 0 15] [(0, .sl (kRows .u32 A) e1), (1, .sl (kRows .u32 B) e2), (5, .int .i64 i)] [] = some (.int .i64 (cmpI (valD WB A) (valD WB B)), []) := by
  have hM := maxLen_le
  intro k
  induction k with
  | zero =>
    intro i hi hk hs
    have c : ¬ 0 ≤ i := by omega
    have e : A = B := by simpa using hs
    subst e
    have z : cmpI (valD WB A) (valD WB A) = 0 := by unfold cmpI; rw [if_neg (by omega), if_neg (by omega)]
    rw [z]
    refine loopAt_step ok115_.good 1000 ?_
    ((repeat ((conv => lhs; whnf); simp only [go_sem, simprocAttr, sem115_, c])); try (conv => lhs; whnf); try rfl)
    refine exit_run ok115_.good 1000 ?_
    ((repeat ((conv => lhs; whnf); simp only [go_sem, simprocAttr, sem115_])); try (conv => lhs; whnf); try rfl)
  | succ k ih =>
    intro i hi hk hs
    have hi' : i = (k : Int) := by omega
    subst hi'
    have c : (0 : Int) ≤ (k : Int) := by omega
    have x1 : 0 ≤ (k : Int) ∧ (k : Int) < (A.length : Int) := ⟨by omega, by omega⟩
    have x2 : 0 ≤ (k : Int) ∧ (k : Int) < (B.length : Int) := ⟨by omega, by omega⟩
    have w : IntKind.i64.wrap ((k : Int) - 1) = (k : Int) - 1 := by rw [IntKind.wrap_i64]; omega
    refine loopAt_step ok115_.good 1000 ?_
    by_cases h1 : A.getD k 0 = B.getD k 0
    · have key := ih _ rfl (by omega) (by rw [list_at A (by omega), list_at B (by omega), h1, hs])
      ((repeat ((conv => lhs; whnf); simp only [go_sem, simprocAttr, sem115_, c, x1, x2, Int.toNat_natCast, h1, w])); try (conv => lhs; whnf); try rfl)
      exact key
    · by_cases h2 : A.getD k 0 < B.getD k 0
      · have hv := valD_less hA hB hl (k := k) (by omega) hs h2
        have z : cmpI (valD WB A) (valD WB B) = -1 := by unfold cmpI; rw [if_pos hv]
        rw [z]
        ((repeat ((conv => lhs; whnf); simp only [go_sem, simprocAttr, sem115_, c, x1, x2, Int.toNat_natCast, h1, h2])); try (conv => lhs; whnf); try rfl)
      · have hv := valD_less hB hA hl.symm (k := k) (by omega) hs.symm (by omega)
        have z : cmpI (valD WB A) (valD WB B) = 1 := by unfold cmpI; rw [if_neg (by omega), if_pos hv]
        rw [z]
        ((repeat ((conv => lhs; whnf); simp only [go_sem, simprocAttr, sem115_, c, x1, x2, Int.toNat_natCast, h1, h2])); try (conv => lhs; whnf); try rfl)
theorem call_Cmp (m n : Nat) (e1 e2 : Bool) (hm : (words m).length ≤ maxLen) (hn : (words n).length ≤ maxLen) : callL Tryz.prog hints 115 [magE m e1, magE n e2] = some (.int .i64 (cmpN m n)) := by
  have hM := maxLen_le
  unfold magE
  by_cases hl : (words m).length = (words n).length
  · have key := loop_Cmp (words m) (words n) e1 e2 (words_ok m) (words_ok n) hl hm (words m).length ((words m).length - 1) rfl (Nat.le_refl _) (by rw [List.drop_length, hl, List.drop_length])
    rw [words_val, words_val, cmpI_cast] at key
    have w : IntKind.i64.wrap (((words m).length : Int) - 1) = ((words m).length : Int) - 1 := by rw [IntKind.wrap_i64]; omega
    have c : ((words m).length : Int) = ((words n).length : Int) := by omega
    rw [c] at w
    rw [c] at key
    refine FX.callL (r := (.int .i64 (cmpN m n), [])) ok115_ 1000 rfl rfl ?_ rfl
    ((repeat ((conv => lhs; whnf); simp only [go_sem, simprocAttr, sem115_, c, w])); try (conv => lhs; whnf); try rfl)
    exact key
  · have c : ¬ ((words m).length : Int) = ((words n).length : Int) := by omega
    by_cases h2 : (words m).length < (words n).length
    · have hmn : m < n := by
        by_cases h : m < n
        · exact h
        · have := digs_mono WB2 (show n ≤ m by omega)
          unfold words at h2
          omega
      have z : cmpN m n = -1 := by unfold cmpN; rw [if_pos hmn]
      rw [z]
      have c2 : ((words m).length : Int) < ((words n).length : Int) := by omega
      refine FX.callL (r := (.int .i64 (-1), [])) ok115_ 1000 rfl rfl ?_ rfl
      ((repeat ((conv => lhs; whnf); simp only [go_sem, simprocAttr, sem115_, c, c2])); try (conv => lhs; whnf); try rfl)
    · have hmn : n < m := by
        by_cases h : n < m
        · exact h
        · have := digs_mono WB2 (show m ≤ n by omega)
          unfold words at h2 hl
          omega
      have z : cmpN m n = 1 := by unfold cmpN; rw [if_neg (by omega), if_pos hmn]
      rw [z]
      have c2 : ¬ ((words m).length : Int) < ((words n).length : Int) := by omega
      refine FX.callL (r := (.int .i64 1, [])) ok115_ 1000 rfl rfl ?_ rfl
      ((repeat ((conv => lhs; whnf); simp only [go_sem, simprocAttr, sem115_, c, c2])); try (conv => lhs; whnf); try rfl)
end
def subF : List Int → List Int → Int → List Int
  | [], _, _ => []
  | x :: a, b, c => (x - c - b.headD 0) % 4294967296 :: subF a b.tail (if x - c - b.headD 0 < 0 then 1 else 0)
def subB : List Int → List Int → Int → Int
  | [], _, c => c
  | x :: a, b, c => subB a b.tail (if x - c - b.headD 0 < 0 then 1 else 0)
theorem headD_ok {b : List Int} (h : OkD WB b) : 0 ≤ b.headD 0 ∧ b.headD 0 < 4294967296 := by
  cases b with
  | nil => exact ⟨Int.le_refl 0, by simp⟩
  | cons x b => exact h.head
theorem tail_ok {b : List Int} (h : OkD WB b) : OkD WB b.tail := by
  cases b with
  | nil => exact h
  | cons x b => exact h.tail
theorem valD_ht (b : List Int) : valD WB b = b.headD 0 + 4294967296 * valD WB b.tail := by
  cases b with
  | nil => simp [valD]
  | cons x b => rfl
theorem subF_val : ∀ (a b : List Int) (c : Int), OkD WB a → OkD WB b → b.length ≤ a.length → (c = 0 ∨ c = 1) → OkD WB (subF a b c) ∧ (subF a b c).length = a.length ∧ (subB a b c = 0 ∨ subB a b c = 1) ∧ valD WB (subF a b c) = valD WB a - valD WB b - c + (4294967296 : Int) ^ a.length * subB a b c
  | [], b, c, ha, hb, hl, hc => by
    have : b = [] := List.eq_nil_of_length_eq_zero (by simpa using hl)
    subst this
    refine ⟨.nil _, rfl, hc, ?_⟩
    simp [subF, subB, valD]; omega
  | x :: a, b, c, ha, hb, hl, hc => by
    have hx := ha.head
    have hx' : x < 4294967296 := hx.2
    have hh := headD_ok hb
    have hbt : b.tail.length ≤ a.length := by simp only [List.length_cons] at hl; rw [List.length_tail]; omega
    obtain ⟨i1, i2, i3, i4⟩ := subF_val a b.tail (if x - c - b.headD 0 < 0 then 1 else 0) ha.tail (tail_ok hb) hbt (by split <;> simp)
    refine ⟨.cons ⟨by omega, by show _ < ((4294967296 : Nat) : Int); omega⟩ i1, by simp only [subF, List.length_cons, i2], i3, ?_⟩
    have e1 : valD WB (x :: a) = x + 4294967296 * valD WB a := rfl
    have e2 := valD_ht b
    have e3 : valD WB (subF (x :: a) b c) = (x - c - b.headD 0) % 4294967296 + 4294967296 * valD WB (subF a b.tail (if x - c - b.headD 0 < 0 then 1 else 0)) := rfl
    have e4 : subB (x :: a) b c = subB a b.tail (if x - c - b.headD 0 < 0 then 1 else 0) := rfl
    rw [e3, i4, e4, e1, e2, List.length_cons, Int.pow_succ]
    generalize subB a b.tail (if x - c - b.headD 0 < 0 then 1 else 0) = s at *
    generalize hp : (4294967296 : Int) ^ a.length = P at *
    rw [Int.mul_comm P 4294967296, Int.mul_assoc]
    generalize P * s = Q
    split <;> omega
section
attribute [local irreducible] Vs.callL Vs.callRL tyi callO callM callMV appendE storeE evLoad indexAddrO sliceO evFieldAddr evField buildO buildSliceO makeSliceO allocO boxed lenO copyE convertO indexO Vs.gc freezeAll
noncomputable def fx167_ : FX := ⟨Tryz.f167, hints.of 167, []⟩
theorem ok167_ : fx167_.ok 167 := ⟨by kernel_rfl, of_decide_eq_true (by kernel_rfl), by kernel_rfl, by kernel_rfl, by kernel_rfl, by kernel_rfl⟩
theorem sem167_ (b0 : Nat) (m : Md) (fs : List Fr) (e : Env) (S : Store) : sem b0 fx167_ m fs e S = run b0 fx167_ 1000 m fs e S := (sem_eq _ _ _ _ _ _).trans (run_sem b0 fx167_ ok167_.good 1000 m fs e S).symm
theorem loop_Sub (A B : List Int) (e1 e2 : Bool) (hA : OkD WB A) (hB : OkD WB B) (hl : B.length ≤ A.length) (hm : A.length ≤ maxLen) (fs : List Fr) {z : PV × Store} (hz : ∀ c : Int, exitTo 0 fx167_ 0 fs [(1, .undef), (5, .msl 0 0 A.length true), (6, .undef), (13, .undef), (14, .undef), (15, .undef), (16, .undef)] [.arr (kRows .u32 (subF A B 0)) (some (some 1)) false] = some z) : ∀ (m i : Nat), i + m = A.length → ∀ (D : List Int) (c : Int), D.length = i → (c = 0 ∨ c = 1) → D ++ subF (A.drop i) (B.drop i) c = subF A B 0 →
    loopAt 0 fx167_ 0 244 1 fs [(1, .sl (kRows .u32 B) e2), (5, .msl 0 0 A.length true), (6, .int .u64 c), (13, .sl (kRows .u32 A) e1), (14, .int .i64 A.length), (15, .int .i64 i)] [.arr (kRows .u32 (D ++ List.replicate m 0)) (some (some 1)) false] = some z := by
  have hM := maxLen_le
  intro m
  induction m with
  | zero =>
    intro i hi D c hD hc hs
    have h1 : ¬ (i : Int) < (A.length : Int) := by omega
    have hd : A.drop i = [] := List.drop_of_length_le (by omega)
    rw [hd] at hs
    simp only [subF, List.append_nil] at hs
    subst hs
    refine loopAt_step ok167_.good 1000 ?_
    simp only [List.replicate_zero, List.append_nil]
    ((repeat ((conv => lhs; whnf); simp only [go_sem, simprocAttr, sem167_, h1])); try (conv => lhs; whnf); try rfl)
    exact hz c
  | succ m ih =>
    intro i hi D c hD hc hs
    have h1 : (i : Int) < (A.length : Int) := by omega
    have w1 := wrap_succ (i := i) (n := A.length) (by omega) hm
    have x1 : 0 ≤ (i : Int) ∧ (i : Int) < (A.length : Int) := ⟨by omega, h1⟩
    have ha := hA.getD (by decide) i
    have hb := hB.getD (by decide) i
    have ha' : A.getD i 0 < 4294967296 := ha.2
    have hb' : B.getD i 0 < 4294967296 := hb.2
    have hd := list_at A (k := i) (by omega)
    have hbh : (B.drop i).headD 0 = B.getD i 0 := by
      by_cases hib : i < B.length
      · rw [list_at B hib]; rfl
      · rw [List.drop_of_length_le (by omega), List.getD_eq_getElem?_getD, List.getElem?_eq_none (by omega)]; rfl
    have hbt : (B.drop i).tail = B.drop (i + 1) := List.tail_drop
    rw [hd] at hs
    have es : subF (A.getD i 0 :: A.drop (i + 1)) (B.drop i) c = (A.getD i 0 - c - B.getD i 0) % 4294967296 :: subF (A.drop (i + 1)) (B.drop (i + 1)) (if A.getD i 0 - c - B.getD i 0 < 0 then 1 else 0) := by
      rw [subF, hbh, hbt]
    rw [es] at hs
    have key := ih (i + 1) (by omega) (D ++ [(A.getD i 0 - c - B.getD i 0) % 4294967296]) (if A.getD i 0 - c - B.getD i 0 < 0 then 1 else 0) (by simp [hD]) (by split <;> simp) (by simpa using hs)
    have set : ∀ v : Int, (kRows .u32 (D ++ List.replicate (m + 1) 0)).set i [.int .u32 v] = kRows .u32 ((D ++ [v]) ++ List.replicate m 0) := fun v => by
      rw [kRows_set]
      congr 1
      rw [List.set_append, if_neg (by omega), hD, Nat.sub_self, List.replicate_succ, List.set_cons_zero]
      simp
    have xm : ∀ S : Store, rowsAt S 0 = some (kRows .u32 (D ++ List.replicate (m + 1) 0)) → indexAddrO Tryz.prog 25 S (.msl 0 0 A.length true) (.int .i64 i) = some (.mp 0 (0 + i) 0) := fun S hS => sl_us.idxmk .u32 i hS (by simp; omega) (by omega)
    have xm' := xm [.arr (kRows .u32 (D ++ List.replicate (m + 1) 0)) (some (some 1)) false] rfl
    have len : i < (D ++ List.replicate (m + 1) (0 : Int)).length := by simp; omega
    have len1 : ((kRows .u32 (D ++ List.replicate (m + 1) 0)).getD i []).length = 1 := by
      rw [kRows_get _ _ (by simp; omega)]; rfl
    have cu : IntKind.u64.wrap (A.getD i 0) = A.getD i 0 := by rw [wU64]; omega
    have cb : IntKind.u64.wrap (B.getD i 0) = B.getD i 0 := by rw [wU64]; omega
    refine loopAt_step ok167_.good 1000 ?_
    by_cases hib : i < B.length
    · have h2 : (i : Int) < (B.length : Int) := by omega
      have x2 : 0 ≤ (i : Int) ∧ (i : Int) < (B.length : Int) := ⟨by omega, h2⟩
      have v1 : IntKind.u32.wrap (IntKind.u64.wrap (IntKind.u64.wrap (A.getD i 0 - c) - B.getD i 0)) = (A.getD i 0 - c - B.getD i 0) % 4294967296 := by
        rw [IntKind.wrap_u32, wU64, wU64]; omega
      have v2 : IntKind.u64.wrap (IntKind.u64.wrap (A.getD i 0 - c) - B.getD i 0) / 9223372036854775808 = (if A.getD i 0 - c - B.getD i 0 < 0 then 1 else 0) := by
        rw [wU64, wU64]; split <;> omega
      ((repeat ((conv => lhs; whnf); simp only [go_sem, simprocAttr, sem167_, h1, x1, Int.toNat_natCast, cu, cb, h2, x2, xm', v1, v2, set, len, len1, w1, kRows_length, kRows_refs])); try (conv => lhs; whnf); try rfl)
      exact key
    · have h2 : ¬ (i : Int) < (B.length : Int) := by omega
      have hb0 : B.getD i 0 = 0 := by rw [List.getD_eq_getElem?_getD, List.getElem?_eq_none (by omega)]; rfl
      rw [hb0, Int.sub_zero] at key
      have v1 : IntKind.u32.wrap (IntKind.u64.wrap (A.getD i 0 - c)) = (A.getD i 0 - c) % 4294967296 := by
        rw [IntKind.wrap_u32, wU64]; omega
      have v2 : IntKind.u64.wrap (A.getD i 0 - c) / 9223372036854775808 = (if A.getD i 0 - c < 0 then 1 else 0) := by
        rw [wU64]; split <;> omega
      ((repeat ((conv => lhs; whnf); simp only [go_sem, simprocAttr, sem167_, h1, x1, Int.toNat_natCast, cu, h2, xm', v1, v2, set, len, len1, w1, kRows_length, kRows_refs])); try (conv => lhs; whnf); try rfl)
      exact key
theorem call_Sub (m n : Nat) (e1 e2 : Bool) (hmn : n ≤ m) (hm : (words m).length ≤ 1000000) : callL Tryz.prog hints 167 [magE m e1, magE n e2] = some (magV (m - n)) := by
  have hM : 2000000 ≤ maxLen := by decide
  have hl : (words n).length ≤ (words m).length := digs_mono WB2 hmn
  obtain ⟨i1, i2, i3, i4⟩ := subF_val (words m) (words n) 0 (words_ok m) (words_ok n) hl (.inl rfl)
  have hb : subB (words m) (words n) 0 = 0 := by
    have h1 := valD_lt i1
    rw [i2, i4, words_val, words_val] at h1
    rcases i3 with h | h
    · exact h
    · rw [h] at h1
      have : (((4294967296 : Nat) : Int)) = (4294967296 : Int) := rfl
      rw [this] at h1
      omega
  have hv : (valD WB (subF (words m) (words n) 0)).toNat = m - n := by
    rw [i4, hb, words_val, words_val]; omega
  have ct := call_Trim_ok (L := subF (words m) (words n) 0) (by rw [i2]; omega) i1
  rw [hv] at ct
  have c1 := callO_msl (S := [.arr (kRows .u32 (subF (words m) (words n) 0)) (some (some 1)) false]) (id := 0) (n := (words m).length) (ex := true) ct rfl i2 (by simp)
  have mk := fun id => make_us id (words m).length (by omega)
  unfold magE
  have key := loop_Sub (words m) (words n) e1 e2 (words_ok m) (words_ok n) hl (by omega) [.blk 0, .seq 0 31] (z := (magV (m - n), [.arr (kRows .u32 (subF (words m) (words n) 0)) (some (some 1)) true])) (fun c => by
    refine exit_run ok167_.good 1000 ?_
    ((repeat ((conv => lhs; whnf); simp only [go_sem, simprocAttr, sem167_, c1])); try (conv => lhs; whnf); try rfl)) (words m).length 0 (by omega) [] 0 rfl (.inl rfl) (by simp)
  refine FX.callL (r := (magV (m - n), [.arr (kRows .u32 (subF (words m) (words n) 0)) (some (some 1)) true])) ok167_ 1000 rfl rfl ?_ (fzPV_sl _ _)
  ((repeat ((conv => lhs; whnf); simp only [go_sem, simprocAttr, sem167_, mk])); try (conv => lhs; whnf); try rfl)
  exact key
end
end Go.Vs
end
section
set_option linter.unusedVariables false
set_option linter.unusedSimpArgs false
set_option maxRecDepth 100000
namespace Go.Vs
open Go Go.Proofs
def mulF (x : Int) : List Int → List Int → Int → List Int
  | [], _, _ => []
  | y :: b, o, c => (c + (x * y + o.headD 0)) % 4294967296 :: mulF x b o.tail ((c + (x * y + o.headD 0)) / 4294967296)
def mulC (x : Int) : List Int → List Int → Int → Int
  | [], _, c => c
  | y :: b, o, c => mulC x b o.tail ((c + (x * y + o.headD 0)) / 4294967296)
theorem mul_small {x y : Int} (hx : 0 ≤ x ∧ x < 4294967296) (hy : 0 ≤ y ∧ y < 4294967296) : 0 ≤ x * y ∧ x * y ≤ 18446744065119617025 := by
  refine ⟨Int.mul_nonneg hx.1 hy.1, ?_⟩
  have h1 : x * y ≤ 4294967295 * y := Int.mul_le_mul_of_nonneg_right (by omega) hy.1
  omega
theorem mulF_val (x : Int) (hx : 0 ≤ x ∧ x < 4294967296) : ∀ (b o : List Int) (c : Int), OkD WB b → OkD WB o → o.length = b.length → 0 ≤ c ∧ c < 4294967296 → OkD WB (mulF x b o c) ∧ (mulF x b o c).length = b.length ∧ (0 ≤ mulC x b o c ∧ mulC x b o c < 4294967296) ∧ valD WB (mulF x b o c) + (4294967296 : Int) ^ b.length * mulC x b o c = c + x * valD WB b + valD WB o
  | [], o, c, hb, ho, hl, hc => by
    have : o = [] := List.eq_nil_of_length_eq_zero (by simpa using hl)
    subst this
    refine ⟨.nil _, rfl, hc, ?_⟩
    simp [mulF, mulC, valD]
  | y :: b, o, c, hb, ho, hl, hc => by
    have hy := hb.head
    have hy' : y < 4294967296 := hy.2
    have hh := headD_ok ho
    have hs := mul_small hx ⟨hy.1, hy'⟩
    have hq : 0 ≤ (c + (x * y + o.headD 0)) / 4294967296 ∧ (c + (x * y + o.headD 0)) / 4294967296 < 4294967296 := by omega
    obtain ⟨i1, i2, i3, i4⟩ := mulF_val x hx b o.tail _ hb.tail (tail_ok ho) (by rw [List.length_tail]; simp only [List.length_cons] at hl; omega) hq
    refine ⟨.cons ⟨by omega, by show _ < ((4294967296 : Nat) : Int); omega⟩ i1, by simp only [mulF, List.length_cons, i2], i3, ?_⟩
    have e2 := valD_ht o
    have e1 : valD WB (y :: b) = y + 4294967296 * valD WB b := rfl
    have e3 : valD WB (mulF x (y :: b) o c) = (c + (x * y + o.headD 0)) % 4294967296 + 4294967296 * valD WB (mulF x b o.tail ((c + (x * y + o.headD 0)) / 4294967296)) := rfl
    have e4 : mulC x (y :: b) o c = mulC x b o.tail ((c + (x * y + o.headD 0)) / 4294967296) := rfl
    rw [e3, e4, e1, e2, List.length_cons, Int.pow_succ, Int.mul_add, Int.mul_left_comm x]
    generalize (4294967296 : Int) ^ b.length = P at *
    rw [Int.mul_comm P 4294967296, Int.mul_assoc]
    generalize P * mulC x b o.tail ((c + (x * y + o.headD 0)) / 4294967296) = Q at *
    generalize x * valD WB b = R at *
    generalize x * y = T at *
    omega
section
attribute [local irreducible] Vs.callL Vs.callRL tyi callO callM callMV appendE storeE evLoad indexAddrO sliceO evFieldAddr evField buildO buildSliceO makeSliceO allocO boxed lenO copyE convertO indexO Vs.gc freezeAll
noncomputable def fx116_ : FX := ⟨Tryz.f116, hints.of 116, []⟩
theorem ok116_ : fx116_.ok 116 := ⟨by kernel_rfl, of_decide_eq_true (by kernel_rfl), by kernel_rfl, by kernel_rfl, by kernel_rfl, by kernel_rfl⟩
theorem sem116_ (b0 : Nat) (m : Md) (fs : List Fr) (e : Env) (S : Store) : sem b0 fx116_ m fs e S = run b0 fx116_ 1000 m fs e S := (sem_eq _ _ _ _ _ _).trans (run_sem b0 fx116_ ok116_.good 1000 m fs e S).symm
theorem loop_Mul2 (B : List Int) (e2 : Bool) (hB : OkD WB B) (hm : B.length ≤ 1000000) (x : Int) (hx : 0 ≤ x ∧ x < 4294967296) (n i : Nat) (hi : i + B.length ≤ n) (hn : n ≤ 2000000) (x25 x26 x27 : PV) (P Z : List Int) (hP : P.length = i) (fs : List Fr) {z : PV × Store} : ∀ (m k : Nat), k + m = B.length → ∀ (D W : List Int) (c : Int), D.length = k → W.length = m → OkD WB W → (0 ≤ c ∧ c < 4294967296) → n = i + B.length + Z.length →
    exitTo 0 fx116_ 2 fs [(1, .sl (kRows .u32 B) e2), (5, .msl 0 0 n true), (6, .int .i64 i), (7, .undef), (8, .int .u64 (mulC x (B.drop k) W c)), (25, x25), (26, x26), (27, x27), (32, .undef), (33, .undef), (34, .undef), (35, .undef)] [.arr (kRows .u32 (P ++ (D ++ mulF x (B.drop k) W c) ++ Z)) (some (some 1)) false] = some z →
    loopAt 0 fx116_ 2 250676 1 fs [(1, .sl (kRows .u32 B) e2), (5, .msl 0 0 n true), (6, .int .i64 i), (7, .int .u32 x), (8, .int .u64 c), (25, x25), (26, x26), (27, x27), (32, .sl (kRows .u32 B) e2), (33, .int .i64 B.length), (34, .int .i64 k)] [.arr (kRows .u32 (P ++ (D ++ W) ++ Z)) (some (some 1)) false] = some z := by
  have hM : 2000000 ≤ maxLen := by decide
  intro m
  induction m with
  | zero =>
    intro k hk D W c hD hW hWo hc hl hz
    have h1 : ¬ (k : Int) < (B.length : Int) := by omega
    have hd : B.drop k = [] := List.drop_of_length_le (by omega)
    have hw : W = [] := List.eq_nil_of_length_eq_zero hW
    subst hw
    rw [hd] at hz
    simp only [mulF, mulC, List.append_nil] at hz
    refine loopAt_step ok116_.good 1000 ?_
    ((repeat ((conv => lhs; whnf); simp only [go_sem, simprocAttr, sem116_, h1])); try (conv => lhs; whnf); try rfl)
    exact hz
  | succ m ih =>
    intro k hk D W c hD hW hWo hc hl hz
    have h1 : (k : Int) < (B.length : Int) := by omega
    have w1 := wrap_succ (i := k) (n := B.length) (by omega) (by omega)
    have x1 : 0 ≤ (k : Int) ∧ (k : Int) < (B.length : Int) := ⟨by omega, h1⟩
    obtain ⟨w, W', rfl⟩ : ∃ w W', W = w :: W' := by
      cases W with
      | nil => simp at hW
      | cons w W' => exact ⟨w, W', rfl⟩
    have hb := hB.getD (by decide) k
    have hb' : B.getD k 0 < 4294967296 := hb.2
    have hw := hWo.head
    have hw' : w < 4294967296 := hw.2
    have hs := mul_small hx ⟨hb.1, hb'⟩
    have hd := list_at B (k := k) (by omega)
    rw [hd] at hz
    have key := ih (k + 1) (by omega) (D ++ [(c + (x * B.getD k 0 + w)) % 4294967296]) W' ((c + (x * B.getD k 0 + w)) / 4294967296) (by simp [hD]) (by simpa using hW) hWo.tail (by omega) hl (by
      simp only [mulC, mulF, List.headD_cons, List.tail_cons] at hz
      simpa using hz)
    have hlen : (P ++ (D ++ w :: W') ++ Z).length = n := by simp only [List.length_append, List.length_cons] at hW ⊢; omega
    have get : (P ++ (D ++ w :: W') ++ Z).getD (i + k) 0 = w := by
      have e : P ++ (D ++ w :: W') ++ Z = (P ++ D) ++ w :: (W' ++ Z) := by simp
      rw [e, List.getD_eq_getElem?_getD, List.getElem?_append_right (by simp; omega)]
      have : i + k - (P ++ D).length = 0 := by simp; omega
      rw [this]; rfl
    have set : ∀ v : Int, (kRows .u32 (P ++ (D ++ w :: W') ++ Z)).set (i + k) [.int .u32 v] = kRows .u32 (P ++ ((D ++ [v]) ++ W') ++ Z) := fun v => by
      rw [kRows_set]
      congr 1
      have e : P ++ (D ++ w :: W') ++ Z = (P ++ D) ++ w :: (W' ++ Z) := by simp
      rw [e, List.set_append, if_neg (by simp; omega)]
      have : i + k - (P ++ D).length = 0 := by simp; omega
      rw [this, List.set_cons_zero]
      simp
    have wi : IntKind.i64.wrap ((i : Int) + (k : Int)) = ((i + k : Nat) : Int) := by rw [IntKind.wrap_i64]; omega
    have xm := sl_us.idxmk .u32 (S := [.arr (kRows .u32 (P ++ (D ++ w :: W') ++ Z)) (some (some 1)) false]) (id := 0) (off := 0) (n := n) (ex := true) (L := P ++ (D ++ w :: W') ++ Z) (i + k) rfl (by omega) (by omega)
    rw [Nat.zero_add] at xm
    have len : i + k < (P ++ (D ++ w :: W') ++ Z).length := by omega
    have gk := kRows_get .u32 (P ++ (D ++ w :: W') ++ Z) len
    rw [get] at gk
    have cx : IntKind.u64.wrap x = x := by rw [wU64]; omega
    have cb : IntKind.u64.wrap (B.getD k 0) = B.getD k 0 := by rw [wU64]; omega
    have cw : IntKind.u64.wrap w = w := by rw [wU64]; omega
    have m1 : IntKind.u64.wrap (x * B.getD k 0) = x * B.getD k 0 := by rw [wU64]; omega
    have m2 : IntKind.u64.wrap (x * B.getD k 0 + w) = x * B.getD k 0 + w := by rw [wU64]; omega
    have m3 : IntKind.u64.wrap (c + (x * B.getD k 0 + w)) = c + (x * B.getD k 0 + w) := by rw [wU64]; omega
    have m4 : IntKind.u32.wrap (c + (x * B.getD k 0 + w)) = (c + (x * B.getD k 0 + w)) % 4294967296 := by rw [IntKind.wrap_u32]
    refine loopAt_step ok116_.good 1000 ?_
    ((repeat ((conv => lhs; whnf); simp only [go_sem, simprocAttr, sem116_, h1, x1, Int.toNat_natCast, cx, cb, cw, wi, xm, gk, len, m1, m2, m3, m4, set, w1])); try (conv => lhs; whnf); try rfl)
    exact key
theorem loop_Mul0 (A B : List Int) (e1 e2 : Bool) (hA : OkD WB A) (hB : OkD WB B) (hB0 : B ≠ []) (ha : A.length ≤ 1000000) (hb : B.length ≤ 1000000) (fs : List Fr) : ∀ (r i : Nat), i + r = A.length → ∀ (P W : List Int), P.length = i → W.length = B.length → OkD WB P → OkD WB W → valD WB P + (4294967296 : Int) ^ i * valD WB W = valD WB (A.take i) * valD WB B →
    ∃ O : List Int, OkD WB O ∧ O.length = A.length + B.length ∧ valD WB O = valD WB A * valD WB B ∧ ∀ z : PV × Store, exitTo 0 fx116_ 0 fs [(1, .undef), (5, .msl 0 0 (A.length + B.length) true), (25, .undef), (26, .undef), (27, .undef), (28, .undef)] [.arr (kRows .u32 O) (some (some 1)) false] = some z →
    loopAt 0 fx116_ 0 244 1 fs [(1, .sl (kRows .u32 B) e2), (5, .msl 0 0 (A.length + B.length) true), (25, .sl (kRows .u32 A) e1), (26, .int .i64 A.length), (27, .int .i64 i)] [.arr (kRows .u32 (P ++ W ++ List.replicate r 0)) (some (some 1)) false] = some z := by
  have hM : 2000000 ≤ maxLen := by decide
  intro r
  induction r with
  | zero =>
    intro i hi P W hP hW hPo hWo hv
    refine ⟨P ++ W, hPo.append hWo, by simp [hP, hW]; omega, ?_, fun z hz => ?_⟩
    · rw [valD_append, hP]
      have : (((WB : Nat) : Int)) = (4294967296 : Int) := rfl
      rw [this, hv, List.take_of_length_le (by omega)]
    · have h1 : ¬ (i : Int) < (A.length : Int) := by omega
      refine loopAt_step ok116_.good 1000 ?_
      simp only [List.replicate_zero, List.append_nil]
      ((repeat ((conv => lhs; whnf); simp only [go_sem, simprocAttr, sem116_, h1])); try (conv => lhs; whnf); try rfl)
      exact hz
  | succ r ih =>
    intro i hi P W hP hW hPo hWo hv
    have h1 : (i : Int) < (A.length : Int) := by omega
    have w1 := wrap_succ (i := i) (n := A.length) (by omega) (by omega)
    have x1 : 0 ≤ (i : Int) ∧ (i : Int) < (A.length : Int) := ⟨by omega, h1⟩
    have hx := hA.getD (by decide) i
    have hx' : A.getD i 0 < 4294967296 := hx.2
    obtain ⟨j1, j2, j3, j4⟩ := mulF_val (A.getD i 0) ⟨hx.1, hx'⟩ B W 0 hB hWo hW ⟨by omega, by omega⟩
    generalize hc : mulC (A.getD i 0) B W 0 = c at *
    generalize hD : mulF (A.getD i 0) B W 0 = D at *
    obtain ⟨d, D', rfl⟩ : ∃ d D', D = d :: D' := by
      cases D with
      | nil => exact absurd (List.eq_nil_of_length_eq_zero (by rw [← j2]; rfl)) hB0
      | cons d D' => exact ⟨d, D', rfl⟩
    have hBl : B.length = D'.length + 1 := by rw [← j2]; rfl
    obtain ⟨O, o1, o2, o3, o4⟩ := ih (i + 1) (by omega) (P ++ [d]) (D' ++ [c]) (by simp [hP]) (by simp [hBl]) (hPo.append (.cons j1.head (.nil _))) (j1.tail.append (.cons j3 (.nil _))) (by
      have e0 : (((WB : Nat) : Int)) = (4294967296 : Int) := rfl
      have et : A.take (i + 1) = A.take i ++ [A.getD i 0] := by
        rw [List.take_add_one]
        have : A[i]? = some (A.getD i 0) := by rw [List.getElem?_eq_getElem (by omega)]; simp [List.getD_eq_getElem?_getD, show i < A.length by omega]
        rw [this]; rfl
      rw [et, valD_append, valD_append, valD_append, hP, e0]
      have hti : (A.take i).length = i := by simp; omega
      rw [hti, Int.add_mul, ← hv]
      have s1 : valD WB [A.getD i 0] = A.getD i 0 := by simp [valD]
      have s2 : valD WB [d] = d := by simp [valD]
      have s3 : valD WB [c] = c := by simp [valD]
      rw [s1, s2, s3]
      have j5 : d + 4294967296 * valD WB D' + (4294967296 : Int) ^ B.length * c = A.getD i 0 * valD WB B + valD WB W := by
        have : valD WB (d :: D') = d + 4294967296 * valD WB D' := rfl
        rw [this] at j4
        omega
      rw [hBl, Int.pow_succ] at j5
      rw [Int.pow_succ]
      have q1 : (4294967296 : Int) ^ i * 4294967296 * (valD WB D' + 4294967296 ^ D'.length * c) = (4294967296 : Int) ^ i * (4294967296 * valD WB D' + 4294967296 ^ D'.length * 4294967296 * c) := by
        rw [Int.mul_assoc, Int.mul_add, Int.mul_left_comm 4294967296, ← Int.mul_assoc (4294967296 ^ D'.length) 4294967296 c]
      rw [q1]
      have q2 : 4294967296 * valD WB D' + (4294967296 : Int) ^ D'.length * 4294967296 * c = A.getD i 0 * valD WB B + valD WB W - d := by omega
      rw [q2, Int.mul_sub, Int.mul_add, Int.mul_assoc]
      omega)
    refine ⟨O, o1, o2, o3, fun z hz => ?_⟩
    have key := o4 z hz
    have set : (kRows .u32 (P ++ (d :: D') ++ List.replicate (r + 1) 0)).set (i + B.length) [.int .u32 c] = kRows .u32 ((P ++ [d]) ++ (D' ++ [c]) ++ List.replicate r 0) := by
      rw [kRows_set]
      congr 1
      have e : P ++ (d :: D') ++ List.replicate (r + 1) 0 = (P ++ (d :: D')) ++ 0 :: List.replicate r 0 := by simp [List.replicate_succ]
      rw [e, List.set_append, if_neg (by simp; omega)]
      have : i + B.length - (P ++ (d :: D')).length = 0 := by simp; omega
      rw [this, List.set_cons_zero]
      simp
    have hlen : (P ++ (d :: D') ++ List.replicate (r + 1) (0 : Int)).length = A.length + B.length := by simp; omega
    have wi : IntKind.i64.wrap ((i : Int) + (B.length : Int)) = ((i + B.length : Nat) : Int) := by rw [IntKind.wrap_i64]; omega
    have xm := sl_us.idxmk .u32 (S := [.arr (kRows .u32 (P ++ (d :: D') ++ List.replicate (r + 1) 0)) (some (some 1)) false]) (id := 0) (off := 0) (n := A.length + B.length) (ex := true) (L := P ++ (d :: D') ++ List.replicate (r + 1) 0) (i + B.length) rfl (by omega) (by omega)
    rw [Nat.zero_add] at xm
    have len : i + B.length < (P ++ (d :: D') ++ List.replicate (r + 1) (0 : Int)).length := by omega
    have gk : ((kRows .u32 (P ++ (d :: D') ++ List.replicate (r + 1) 0)).getD (i + B.length) []).length = 1 := by rw [kRows_get _ _ len]; rfl
    have cc : IntKind.u32.wrap c = c := by rw [IntKind.wrap_u32]; omega
    have inner := loop_Mul2 B e2 hB hb (A.getD i 0) ⟨hx.1, hx'⟩ (A.length + B.length) i (by omega) (by omega) (.sl (kRows .u32 A) e1) (.int .i64 A.length) (.int .i64 i) P (List.replicate (r + 1) 0) hP (.blk 2 :: .seq 1 31335 :: .blk 1 :: .seq 0 1959 :: .lop 0 244 1 :: fs) (z := z) B.length 0 (by omega) [] W 0 rfl hW hWo ⟨by omega, by omega⟩ (by simp; omega) (by
      rw [List.drop_zero, hc, hD]
      refine exit_run ok116_.good 1000 ?_
      ((repeat ((conv => lhs; whnf); simp only [go_sem, simprocAttr, sem116_, wi, xm, len, gk, cc, set, w1])); try (conv => lhs; whnf); try rfl)
      exact key)
    simp only [List.nil_append] at inner
    refine loopAt_step ok116_.good 1000 ?_
    ((repeat ((conv => lhs; whnf); simp only [go_sem, simprocAttr, sem116_, h1, x1, Int.toNat_natCast])); try (conv => lhs; whnf); try rfl)
    exact inner
theorem call_Mul (m n : Nat) (e1 e2 : Bool) (hm : (words m).length ≤ 1000000) (hn : (words n).length ≤ 1000000) : callL Tryz.prog hints 116 [magE m e1, magE n e2] = some (if m = 0 ∨ n = 0 then .sl [] true else magV (m * n)) := by
  have hM : 2000000 ≤ maxLen := by decide
  by_cases h : m = 0 ∨ n = 0
  · rw [if_pos h]
    refine FX.callL (r := (.sl [] true, [])) ok116_ 1000 rfl rfl ?_ rfl
    unfold magE
    by_cases hm0 : m = 0
    · have c : ((words m).length : Int) = 0 := by rw [hm0]; unfold words; rw [digs_zero]; rfl
      ((repeat ((conv => lhs; whnf); simp only [go_sem, simprocAttr, sem116_, c])); try (conv => lhs; whnf); try rfl)
    · have hn0 : n = 0 := by omega
      have c : ¬ ((words m).length : Int) = 0 := by
        have : words m ≠ [] := fun e => hm0 ((digs_nil WB2).1 e)
        have := List.length_pos_iff.2 this
        omega
      have c2 : ((words n).length : Int) = 0 := by rw [hn0]; unfold words; rw [digs_zero]; rfl
      ((repeat ((conv => lhs; whnf); simp only [go_sem, simprocAttr, sem116_, c, c2])); try (conv => lhs; whnf); try rfl)
  · rw [if_neg h]
    have hne : ∀ k, k ≠ 0 → words k ≠ [] := fun k hk e => hk ((digs_nil WB2).1 e)
    have c : ¬ ((words m).length : Int) = 0 := by
      have := List.length_pos_iff.2 (hne m (by omega)); omega
    have c2 : ¬ ((words n).length : Int) = 0 := by
      have := List.length_pos_iff.2 (hne n (by omega)); omega
    obtain ⟨O, o1, o2, o3, o4⟩ := loop_Mul0 (words m) (words n) e1 e2 (words_ok m) (words_ok n) (hne n (by omega)) hm hn [.blk 0, .seq 0 31] (words m).length 0 (by omega) [] (List.replicate (words n).length 0) rfl (by simp) (.nil _) (fun x hx => by
      rw [List.eq_of_mem_replicate hx]; exact ⟨Int.le_refl 0, by decide⟩) (by
      have : valD WB (List.replicate (words n).length 0) = 0 := by
        generalize (words n).length = k
        induction k with
        | zero => rfl
        | succ k ih => rw [List.replicate_succ, valD, ih]; simp
      rw [this]; simp [valD])
    have ct := call_Trim_ok (L := O) (by omega) o1
    have hv : (valD WB O).toNat = m * n := by rw [o3, words_val, words_val, ← Int.natCast_mul, Int.toNat_natCast]
    rw [hv] at ct
    have cc := callO_msl (S := [.arr (kRows .u32 O) (some (some 1)) false]) (id := 0) (n := (words m).length + (words n).length) (ex := true) ct rfl o2 (by simp)
    have mk := fun id => make_us id ((words m).length + (words n).length) (by omega)
    have wi : IntKind.i64.wrap (((words m).length : Int) + ((words n).length : Int)) = (((words m).length + (words n).length : Nat) : Int) := by rw [IntKind.wrap_i64]; omega
    have key := o4 (magV (m * n), [.arr (kRows .u32 O) (some (some 1)) true]) (by
      refine exit_run ok116_.good 1000 ?_
      ((repeat ((conv => lhs; whnf); simp only [go_sem, simprocAttr, sem116_, cc])); try (conv => lhs; whnf); try rfl))
    have er : List.replicate ((words m).length + (words n).length) (0 : Int) = [] ++ List.replicate (words n).length 0 ++ List.replicate (words m).length 0 := by
      rw [List.nil_append, List.replicate_append_replicate, Nat.add_comm]
    refine FX.callL (r := (magV (m * n), [.arr (kRows .u32 O) (some (some 1)) true])) ok116_ 1000 rfl rfl ?_ (fzPV_sl _ _)
    unfold magE
    rw [← er] at key
    ((repeat ((conv => lhs; whnf); simp only [go_sem, simprocAttr, sem116_, c, c2, wi, mk])); try (conv => lhs; whnf); try rfl)
    exact key
end
end Go.Vs
end

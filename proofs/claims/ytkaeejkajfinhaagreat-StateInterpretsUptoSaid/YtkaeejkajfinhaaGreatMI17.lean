
import Derived.Test.YtkaeejkajfinhaaGreatMI16
section
set_option linter.unusedVariables false
set_option linter.unusedSimpArgs false
set_option maxRecDepth 100000
namespace Go.Vs
open Go Go.Proofs
def IsMag (n : Nat) (v : PV) : Prop := v = magV n ∨ (n = 0 ∧ v = .sl [] true)
theorem IsMag.of (n : Nat) : IsMag n (magV n) := .inl rfl
theorem IsMag.nil : IsMag 0 (.sl [] true) := .inr ⟨rfl, rfl⟩
theorem IsMag.nil' {n : Nat} (h : n = 0) : IsMag n (.sl [] true) := .inr ⟨h, rfl⟩
theorem IsMag.form {n : Nat} {v : PV} (h : IsMag n v) : ∃ e, v = magE n e ∧ Plain (magE n e) := by
  rcases h with rfl | ⟨rfl, rfl⟩
  · exact ⟨false, rfl, Plain.sl _⟩
  · have : magE 0 true = .sl [] true := by unfold magE words; rw [digs_zero]; rfl
    exact ⟨true, this.symm, by rw [this]; exact Plain.nil⟩
theorem words_one {n : Nat} (h : (words n).length = 1) : words n = [(n : Int)] ∧ 0 < n ∧ n < 4294967296 := by
  obtain ⟨w, hw⟩ := List.length_eq_one_iff.1 h
  have hv := words_val n
  have hok := words_ok n
  rw [hw] at hv hok
  have hb : 0 ≤ w ∧ w < 4294967296 := hok.head
  have e : w = n := by rw [← hv]; simp [valD]
  refine ⟨by rw [hw, e], ?_, by omega⟩
  have : n ≠ 0 := fun e => by rw [e] at h; unfold words at h; rw [digs_zero] at h; simp at h
  omega
theorem fz_mag2 (S : Store) (m n : Nat) : fzPV S (.tup [magV m, magV n]) = some (.tup [magV m, magV n]) := by
  show (mapO (fzPV1 _) [magV m, magV n]).map PV.tup = _
  have f : ∀ n, fzPV1 S (magV n) = some (magV n) := fun n => fzPV_sl _ _
  simp only [mapO, f, Option.bind_some]
  rfl
theorem fz_mag2n (S : Store) (m : Nat) : fzPV S (.tup [magV m, .sl [] true]) = some (.tup [magV m, .sl [] true]) := by
  show (mapO (fzPV1 _) [magV m, .sl [] true]).map PV.tup = _
  have f : ∀ n, fzPV1 S (magV n) = some (magV n) := fun n => fzPV_sl _ _
  have f2 : fzPV1 S (.sl [] true) = some (.sl [] true) := rfl
  simp only [mapO, f, f2, Option.bind_some]
  rfl
section
attribute [local irreducible] Vs.callL Vs.callRL tyi callO callM callMV appendE storeE evLoad indexAddrO sliceO evFieldAddr evField buildO buildSliceO makeSliceO allocO boxed lenO copyE convertO indexO Vs.gc freezeAll
theorem call_DivMod_lt (m n : Nat) (e1 : Bool) (hp1 : Plain (magE m e1)) (hmn : m < n) (hm : (words m).length ≤ 1000000) (hn : (words n).length ≤ 1000000) : callL Tryz.prog hints 169 [magE m e1, magV n] = some (.tup [.sl [] true, magV m]) := by
  have hM : 3000000 ≤ maxLen := by decide
  have cc := fun S => callO_plain (S := S) (call_Cmp m n e1 false (by omega) (by omega)) (by simp [hp1]; exact Plain.sl _)
  have c : cmpN m n < 0 := by unfold cmpN; simp [hmn]
  have ap := fun S => sl_us.appNil 0 S (RowsV.sl (S := S) (kRows .u32 (words m)) e1) (kRows_ok _ _) (by rw [kRows_length]; omega) (by rw [kRows_length]; omega)
  refine FX.callL (r := (.tup [.sl [] true, .msl 0 0 (words m).length false], [.arr (kRows .u32 (words m)) (some (some 1)) false])) ok169_ 1000 rfl rfl ?_ ?_
  · have e2 : magV n = magE n false := rfl
    rw [e2]
    unfold magE at cc ap ⊢
    ((repeat ((conv => lhs; whnf); simp only [go_sem, simprocAttr, sem169_, cc, c, ap])); try (conv => lhs; whnf); try rfl)
  · show (mapO (fzPV1 _) [.sl [] true, .msl 0 0 (words m).length false]).map PV.tup = _
    have f1 : fzPV1 [.arr (kRows .u32 (words m)) (some (some 1)) false] (.msl 0 0 (words m).length false) = some (magV m) := kRows_fz (ex := false) rfl rfl 6
    have f2 : fzPV1 [.arr (kRows .u32 (words m)) (some (some 1)) false] (.sl [] true) = some (.sl [] true) := rfl
    simp only [mapO, f1, f2, Option.bind_some]
    rfl
theorem call_DivMod_one (m n : Nat) (e1 : Bool) (hp1 : Plain (magE m e1)) (hmn : n ≤ m) (hm : (words m).length ≤ 1000000) (h1 : (words n).length = 1) : callL Tryz.prog hints 169 [magE m e1, magV n] = some (.tup [magV (m / n), magV (m % n)]) := by
  have hM : 3000000 ≤ maxLen := by decide
  obtain ⟨w1, w2, w3⟩ := words_one h1
  have cc := fun S => callO_plain (S := S) (call_Cmp m n e1 false (by omega) (by omega)) (by simp [hp1]; exact Plain.sl _)
  have c : ¬ cmpN m n < 0 := by unfold cmpN; rw [if_neg (by omega)]; split <;> omega
  have hd := fun S => callO_plain (S := S) (call_divWord m e1 n ⟨w2, w3⟩ hm) (by simp [hp1, Plain.int])
  have hr : m % n < n := Nat.mod_lt _ w2
  have hf := fun S => callO_plain (S := S) (call_From (m % n) (by omega)) (by simp [Plain.int])
  have cr : IntKind.u64.wrap ((m % n : Nat) : Int) = ((m % n : Nat) : Int) := by rw [wU64]; omega
  have e2 : magV n = magE n false := rfl
  have hl : ((words n).length : Int) = 1 := by omega
  have hg : (words n).getD 0 0 = n := by rw [w1]; rfl
  refine FX.callL (r := (.tup [magV (m / n), magV (m % n)], [])) ok169_ 1000 rfl rfl ?_ (fz_mag2 _ _ _)
  rw [e2]
  unfold magE at cc hd ⊢
  ((repeat ((conv => lhs; whnf); simp only [go_sem, simprocAttr, sem169_, cc, c, hl, h1, hg, hd, hf, cr])); try (conv => lhs; whnf); try rfl)
theorem shift_facts {n : Nat} (hn : n ≠ 0) {k : Nat} (hk : (words n).length = k + 2) : ∃ x : Nat, x < 4294967296 ∧ (words n).getD (k + 1) 0 = x ∧ 32 - blen x ≤ 31 ∧ (words (n * 2 ^ (32 - blen x))).length = k + 2 ∧ 4294967296 ^ (k + 1) * 2147483648 ≤ n * 2 ^ (32 - blen x) := by
  obtain ⟨x, x0, x1, ex, h0, hb⟩ := words_blen hn
  have bx := (blen_le (n := x) 32).2 x1
  have bp := blen_pos x0
  have e1 : (words n).length - 1 = k + 1 := by omega
  rw [e1] at ex hb
  have hge := blen_ge hn
  have hlt := blen_lt n
  have w : (4294967296 : Nat) = 2 ^ 32 := by decide
  have w31 : (2147483648 : Nat) = 2 ^ 31 := by decide
  have g1 : 4294967296 ^ (k + 1) * 2147483648 ≤ n * 2 ^ (32 - blen x) := by
    have := Nat.mul_le_mul_right (2 ^ (32 - blen x)) hge
    rw [← Nat.pow_add] at this
    rw [w, w31, ← Nat.pow_mul, ← Nat.pow_add]
    have e : 32 * (k + 1) + 31 = blen n - 1 + (32 - blen x) := by omega
    rw [e]; exact this
  have g2 : n * 2 ^ (32 - blen x) < 4294967296 ^ (k + 2) := by
    have := (Nat.mul_lt_mul_right (show 0 < 2 ^ (32 - blen x) from Nat.pow_pos (by decide))).2 hlt
    rw [← Nat.pow_add] at this
    rw [w, ← Nat.pow_mul]
    have e : 32 * (k + 2) = blen n + (32 - blen x) := by omega
    rw [e]; exact this
  refine ⟨x, x1, ex, by omega, ?_, g1⟩
  have l1 := (digs_le WB2 (k + 2) (n * 2 ^ (32 - blen x))).2 g2
  have l2 : ¬ (digs WB (n * 2 ^ (32 - blen x))).length ≤ k + 1 := fun h => by
    have := (digs_le WB2 (k + 1) _).1 h
    have e : WB ^ (k + 1) = 4294967296 ^ (k + 1) := rfl
    rw [e] at this
    have := Nat.le_mul_of_pos_right (4294967296 ^ (k + 1)) (show 0 < 2147483648 by decide)
    omega
  show (digs WB _).length = k + 2
  omega
theorem call_DivMod_main (m n : Nat) (e1 : Bool) (hp1 : Plain (magE m e1)) (hmn : n ≤ m) (hm : (words m).length ≤ 900000) (k : Nat) (hk : (words n).length = k + 2) : ∃ r, IsMag (m % n) r ∧ callL Tryz.prog hints 169 [magE m e1, magV n] = some (.tup [magV (m / n), r]) := by
  have hM : 3000000 ≤ maxLen := by decide
  have hn0 : n ≠ 0 := fun e => by rw [e] at hk; unfold words at hk; rw [digs_zero] at hk; simp at hk
  have hm0 : m ≠ 0 := by omega
  obtain ⟨x, x1, ex, hs, hVl, hVb⟩ := shift_facts hn0 hk
  obtain ⟨s, hse⟩ : ∃ s, s = 32 - blen x := ⟨_, rfl⟩
  rw [← hse] at hs hVl hVb
  have hln : (words n).length ≤ (words m).length := digs_mono WB2 hmn
  obtain ⟨lm, hlm⟩ : ∃ l, l = (words m).length := ⟨_, rfl⟩
  have hMl : (words (m * 2 ^ s)).length ≤ lm + 1 := by
    refine (digs_le WB2 (lm + 1) _).2 ?_
    have a1 := digs_lt WB2 m
    have a2 : 2 ^ s ≤ WB := by
      have := Nat.pow_le_pow_right (n := 2) (by decide) (show s ≤ 32 by omega)
      exact this
    rw [Nat.pow_succ]
    have a3 := Nat.mul_le_mul_left (WB ^ lm) a2
    have a4 := (Nat.mul_lt_mul_right (show 0 < 2 ^ s from Nat.pow_pos (by decide))).2 a1
    have e : (digs WB m).length = lm := hlm.symm
    rw [e] at a4
    omega
  obtain ⟨A, hAe⟩ : ∃ A, A = words (m * 2 ^ s) ++ List.replicate (lm + 1 - (words (m * 2 ^ s)).length) 0 := ⟨_, rfl⟩
  have hAl : A.length = lm + 1 := by rw [hAe]; simp; omega
  have hAo : OkD WB A := by
    rw [hAe]
    exact (words_ok _).append (fun y hy => by rw [List.eq_of_mem_replicate hy]; exact ⟨Int.le_refl 0, by decide⟩)
  have hAv : valD WB A = ((m * 2 ^ s : Nat) : Int) := by
    rw [hAe, valD_append, valD_rep0, words_val]; simp
  obtain ⟨J, hJ⟩ : ∃ J, J = lm + 1 - (k + 2) := ⟨_, rfl⟩
  have hBv : valD WB (words (n * 2 ^ s)) = ((n * 2 ^ s : Nat) : Int) := words_val _
  have hdo : OkD WB (A.drop J) := fun y hy => hAo y (List.mem_of_mem_drop hy)
  have hdl : (A.drop J).length = k + 2 := by simp; omega
  have hdv : valD WB (A.drop J) < valD WB (words (n * 2 ^ s)) := by
    rw [valD_drop hAo, hAv, hBv]
    have p0 : (0 : Int) < 4294967296 ^ J := Int.pow_pos (by decide)
    rw [Int.ediv_lt_iff_lt_mul p0]
    have q : m * 2 ^ s < n * 2 ^ s * 4294967296 ^ J := by
      have a1 := digs_lt WB2 m
      have e : (digs WB m).length = lm := hlm.symm
      have e' : WB = 4294967296 := rfl
      rw [e, e'] at a1
      have a2 : 2 ^ s ≤ 2147483648 := by
        have := Nat.pow_le_pow_right (n := 2) (by decide) (show s ≤ 31 by omega)
        exact this
      have a3 := Nat.mul_le_mul_right (4294967296 ^ J) hVb
      have a4 : 4294967296 ^ (k + 1) * 2147483648 * 4294967296 ^ J = 4294967296 ^ lm * 2147483648 := by
        rw [Nat.mul_right_comm, ← Nat.pow_add]
        congr 2
        omega
      have a5 := Nat.mul_le_mul_left (4294967296 ^ lm) a2
      have a6 := (Nat.mul_lt_mul_right (show 0 < 2 ^ s from Nat.pow_pos (by decide))).2 a1
      omega
    have := Int.ofNat_lt.2 q
    rw [Int.natCast_mul (n * 2 ^ s), Int.natCast_pow] at this
    exact this
  have htop : 0 < (words (n * 2 ^ s)).getD (k + 1) 0 := by
    have h1 : n * 2 ^ s ≠ 0 := by
      have : 0 < 4294967296 ^ (k + 1) * 2147483648 := Nat.mul_pos (Nat.pow_pos (by decide)) (by decide)
      omega
    have h2 := digs_last WB2 h1
    have e : (digs WB (n * 2 ^ s)).length - 1 = k + 1 := by
      have : (digs WB (n * 2 ^ s)).length = k + 2 := hVl
      omega
    rw [e] at h2
    have h3 := ((words_ok (n * 2 ^ s)).getD (by decide) (k + 1)).1
    have h4 : (words (n * 2 ^ s)).getD (k + 1) 0 ≠ 0 := h2
    omega
  obtain ⟨O, Q, o1, o2, o3, o4, o5, o6, o7⟩ := loop_DivMod A (words (n * 2 ^ s)) J k s hVl (words_ok _) (by omega) hAo (by omega) htop [.blk 0, .seq 0 4095] J (Nat.le_refl _) (A.drop J) [] hdl hdo (by simp) (.nil _) hdv (by
    have := valD_append WB (A.take J) (A.drop J)
    rw [List.take_append_drop] at this
    have hl : (A.take J).length = J := by simp; omega
    rw [this, hl]
    have : valD WB [] = 0 := rfl
    rw [this, Int.mul_zero, Int.zero_add]
    rfl)
  rw [List.take_append_drop, Nat.sub_self] at o7
  simp only [List.replicate_zero, List.append_nil] at o7
  have hO0 := valD_nonneg o1
  have hQ0 := valD_nonneg o2
  obtain ⟨qn, hq⟩ : ∃ q : Nat, valD WB Q = q := ⟨(valD WB Q).toNat, by omega⟩
  obtain ⟨on, ho⟩ : ∃ q : Nat, valD WB O = q := ⟨(valD WB O).toNat, by omega⟩
  rw [hAv, hBv, hq, ho, ← Int.natCast_mul, ← Int.natCast_add] at o6
  rw [ho, hBv] at o5
  have o6' : m * 2 ^ s = n * 2 ^ s * qn + on := Int.ofNat.inj o6
  have o5' : on < n * 2 ^ s := Int.ofNat_lt.1 o5
  have p2 : 0 < 2 ^ s := Nat.pow_pos (by decide)
  have eq1 : qn = m / n := by
    rw [← Nat.mul_div_mul_right m n p2, o6', Nat.mul_add_div (by omega), Nat.div_eq_of_lt o5', Nat.add_zero]
  have eq2 : on = m % n * 2 ^ s := by
    rw [← Nat.mul_mod_mul_right, o6', Nat.mul_add_mod, Nat.mod_eq_of_lt o5']
  have ctq := call_Trim_ok (L := Q) (by omega) o2
  rw [hq, Int.toNat_natCast, eq1] at ctq
  have hpad : OkD WB (O ++ List.replicate J 0) := o1.append (fun y hy => by rw [List.eq_of_mem_replicate hy]; exact ⟨Int.le_refl 0, by decide⟩)
  have cto := call_Trim_ok (L := O ++ List.replicate J 0) (by simp; omega) hpad
  rw [valD_append, valD_rep0, Int.mul_zero, Int.add_zero, ho, Int.toNat_natCast, eq2] at cto
  have hol : (O ++ List.replicate J (0 : Int)).length = A.length := by simp; omega
  have c1 := callO_msl (S := [.arr (kRows .u32 (O ++ List.replicate J 0)) (some (some 1)) false, .arr (kRows .u32 Q) (some (some 1)) false]) (id := 1) (n := J) (ex := true) ctq rfl o4 (by simp)
  have c2 := callO_msl (S := [.arr (kRows .u32 (O ++ List.replicate J 0)) (some (some 1)) false, .arr (kRows .u32 Q) (some (some 1)) true]) (id := 0) (n := A.length) (ex := true) cto rfl hol (by simp)
  have hrw : (words (m % n * 2 ^ s)).length ≤ 1000000 := by
    have h1 : m % n * 2 ^ s ≤ n * 2 ^ s := Nat.mul_le_mul_right _ (Nat.le_of_lt (Nat.mod_lt _ (by omega)))
    have := digs_mono WB2 h1
    have e : (digs WB (n * 2 ^ s)).length = k + 2 := hVl
    show (digs WB _).length ≤ _
    omega
  obtain ⟨r, hr, crs⟩ : ∃ r, (r = magV (m % n) ∨ (m % n = 0 ∧ r = .sl [] true)) ∧ callL Tryz.prog hints 186 [magV (m % n * 2 ^ s), .int .i64 s] = some r := by
    have := call_Shr (m % n * 2 ^ s) false s (by omega) hrw
    rw [show s / 32 = 0 by omega, Nat.mul_div_cancel _ p2] at this
    by_cases hz : (words (m % n * 2 ^ s)).length ≤ 0
    · rw [if_pos hz] at this
      have h0 : m % n * 2 ^ s = 0 := words_len0.1 (by omega)
      have h1 : m % n = 0 := by
        rcases Nat.mul_eq_zero.1 h0 with h | h
        · exact h
        · omega
      exact ⟨_, .inr ⟨h1, rfl⟩, this⟩
    · rw [if_neg hz] at this
      exact ⟨_, .inl rfl, this⟩
  have c3 := fun S => callO_plain (S := S) crs (by simp [Plain.int]; exact Plain.sl _)
  have hfin : fzPV [.arr (kRows .u32 (O ++ List.replicate J 0)) (some (some 1)) true, .arr (kRows .u32 Q) (some (some 1)) true] (.tup [magV (m / n), r]) = some (.tup [magV (m / n), r]) := by
    rcases hr with rfl | ⟨_, rfl⟩
    · exact fz_mag2 _ _ _
    · exact fz_mag2n _ _
  refine ⟨r, hr, ?_⟩
  have key := o7 (.tup [magV (m / n), r], [.arr (kRows .u32 (O ++ List.replicate J 0)) (some (some 1)) true, .arr (kRows .u32 Q) (some (some 1)) true]) (by
    refine exit_run ok169_.good 1000 ?_
    ((repeat ((conv => lhs; whnf); simp only [go_sem, simprocAttr, sem169_, c1, c2, c3])); try (conv => lhs; whnf); try rfl))
  have cc := fun S => callO_plain (S := S) (call_Cmp m n e1 false (by omega) (by omega)) (by simp [hp1]; exact Plain.sl _)
  have c : ¬ cmpN m n < 0 := by unfold cmpN; rw [if_neg (by omega)]; split <;> omega
  have n1 : ¬ ((words n).length : Int) = 1 := by omega
  have wl : IntKind.i64.wrap (((words n).length : Int) - 1) = ((k + 1 : Nat) : Int) := by rw [IntKind.wrap_i64]; omega
  have xl : 0 ≤ ((k + 1 : Nat) : Int) ∧ ((k + 1 : Nat) : Int) < (words n).length := ⟨by omega, by omega⟩
  have lz := fun S => callO_plain (S := S) (call_LeadingZeros32 x x1) (by simp [Plain.int])
  rw [← hse] at lz
  have sh1 := call_Shl n false s (by omega) (by omega)
  rw [if_neg hn0] at sh1
  have sh2 := call_Shl m e1 s (by omega) (by omega)
  rw [if_neg hm0] at sh2
  have cs1 := fun S => callO_plain (S := S) sh1 (by simp [Plain.int]; exact Plain.sl _)
  have cs2 := fun S => callO_plain (S := S) sh2 (by simp [hp1, Plain.int])
  have e2 : magV n = magE n false := rfl
  refine FX.callL (r := (.tup [magV (m / n), r], [.arr (kRows .u32 (O ++ List.replicate J 0)) (some (some 1)) true, .arr (kRows .u32 Q) (some (some 1)) true])) ok169_ 1000 rfl rfl ?_ hfin
  rw [e2]
  unfold magE at cc cs1 cs2 ⊢
  have mv1 : magV (n * 2 ^ s) = .sl (kRows .u32 (words (n * 2 ^ s))) false := rfl
  have mv2 : magV (m * 2 ^ s) = .sl (kRows .u32 (words (m * 2 ^ s))) false := rfl
  have wl1 : IntKind.i64.wrap (((words m).length : Int) + 1) = (A.length : Int) := by rw [IntKind.wrap_i64]; omega
  have mk1 := make_us 0 A.length (by omega)
  have mk2 := make_us 1 J (by omega)
  have cp := sl_us.copy (S := [.arr (kRows .u32 (List.replicate A.length 0)) (some (some 1)) false]) (id := 0) (n := A.length) (ex := true) (rows := kRows .u32 (List.replicate A.length 0)) (new := kRows .u32 (words (m * 2 ^ s))) rfl (by rw [kRows_length]; simp) (kRows_ok _ _) (RowsV.sl _ false) (kRows_ok _ _) (by rw [kRows_length]; omega)
  have ecp : kRows .u32 (words (m * 2 ^ s)) ++ (kRows .u32 (List.replicate A.length 0)).drop (kRows .u32 (words (m * 2 ^ s))).length = kRows .u32 A := by
    rw [kRows_length, kRows_drop, ← kRows_append, List.drop_replicate, hAl, ← hAe]
  rw [ecp] at cp
  have wJ : IntKind.i64.wrap ((A.length : Int) - ((k + 2 : Nat) : Int)) = (J : Int) := by rw [IntKind.wrap_i64]; omega
  have wJ1 : IntKind.i64.wrap ((J : Int) - 1) = (J : Int) - 1 := by rw [IntKind.wrap_i64]; omega
  have wk1 : IntKind.i64.wrap (((k + 2 : Nat) : Int) - 1) = ((k + 1 : Nat) : Int) := by rw [IntKind.wrap_i64]; omega
  have wk2 : IntKind.i64.wrap (((k + 2 : Nat) : Int) - 2) = (k : Int) := by rw [IntKind.wrap_i64]; omega
  have xk1 : 0 ≤ ((k + 1 : Nat) : Int) ∧ ((k + 1 : Nat) : Int) < ((k + 2 : Nat) : Int) := ⟨by omega, by omega⟩
  have xk2 : 0 ≤ (k : Int) ∧ (k : Int) < ((k + 2 : Nat) : Int) := ⟨by omega, by omega⟩
  have cv : ∀ i, IntKind.u64.wrap ((words (n * 2 ^ s)).getD i 0) = (words (n * 2 ^ s)).getD i 0 := fun i => by
    have := (words_ok (n * 2 ^ s)).getD (by decide) i
    have h2 : (words (n * 2 ^ s)).getD i 0 < 4294967296 := this.2
    rw [wU64]; omega
  ((repeat ((conv => lhs; whnf); simp only [go_sem, simprocAttr, sem169_, cc, c, n1, wl, xl, Int.toNat_natCast, ex, lz, cs1, cs2, mv1, mv2, wl1, mk1, mk2, cp, wJ, wJ1, wk1, wk2, xk1, xk2, cv, hVl])); try (conv => lhs; whnf); try rfl)
  exact key
theorem call_DivMod (m n : Nat) {a : PV} (ha : IsMag m a) (hn : n ≠ 0) (hm : (words m).length ≤ 900000) (hnl : (words n).length ≤ 900000) : ∃ q r, IsMag (m / n) q ∧ IsMag (m % n) r ∧ callL Tryz.prog hints 169 [a, magV n] = some (.tup [q, r]) := by
  obtain ⟨e, rfl, hp⟩ := ha.form
  by_cases h : m < n
  · exact ⟨_, _, .nil' (Nat.div_eq_of_lt h), by rw [Nat.mod_eq_of_lt h]; exact .of m, call_DivMod_lt m n e hp h (by omega) (by omega)⟩
  · have h0 : (words n).length ≠ 0 := fun e => hn (words_len0.1 e)
    by_cases h1 : (words n).length = 1
    · exact ⟨_, _, .of _, .of _, call_DivMod_one m n e hp (by omega) (by omega) h1⟩
    · obtain ⟨r, hr, hc⟩ := call_DivMod_main m n e hp (by omega) hm ((words n).length - 2) (by omega)
      exact ⟨_, r, .of _, hr, hc⟩
end
end Go.Vs
end
section
set_option linter.unusedVariables false
set_option linter.unusedSimpArgs false
set_option maxRecDepth 100000
namespace Go.Vs
open Go Go.Proofs
theorem IsMag.plain {n : Nat} {v : PV} (h : IsMag n v) : Plain v := by
  obtain ⟨e, rfl, hp⟩ := h.form
  exact hp
theorem mag_Mul {m n : Nat} {a b : PV} (ha : IsMag m a) (hb : IsMag n b) (hm : (words m).length ≤ 1000000) (hn : (words n).length ≤ 1000000) : ∃ v, IsMag (m * n) v ∧ ∀ S, callO (callL Tryz.prog hints) S 116 [a, b] = some { v } := by
  obtain ⟨e1, rfl, h1⟩ := ha.form
  obtain ⟨e2, rfl, h2⟩ := hb.form
  have hc := call_Mul m n e1 e2 hm hn
  refine ⟨_, ?_, fun S => callO_plain (S := S) hc (by simp [h1, h2])⟩
  by_cases h : m = 0 ∨ n = 0
  · rw [if_pos h]; exact .nil' (by rcases h with h | h <;> simp [h])
  · rw [if_neg h]; exact .of _
theorem mag_Sub {m n : Nat} {a b : PV} (ha : IsMag m a) (hb : IsMag n b) (hmn : n ≤ m) (hm : (words m).length ≤ 1000000) (S : Store) : callO (callL Tryz.prog hints) S 167 [a, b] = some { v := magV (m - n) } := by
  obtain ⟨e1, rfl, h1⟩ := ha.form
  obtain ⟨e2, rfl, h2⟩ := hb.form
  exact callO_plain (S := S) (call_Sub m n e1 e2 hmn hm) (by simp [h1, h2])
theorem mag_Cmp {m n : Nat} {a b : PV} (ha : IsMag m a) (hb : IsMag n b) (hm : (words m).length ≤ 1000000) (hn : (words n).length ≤ 1000000) (S : Store) : callO (callL Tryz.prog hints) S 115 [a, b] = some { v := .int .i64 (cmpN m n) } := by
  have hM : 3000000 ≤ maxLen := by decide
  obtain ⟨e1, rfl, h1⟩ := ha.form
  obtain ⟨e2, rfl, h2⟩ := hb.form
  exact callO_plain (S := S) (call_Cmp m n e1 e2 (by omega) (by omega)) (by simp [h1, h2])
theorem mag_Bits {m : Nat} {a : PV} (ha : IsMag m a) (hm : (words m).length ≤ 1000000) (S : Store) : callO (callL Tryz.prog hints) S 189 [a] = some { v := .int .i64 (blen m) } := by
  obtain ⟨e1, rfl, h1⟩ := ha.form
  exact callO_plain (S := S) (call_Bits m e1 hm) (by simp [h1])
theorem mag_Small {m : Nat} {a : PV} (ha : IsMag m a) (h : m < 18446744073709551616) (S : Store) : callO (callL Tryz.prog hints) S 176 [a] = some { v := .tup [.int .u64 m, .bool true] } := by
  obtain ⟨e1, rfl, h1⟩ := ha.form
  have := call_Small m e1
  rw [if_pos h] at this
  exact callO_plain (S := S) this (by simp [h1])
theorem mag_From (n : Nat) (h : n < 18446744073709551616) (S : Store) : callO (callL Tryz.prog hints) S 170 [.int .u64 n] = some { v := magV n } := callO_plain (S := S) (call_From n h) (by simp [Plain.int])
theorem mag_Shr {m : Nat} {a : PV} (ha : IsMag m a) (k : Nat) (hk : k ≤ 2000000000) (hm : (words m).length ≤ 1000000) : ∃ v, IsMag (m / 2 ^ k) v ∧ ∀ S, callO (callL Tryz.prog hints) S 186 [a, .int .i64 k] = some { v } := by
  obtain ⟨e1, rfl, h1⟩ := ha.form
  have hc := call_Shr m e1 k hk hm
  refine ⟨_, ?_, fun S => callO_plain (S := S) hc (by simp [h1, Plain.int])⟩
  by_cases h : (words m).length ≤ k / 32
  · rw [if_pos h]
    refine .nil' (Nat.div_eq_of_lt ?_)
    have h2 := (digs_le WB2 (k / 32) m).1 h
    have h3 : WB ^ (k / 32) = 2 ^ (32 * (k / 32)) := by rw [Nat.pow_mul]
    have h4 := Nat.pow_le_pow_right (n := 2) (by decide) (show 32 * (k / 32) ≤ k by omega)
    omega
  · rw [if_neg h]; exact .of _
theorem mag_DivMod {m n : Nat} {a b : PV} (ha : IsMag m a) (hb : IsMag n b) (hn : n ≠ 0) (hm : (words m).length ≤ 900000) (hnl : (words n).length ≤ 900000) : ∃ q r, IsMag (m / n) q ∧ IsMag (m % n) r ∧ ∀ S, callO (callL Tryz.prog hints) S 169 [a, b] = some { v := .tup [q, r] } := by
  rcases hb with rfl | ⟨h, _⟩
  · obtain ⟨q, r, hq, hr, hc⟩ := call_DivMod m n ha hn hm hnl
    exact ⟨q, r, hq, hr, fun S => callO_plain (S := S) hc (by simp [ha.plain]; exact Plain.sl _)⟩
  · exact absurd h hn
theorem words_mul {m n j k : Nat} (hm : (words m).length ≤ j) (hn : (words n).length ≤ k) : (words (m * n)).length ≤ j + k := digs_mul WB2 hm hn
theorem words_small {n : Nat} (h : n < 18446744073709551616) : (words n).length ≤ 2 := (digs_le WB2 2 n).2 (by
  have : WB ^ 2 = 18446744073709551616 := by decide
  omega)
@[go_sem] theorem conv_i64_u64 (S : Store) (k : IntKind) (n : Int) : convertO Tryz.prog 2 161 S (.int k n) = some (.int .u64 (IntKind.u64.wrap n)) := by
  simp [convertO, show (tyi Tryz.prog 2).known = true by kernel_rfl, evConvert, d_u64]
@[go_sem] theorem conv_u64_i64 (S : Store) (k : IntKind) (n : Int) : convertO Tryz.prog 161 2 S (.int k n) = some (.int .i64 (IntKind.i64.wrap n)) := by
  simp [convertO, known_u64, evConvert, show (tyi Tryz.prog 2).d = .int .i64 by kernel_rfl]
section
attribute [local irreducible] Vs.callL Vs.callRL tyi callO callM callMV appendE storeE evLoad indexAddrO sliceO evFieldAddr evField buildO buildSliceO makeSliceO allocO boxed lenO copyE convertO indexO Vs.gc freezeAll
noncomputable def fx190_ : FX := ⟨Tryz.f190, hints.of 190, []⟩
theorem ok190_ : fx190_.ok 190 := ⟨by kernel_rfl, of_decide_eq_true (by kernel_rfl), by kernel_rfl, by kernel_rfl, by kernel_rfl, by kernel_rfl⟩
theorem sem190_ (b0 : Nat) (m : Md) (fs : List Fr) (e : Env) (S : Store) : sem b0 fx190_ m fs e S = run b0 fx190_ 1000 m fs e S := (sem_eq _ _ _ _ _ _).trans (run_sem b0 fx190_ ok190_.good 1000 m fs e S).symm
theorem call_combine {m n : Nat} {a b : PV} (ha : IsMag m a) (hb : IsMag n b) (p q : Int) (hm : (words m).length ≤ 900000) (hn : (words n).length ≤ 900000) (hp : -4294967296 ≤ p ∧ p ≤ 4294967296) (hq : -4294967296 ≤ q ∧ q ≤ 4294967296) (hs : (p ≤ 0 ∧ 0 ≤ q) ∨ (0 ≤ p ∧ q ≤ 0)) (h0 : 0 ≤ p * m + q * n) : callL Tryz.prog hints 190 [a, b, .int .i64 p, .int .i64 q] = some (magV (p * m + q * n).toNat) := by
  refine FX.callL (r := (magV (p * m + q * n).toNat, [])) ok190_ 1000 rfl rfl ?_ (fzPV_sl _ _)
  by_cases c : p < 0 ∨ 0 < q
  · have hs' : p ≤ 0 ∧ 0 ≤ q := by omega
    obtain ⟨P, hP⟩ : ∃ P : Nat, p = -(P : Int) := ⟨(-p).toNat, by omega⟩
    obtain ⟨Q, hQ⟩ : ∃ Q : Nat, q = Q := ⟨q.toNat, by omega⟩
    subst hP hQ
    obtain ⟨v1, i1, c1⟩ := mag_Mul hb (IsMag.of Q) (by omega) (Nat.le_trans (words_small (by omega)) (by decide))
    obtain ⟨v2, i2, c2⟩ := mag_Mul ha (IsMag.of P) (by omega) (Nat.le_trans (words_small (by omega)) (by decide))
    have e1 : -(P : Int) * m = -((m * P : Nat) : Int) := by rw [Int.natCast_mul, Int.neg_mul, Int.mul_comm]
    have e2 : (Q : Int) * n = ((n * Q : Nat) : Int) := by rw [Int.natCast_mul, Int.mul_comm]
    rw [e1, e2] at h0 ⊢
    have hle : m * P ≤ n * Q := by omega
    have sb := mag_Sub i1 i2 hle (Nat.le_trans (words_mul hn (words_small (n := Q) (by omega))) (by decide))
    have er : (-((m * P : Nat) : Int) + ((n * Q : Nat) : Int)).toNat = n * Q - m * P := by omega
    rw [er]
    have f1 := mag_From Q (by omega)
    have f2 := mag_From P (by omega)
    have k1 : IntKind.u64.wrap (Q : Int) = Q := by rw [wU64]; omega
    have k2 : IntKind.u64.wrap (P : Int) = P := by rw [wU64]; omega
    have k3 : IntKind.i64.wrap (P : Int) = P := by rw [IntKind.wrap_i64]; omega
    have k4 : IntKind.i64.wrap (0 - -(P : Int)) = P := by rw [show (0 : Int) - -(P : Int) = P by omega]; exact k3
    by_cases cp : -(P : Int) < 0
    · have cp' : 0 < P := by omega
      ((repeat ((conv => lhs; whnf); simp only [go_sem, simprocAttr, sem190_, cp, cp', f1, f2, k1, k2, k3, k4, c1, c2, sb])); try (conv => lhs; whnf); try rfl)
    · have cq : (0 : Int) < Q := by omega
      have cp' : ¬ 0 < P := by omega
      have cq' : 0 < Q := by omega
      ((repeat ((conv => lhs; whnf); simp only [go_sem, simprocAttr, sem190_, cp, cp', cq, cq', f1, f2, k1, k2, k3, k4, c1, c2, sb])); try (conv => lhs; whnf); try rfl)
  · have n1 : ¬ p < 0 := by omega
    have n2 : ¬ 0 < q := by omega
    obtain ⟨P, hP⟩ : ∃ P : Nat, p = P := ⟨p.toNat, by omega⟩
    obtain ⟨Q, hQ⟩ : ∃ Q : Nat, q = -(Q : Int) := ⟨(-q).toNat, by omega⟩
    subst hP hQ
    obtain ⟨v1, i1, c1⟩ := mag_Mul ha (IsMag.of P) (by omega) (Nat.le_trans (words_small (by omega)) (by decide))
    obtain ⟨v2, i2, c2⟩ := mag_Mul hb (IsMag.of Q) (by omega) (Nat.le_trans (words_small (by omega)) (by decide))
    have e1 : (P : Int) * m = ((m * P : Nat) : Int) := by rw [Int.natCast_mul, Int.mul_comm]
    have e2 : -(Q : Int) * n = -((n * Q : Nat) : Int) := by rw [Int.natCast_mul, Int.neg_mul, Int.mul_comm]
    rw [e1, e2] at h0 ⊢
    have hle : n * Q ≤ m * P := by omega
    have sb := mag_Sub i1 i2 hle (Nat.le_trans (words_mul hm (words_small (n := P) (by omega))) (by decide))
    have er : (((m * P : Nat) : Int) + -((n * Q : Nat) : Int)).toNat = m * P - n * Q := by omega
    rw [er]
    have f1 := mag_From P (by omega)
    have f2 := mag_From Q (by omega)
    have k1 : IntKind.u64.wrap (Q : Int) = Q := by rw [wU64]; omega
    have k2 : IntKind.u64.wrap (P : Int) = P := by rw [wU64]; omega
    have k3 : IntKind.i64.wrap (Q : Int) = Q := by rw [IntKind.wrap_i64]; omega
    have k4 : IntKind.i64.wrap (0 - -(Q : Int)) = Q := by rw [show (0 : Int) - -(Q : Int) = Q by omega]; exact k3
    ((repeat ((conv => lhs; whnf); simp only [go_sem, simprocAttr, sem190_, n1, n2, f1, f2, k1, k2, k3, k4, c1, c2, sb])); try (conv => lhs; whnf); try rfl)
end
end Go.Vs
end
section
set_option linter.unusedVariables false
set_option linter.unusedSimpArgs false
set_option maxRecDepth 100000
namespace Go.Vs
open Go Go.Proofs
structure LInv (m n : Nat) (sh : Int) (ah bh a b : Int) (p q r s x y : Int) : Prop where
  sgn : (0 ≤ p ∧ q ≤ 0 ∧ r ≤ 0 ∧ 0 ≤ s) ∨ (p ≤ 0 ∧ 0 ≤ q ∧ 0 ≤ r ∧ s ≤ 0)
  b1 : 0 ≤ x + p ∧ x + p ≤ 2147483648
  b2 : 0 ≤ x + q ∧ x + q ≤ 2147483648
  b3 : 0 ≤ y + r ∧ y + r ≤ 2147483648
  b4 : 0 ≤ y + s ∧ y + s ≤ 2147483648
  vx : x = p * ah + q * bh
  vy : y = r * ah + s * bh
  gcd : Int.gcd (p * m + q * n) (r * m + s * n) = Nat.gcd m n
  ord : (p = 1 ∧ q = 0 ∧ r = 0 ∧ s = 1) ∨ (y + r < x + p ∧ y + s < x + q ∧ p * m + q * n ≤ n)
theorem comb_split {m n sh ah bh a b : Int} (hm : m = ah * sh + a) (hn : n = bh * sh + b) (p q x : Int) (hx : x = p * ah + q * bh) : p * m + q * n = sh * x + (p * a + q * b) := by
  subst hm hn hx
  simp only [Int.mul_add]
  have e1 : p * (ah * sh) = sh * (p * ah) := by ac_rfl
  have e2 : q * (bh * sh) = sh * (q * bh) := by ac_rfl
  omega
theorem comb_ge {sh a b p q x : Int} (hs : 0 ≤ sh) (ha : 0 ≤ a ∧ a ≤ sh) (hb : 0 ≤ b ∧ b ≤ sh) (hp : 0 ≤ p) (hq : q ≤ 0) : sh * (x + q) ≤ sh * x + (p * a + q * b) ∧ sh * x + (p * a + q * b) ≤ sh * (x + p) := by
  have h1 : 0 ≤ p * a := Int.mul_nonneg hp ha.1
  have h2 : p * a ≤ p * sh := Int.mul_le_mul_of_nonneg_left ha.2 hp
  have h3 : q * b ≤ 0 := Int.mul_nonpos_of_nonpos_of_nonneg hq hb.1
  have h4 : q * sh ≤ q * b := Int.mul_le_mul_of_nonpos_left hq hb.2
  rw [Int.mul_add, Int.mul_add, Int.mul_comm sh q, Int.mul_comm sh p]
  omega
theorem LInv.bounds {m n : Nat} {sh ah bh a b p q r s x y : Int} (h : LInv m n sh ah bh a b p q r s x y) (hs : 0 < sh) (ha : 0 ≤ a ∧ a ≤ sh) (hb : 0 ≤ b ∧ b ≤ sh) (hm : (m : Int) = ah * sh + a) (hn : (n : Int) = bh * sh + b) :
    0 ≤ p * m + q * n ∧ 0 ≤ r * m + s * n ∧ ((y + r < x + p ∧ y + s < x + q) → r * m + s * n < p * m + q * n) := by
  rw [comb_split hm hn p q x h.vx, comb_split hm hn r s y h.vy]
  have mono : ∀ u v : Int, u ≤ v → sh * u ≤ sh * v := fun u v e => Int.mul_le_mul_of_nonneg_left e (Int.le_of_lt hs)
  have monos : ∀ u v : Int, u < v → sh * u < sh * v := fun u v e => Int.mul_lt_mul_of_pos_left e hs
  rcases h.sgn with ⟨s1, s2, s3, s4⟩ | ⟨s1, s2, s3, s4⟩
  · have g1 := comb_ge (x := x) (Int.le_of_lt hs) ha hb s1 s2
    have g2 := comb_ge (x := y) (Int.le_of_lt hs) hb ha s4 s3
    have m1 := mono 0 (x + q) h.b2.1
    have m2 := mono 0 (y + r) h.b3.1
    rw [Int.mul_zero] at m1 m2
    refine ⟨by omega, by omega, fun ⟨_, o⟩ => ?_⟩
    have m3 := monos _ _ o
    omega
  · have g1 := comb_ge (x := x) (Int.le_of_lt hs) hb ha s2 s1
    have g2 := comb_ge (x := y) (Int.le_of_lt hs) ha hb s3 s4
    have m1 := mono 0 (x + p) h.b1.1
    have m2 := mono 0 (y + s) h.b4.1
    rw [Int.mul_zero] at m1 m2
    refine ⟨by omega, by omega, fun ⟨o, _⟩ => ?_⟩
    have m3 := monos _ _ o
    omega
theorem LInv.step {m n : Nat} {sh ah bh a b p q r s x y k : Int} (h : LInv m n sh ah bh a b p q r s x y) (hs : 0 < sh) (ha : 0 ≤ a ∧ a ≤ sh) (hb : 0 ≤ b ∧ b ≤ sh) (hm : (m : Int) = ah * sh + a) (hn : (n : Int) = bh * sh + b)
    (h1 : y + r ≠ 0) (h2 : y + s ≠ 0) (k1 : k = (x + p) / (y + r)) (k2 : k = (x + q) / (y + s)) : LInv m n sh ah bh a b r s (p - k * r) (q - k * s) y (x - k * y) ∧ (x - k * y) + (p - k * r) < y + r := by
  obtain ⟨_, _, hord⟩ := h.bounds hs ha hb hm hn
  have hk : 0 ≤ k := by rw [k1]; exact Int.ediv_nonneg h.b1.1 h.b3.1
  have e1 : (x - k * y) + (p - k * r) = (x + p) % (y + r) := by
    have := Int.mul_ediv_add_emod (x + p) (y + r)
    rw [← k1, Int.mul_comm, Int.mul_add] at this
    omega
  have e2 : (x - k * y) + (q - k * s) = (x + q) % (y + s) := by
    have := Int.mul_ediv_add_emod (x + q) (y + s)
    rw [← k2, Int.mul_comm, Int.mul_add] at this
    omega
  have p3 : 0 < y + r := by have := h.b3.1; omega
  have p4 : 0 < y + s := by have := h.b4.1; omega
  have r1 := Int.emod_nonneg (x + p) h1
  have r2 := Int.emod_lt_of_pos (x + p) p3
  have r3 := Int.emod_nonneg (x + q) h2
  have r4 := Int.emod_lt_of_pos (x + q) p4
  have b3 := h.b3
  have b4 := h.b4
  refine ⟨⟨?_, h.b3, h.b4, by rw [e1]; omega, by rw [e2]; omega, h.vy, ?_, ?_, ?_⟩, by rw [e1]; exact r2⟩
  · rcases h.sgn with ⟨s1, s2, s3, s4⟩ | ⟨s1, s2, s3, s4⟩
    · have t1 : k * r ≤ 0 := Int.mul_nonpos_of_nonneg_of_nonpos hk s3
      have t2 : 0 ≤ k * s := Int.mul_nonneg hk s4
      right; omega
    · have t1 : 0 ≤ k * r := Int.mul_nonneg hk s3
      have t2 : k * s ≤ 0 := Int.mul_nonpos_of_nonneg_of_nonpos hk s4
      left; omega
  · rw [h.vx, h.vy, Int.sub_mul, Int.sub_mul, Int.mul_add, Int.mul_assoc, Int.mul_assoc]
    omega
  · have e : (p - k * r) * m + (q - k * s) * n = (p * m + q * n) - k * (r * m + s * n) := by
      rw [Int.sub_mul, Int.sub_mul, Int.mul_add, Int.mul_assoc, Int.mul_assoc]
      omega
    rw [e, ← h.gcd, Int.gcd_comm (p * m + q * n)]
    exact Int.gcd_sub_mul_right_right _ _ _
  · right
    rw [e1, e2]
    refine ⟨r2, r4, ?_⟩
    rcases h.ord with ⟨o1, o2, o3, o4⟩ | ⟨o1, o2, o3⟩
    · rw [o3, o4]; omega
    · have := hord ⟨o1, o2⟩
      omega
theorem LInv.small {m n : Nat} {sh ah bh a b p q r s x y : Int} (h : LInv m n sh ah bh a b p q r s x y) : (-2147483648 ≤ p ∧ p ≤ 2147483648) ∧ (-2147483648 ≤ q ∧ q ≤ 2147483648) ∧ (-2147483648 ≤ r ∧ r ≤ 2147483648) ∧ (-2147483648 ≤ s ∧ s ≤ 2147483648) ∧ (0 ≤ x ∧ x ≤ 2147483648) ∧ (0 ≤ y ∧ y ≤ 2147483648) := by
  have b1 := h.b1
  have b2 := h.b2
  have b3 := h.b3
  have b4 := h.b4
  rcases h.sgn with ⟨s1, s2, s3, s4⟩ | ⟨s1, s2, s3, s4⟩ <;> omega
theorem prod_bound {k r : Int} (hk : 0 ≤ k ∧ k ≤ 2147483648) (hr : -2147483648 ≤ r ∧ r ≤ 2147483648) : -4611686018427387904 ≤ k * r ∧ k * r ≤ 4611686018427387904 := by
  have h1 : k * r ≤ k * 2147483648 := Int.mul_le_mul_of_nonneg_left hr.2 hk.1
  have h2 : k * (-2147483648) ≤ k * r := Int.mul_le_mul_of_nonneg_left hr.1 hk.1
  omega
section
attribute [local irreducible] Vs.callL Vs.callRL tyi callO callM callMV appendE storeE evLoad indexAddrO sliceO evFieldAddr evField buildO buildSliceO makeSliceO allocO boxed lenO copyE convertO indexO Vs.gc freezeAll
noncomputable def fx180_ : FX := ⟨Tryz.f180, hints.of 180, []⟩
theorem ok180_ : fx180_.ok 180 := ⟨by kernel_rfl, of_decide_eq_true (by kernel_rfl), by kernel_rfl, by kernel_rfl, by kernel_rfl, by kernel_rfl⟩
theorem sem180_ (b0 : Nat) (m : Md) (fs : List Fr) (e : Env) (S : Store) : sem b0 fx180_ m fs e S = run b0 fx180_ 1000 m fs e S := (sem_eq _ _ _ _ _ _).trans (run_sem b0 fx180_ ok180_.good 1000 m fs e S).symm
theorem loop_lehmer (va vb : PV) (m n : Nat) (sh ah bh a b : Int) (hs : 0 < sh) (ha : 0 ≤ a ∧ a ≤ sh) (hb : 0 ≤ b ∧ b ≤ sh) (hm : (m : Int) = ah * sh + a) (hn : (n : Int) = bh * sh + b) (fs : List Fr) : ∀ (f : Nat) (p q r s x y : Int), y + r ≤ f → LInv m n sh ah bh a b p q r s x y →
    ∃ p' q' r' s' x' y' : Int, LInv m n sh ah bh a b p' q' r' s' x' y' ∧ ∀ z : PV × Store, exitTo 0 fx180_ 0 fs [(0, va), (1, vb), (12, .int .i64 p'), (13, .int .i64 q'), (14, .int .i64 r'), (15, .int .i64 s'), (16, .undef), (17, .undef), (18, .undef), (55, .undef), (71, .undef)] [] = some z →
    loopAt 0 fx180_ 0 2040 0 fs [(0, va), (1, vb), (12, .int .i64 p), (13, .int .i64 q), (14, .int .i64 r), (15, .int .i64 s), (16, .int .i64 x), (17, .int .i64 y)] [] = some z := by
  intro f
  induction f with
  | zero =>
    intro p q r s x y hf h
    obtain ⟨i1, i2, i3, i4, i5, i6⟩ := h.small
    have b3 := h.b3
    have c1 : y + r = 0 := by omega
    have w1 : IntKind.i64.wrap (y + r) = 0 := by rw [c1]; decide
    refine ⟨p, q, r, s, x, y, h, fun z hz => ?_⟩
    refine loopAt_step ok180_.good 1000 ?_
    ((repeat ((conv => lhs; whnf); simp only [go_sem, simprocAttr, sem180_, w1])); try (conv => lhs; whnf); try rfl)
    exact hz
  | succ f ih =>
    intro p q r s x y hf h
    obtain ⟨i1, i2, i3, i4, i5, i6⟩ := h.small
    have b1 := h.b1
    have b2 := h.b2
    have b3 := h.b3
    have b4 := h.b4
    have wyr : IntKind.i64.wrap (y + r) = y + r := by rw [IntKind.wrap_i64]; omega
    have wys : IntKind.i64.wrap (y + s) = y + s := by rw [IntKind.wrap_i64]; omega
    have wxp : IntKind.i64.wrap (x + p) = x + p := by rw [IntKind.wrap_i64]; omega
    have wxq : IntKind.i64.wrap (x + q) = x + q := by rw [IntKind.wrap_i64]; omega
    by_cases c1 : y + r = 0
    · refine ⟨p, q, r, s, x, y, h, fun z hz => ?_⟩
      refine loopAt_step ok180_.good 1000 ?_
      ((repeat ((conv => lhs; whnf); simp only [go_sem, simprocAttr, sem180_, wyr, c1])); try (conv => lhs; whnf); try rfl)
      exact hz
    by_cases c2 : y + s = 0
    · refine ⟨p, q, r, s, x, y, h, fun z hz => ?_⟩
      refine loopAt_step ok180_.good 1000 ?_
      ((repeat ((conv => lhs; whnf); simp only [go_sem, simprocAttr, sem180_, wyr, c1, wys, c2])); try (conv => lhs; whnf); try rfl)
      exact hz
    have t1 : (x + p).tdiv (y + r) = (x + p) / (y + r) := Int.tdiv_eq_ediv_of_nonneg b1.1
    have t2 : (x + q).tdiv (y + s) = (x + q) / (y + s) := Int.tdiv_eq_ediv_of_nonneg b2.1
    obtain ⟨k, hk⟩ : ∃ k, k = (x + p) / (y + r) := ⟨_, rfl⟩
    obtain ⟨l, hl⟩ : ∃ l, l = (x + q) / (y + s) := ⟨_, rfl⟩
    have k0 : 0 ≤ k ∧ k ≤ 2147483648 := by
      rw [hk]
      have := Int.ediv_nonneg b1.1 b3.1
      have := Int.ediv_le_self (y + r) b1.1
      omega
    have l0 : 0 ≤ l ∧ l ≤ 2147483648 := by
      rw [hl]
      have := Int.ediv_nonneg b2.1 b4.1
      have := Int.ediv_le_self (y + s) b2.1
      omega
    rw [← hk] at t1
    rw [← hl] at t2
    have wk : IntKind.i64.wrap k = k := by rw [IntKind.wrap_i64]; omega
    have wl : IntKind.i64.wrap l = l := by rw [IntKind.wrap_i64]; omega
    by_cases c3 : k = l
    · subst c3
      obtain ⟨hst, hlt⟩ := h.step hs ha hb hm hn c1 c2 hk hl
      obtain ⟨p', q', r', s', x', y', j1, j2⟩ := ih r s (p - k * r) (q - k * s) y (x - k * y) (by omega) hst
      obtain ⟨j3, j4, j5, j6, j7, j8⟩ := hst.small
      have m1 := prod_bound k0 i3
      have m2 := prod_bound k0 i4
      have m3 := prod_bound (r := y) k0 (by omega)
      have w1 : IntKind.i64.wrap (k * r) = k * r := by rw [IntKind.wrap_i64]; omega
      have w2 : IntKind.i64.wrap (k * s) = k * s := by rw [IntKind.wrap_i64]; omega
      have w3 : IntKind.i64.wrap (k * y) = k * y := by rw [IntKind.wrap_i64]; omega
      have w4 : IntKind.i64.wrap (p - k * r) = p - k * r := by rw [IntKind.wrap_i64]; omega
      have w5 : IntKind.i64.wrap (q - k * s) = q - k * s := by rw [IntKind.wrap_i64]; omega
      have w6 : IntKind.i64.wrap (x - k * y) = x - k * y := by rw [IntKind.wrap_i64]; omega
      refine ⟨p', q', r', s', x', y', j1, fun z hz => ?_⟩
      have key := j2 z hz
      refine loopAt_step ok180_.good 1000 ?_
      ((repeat ((conv => lhs; whnf); simp only [go_sem, simprocAttr, sem180_, wyr, c1, wys, c2, wxp, wxq, t1, t2, wk, w1, w2, w3, w4, w5, w6])); try (conv => lhs; whnf); try rfl)
      exact key
    · refine ⟨p, q, r, s, x, y, h, fun z hz => ?_⟩
      refine loopAt_step ok180_.good 1000 ?_
      ((repeat ((conv => lhs; whnf); simp only [go_sem, simprocAttr, sem180_, wyr, c1, wys, c2, wxp, wxq, t1, t2, wk, wl, c3])); try (conv => lhs; whnf); try rfl)
      exact hz
theorem fz_leh (S : Store) (m n : Nat) : fzPV S (.tup [magV m, magV n, .bool true]) = some (.tup [magV m, magV n, .bool true]) := by
  show (mapO (fzPV1 _) [magV m, magV n, .bool true]).map PV.tup = _
  have f : ∀ n, fzPV1 S (magV n) = some (magV n) := fun n => fzPV_sl _ _
  have f2 : fzPV1 S (.bool true) = some (.bool true) := rfl
  simp only [mapO, f, f2, Option.bind_some]
  rfl
theorem call_lehmer {m n : Nat} {va vb : PV} (ha : IsMag m va) (hb : IsMag n vb) (hmn : n ≤ m) (h3 : 18446744073709551616 ≤ n) (hm : (words m).length ≤ 900000) : ∃ v, callL Tryz.prog hints 180 [va, vb] = some v ∧ (v = .tup [.sl [] true, .sl [] true, .bool false] ∨ ∃ X Y : Nat, v = .tup [magV X, magV Y, .bool true] ∧ Y < X ∧ X ≤ n ∧ Nat.gcd X Y = Nat.gcd m n) := by
  have hn : (words n).length ≤ 900000 := by
    have : (digs WB n).length ≤ (digs WB m).length := digs_mono WB2 hmn
    have h2 : (digs WB m).length ≤ 900000 := hm
    show (digs WB n).length ≤ 900000
    omega
  obtain ⟨N, hN⟩ : ∃ N, N = blen m := ⟨_, rfl⟩
  have hN1 : 65 ≤ N := by
    have : ¬ blen m ≤ 64 := fun h => by
      have h2 := (blen_le 64).1 h
      have : (2 : Nat) ^ 64 = 18446744073709551616 := by decide
      omega
    omega
  have hN2 : N ≤ 28800000 := by
    obtain ⟨c, hc⟩ : ∃ c, c = 900000 := ⟨_, rfl⟩
    have h0 : (words m).length ≤ c := by omega
    have h1 := (digs_le WB2 c m).1 h0
    have h2 : WB ^ c = 2 ^ (32 * c) := by rw [Nat.pow_mul]
    rw [h2] at h1
    have := (blen_le (32 * c)).2 h1
    omega
  have bn := blen_mono hmn
  rw [← hN] at bn
  have b1 := fun S => mag_Bits ha (by omega) S
  have b2 := fun S => mag_Bits hb (by omega) S
  rw [← hN] at b1
  have w1 : IntKind.i64.wrap ((N : Int) - 20) = (N : Int) - 20 := by rw [IntKind.wrap_i64]; omega
  by_cases c1 : (blen n : Int) < (N : Int) - 20
  · refine ⟨_, ?_, .inl rfl⟩
    refine FX.callL (r := (.tup [.sl [] true, .sl [] true, .bool false], [])) ok180_ 1000 rfl rfl ?_ rfl
    ((repeat ((conv => lhs; whnf); simp only [go_sem, simprocAttr, sem180_, b1, b2, w1, c1])); try (conv => lhs; whnf); try rfl)
  · obtain ⟨K, hK⟩ : ∃ K, K = N - 31 := ⟨_, rfl⟩
    have w2 : IntKind.i64.wrap ((N : Int) - 31) = (K : Int) := by rw [IntKind.wrap_i64]; omega
    obtain ⟨v1, i1, s1⟩ := mag_Shr ha K (by omega) (by omega)
    obtain ⟨v2, i2, s2⟩ := mag_Shr hb K (by omega) (by omega)
    have hp : 0 < 2 ^ K := Nat.pow_pos (by decide)
    obtain ⟨A, hA⟩ : ∃ A, A = m / 2 ^ K := ⟨_, rfl⟩
    obtain ⟨B, hB⟩ : ∃ B, B = n / 2 ^ K := ⟨_, rfl⟩
    rw [← hA] at i1
    rw [← hB] at i2
    have hAl : A < 2147483648 := by
      rw [hA]
      refine (Nat.div_lt_iff_lt_mul hp).2 ?_
      have h1 := blen_lt m
      have h2 : (2147483648 : Nat) * 2 ^ K = 2 ^ N := by
        rw [show (2147483648 : Nat) = 2 ^ 31 by decide, ← Nat.pow_add]
        congr 1
        omega
      rw [h2, hN]
      exact h1
    have hBA : B ≤ A := by rw [hA, hB]; exact Nat.div_le_div_right hmn
    have f1 := fun S => mag_Small i1 (by omega) S
    have f2 := fun S => mag_Small i2 (by omega) S
    have cA : IntKind.i64.wrap (A : Int) = A := by rw [IntKind.wrap_i64]; omega
    have cB : IntKind.i64.wrap (B : Int) = B := by rw [IntKind.wrap_i64]; omega
    have spl : ∀ k : Nat, (k : Int) = ((k / 2 ^ K : Nat) : Int) * ((2 ^ K : Nat) : Int) + ((k % 2 ^ K : Nat) : Int) := fun k => by
      rw [← Int.natCast_mul, ← Int.natCast_add, Nat.mul_comm, Nat.div_add_mod]
    have rem : ∀ k : Nat, (0 : Int) ≤ ((k % 2 ^ K : Nat) : Int) ∧ ((k % 2 ^ K : Nat) : Int) ≤ ((2 ^ K : Nat) : Int) := fun k => by
      have := Nat.mod_lt k hp
      omega
    have sm := spl m
    have sn := spl n
    rw [← hA] at sm
    rw [← hB] at sn
    have hsh : (0 : Int) < ((2 ^ K : Nat) : Int) := by omega
    obtain ⟨p, q, r, s, x, y, hi, j⟩ := loop_lehmer va vb m n ((2 ^ K : Nat) : Int) A B ((m % 2 ^ K : Nat) : Int) ((n % 2 ^ K : Nat) : Int) hsh (rem m) (rem n) sm sn [.blk 0, .seq 0 511] B 1 0 0 1 A B (by omega) ⟨by omega, by omega, by omega, by omega, by omega, by omega, by omega, by simp, .inl ⟨rfl, rfl, rfl, rfl⟩⟩
    obtain ⟨q1, q2, q3, q4, q5, q6⟩ := hi.small
    by_cases c2 : q = 0
    · subst c2
      have key := j (.tup [.sl [] true, .sl [] true, .bool false], []) (by
        refine exit_run ok180_.good 1000 ?_
        ((repeat ((conv => lhs; whnf); simp only [go_sem, simprocAttr, sem180_])); try (conv => lhs; whnf); try rfl))
      refine ⟨_, ?_, .inl rfl⟩
      refine FX.callL (r := (.tup [.sl [] true, .sl [] true, .bool false], [])) ok180_ 1000 rfl rfl ?_ rfl
      ((repeat ((conv => lhs; whnf); simp only [go_sem, simprocAttr, sem180_, b1, b2, w1, c1, w2, s1, s2, f1, f2, cA, cB])); try (conv => lhs; whnf); try rfl)
      exact key
    · obtain ⟨g1, g2, g3⟩ := hi.bounds hsh (rem m) (rem n) sm sn
      have od : y + r < x + p ∧ y + s < x + q ∧ p * m + q * n ≤ n := by
        rcases hi.ord with ⟨_, h, _⟩ | h
        · exact absurd h c2
        · exact h
      have g3' := g3 ⟨od.1, od.2.1⟩
      have k1 := call_combine ha hb p q hm hn (by omega) (by omega) (by rcases hi.sgn with h | h <;> omega) g1
      have k2 := call_combine ha hb r s hm hn (by omega) (by omega) (by rcases hi.sgn with h | h <;> omega) g2
      have kc1 := fun S => callO_plain (S := S) k1 (by simp [ha.plain, hb.plain, Plain.int])
      have kc2 := fun S => callO_plain (S := S) k2 (by simp [ha.plain, hb.plain, Plain.int])
      have gg := hi.gcd
      have od3 := od.2.2
      obtain ⟨X, hX⟩ : ∃ X : Nat, p * m + q * n = X := ⟨(p * m + q * n).toNat, by omega⟩
      obtain ⟨Y, hY⟩ : ∃ Y : Nat, r * m + s * n = Y := ⟨(r * m + s * n).toNat, by omega⟩
      rw [hX, Int.toNat_natCast] at kc1
      rw [hY, Int.toNat_natCast] at kc2
      rw [hX, hY] at gg g3'
      rw [hX] at od3
      have key := j (.tup [magV X, magV Y, .bool true], []) (by
        refine exit_run ok180_.good 1000 ?_
        ((repeat ((conv => lhs; whnf); simp only [go_sem, simprocAttr, sem180_, c2, kc1, kc2])); try (conv => lhs; whnf); try rfl))
      refine ⟨_, ?_, .inr ⟨X, Y, rfl, by omega, by omega, by rw [← gg]; rfl⟩⟩
      refine FX.callL (r := (.tup [magV X, magV Y, .bool true], [])) ok180_ 1000 rfl rfl ?_ (fz_leh _ _ _)
      ((repeat ((conv => lhs; whnf); simp only [go_sem, simprocAttr, sem180_, b1, b2, w1, c1, w2, s1, s2, f1, f2, cA, cB])); try (conv => lhs; whnf); try rfl)
      exact key
end
end Go.Vs
end
section
set_option linter.unusedVariables false
set_option linter.unusedSimpArgs false
set_option maxRecDepth 100000
namespace Go.Vs
open Go Go.Proofs
theorem words_gt2 {n : Nat} : 2 < (words n).length ↔ 18446744073709551616 ≤ n := by
  have h := digs_le WB2 2 n
  have e : WB ^ 2 = 18446744073709551616 := by decide
  rw [e] at h
  have : (words n).length = (digs WB n).length := rfl
  omega
theorem words_mono {m n : Nat} (h : m ≤ n) : (words m).length ≤ (words n).length := digs_mono WB2 h
section
attribute [local irreducible] Vs.callL Vs.callRL tyi callO callM callMV appendE storeE evLoad indexAddrO sliceO evFieldAddr evField buildO buildSliceO makeSliceO allocO boxed lenO copyE convertO indexO Vs.gc freezeAll
noncomputable def fx168_ : FX := ⟨Tryz.f168, hints.of 168, []⟩
theorem ok168_ : fx168_.ok 168 := ⟨by kernel_rfl, of_decide_eq_true (by kernel_rfl), by kernel_rfl, by kernel_rfl, by kernel_rfl, by kernel_rfl⟩
theorem sem168_ (b0 : Nat) (m : Md) (fs : List Fr) (e : Env) (S : Store) : sem b0 fx168_ m fs e S = run b0 fx168_ 1000 m fs e S := (sem_eq _ _ _ _ _ _).trans (run_sem b0 fx168_ ok168_.good 1000 m fs e S).symm
theorem loop_GCD (fs : List Fr) : ∀ (f m n : Nat) (va vb : PV), n ≤ f → n ≤ m → (words m).length ≤ 900000 → IsMag m va → IsMag n vb →
    ∃ (m' n' : Nat) (wa wb : PV), IsMag m' wa ∧ IsMag n' wb ∧ n' ≤ m' ∧ n' < 18446744073709551616 ∧ (words m').length ≤ 900000 ∧ Nat.gcd m' n' = Nat.gcd m n ∧ ∀ z : PV × Store, exitTo 0 fx168_ 0 fs [(0, wa), (1, wb), (24, .undef)] [] = some z → loopAt 0 fx168_ 0 56 0 fs [(0, va), (1, vb), (19, .undef)] [] = some z := by
  intro f
  induction f with
  | zero =>
    intro m n va vb hf hmn hl ha hb
    refine ⟨m, n, va, vb, ha, hb, hmn, by omega, hl, rfl, fun z hz => ?_⟩
    have hl2 : ¬ 2 < (words n).length := fun h => by have := words_gt2.1 h; omega
    have c : ¬ (2 : Int) < (words n).length := by omega
    obtain ⟨e, rfl, hp⟩ := hb.form
    unfold magE at hz ⊢
    refine loopAt_step ok168_.good 1000 ?_
    ((repeat ((conv => lhs; whnf); simp only [go_sem, simprocAttr, sem168_, c, hl2])); try (conv => lhs; whnf); try rfl)
    exact hz
  | succ f ih =>
    intro m n va vb hf hmn hl ha hb
    by_cases h2 : 2 < (words n).length
    · have hn3 := words_gt2.1 h2
      have c : (2 : Int) < (words n).length := by omega
      have hln := words_mono hmn
      obtain ⟨v, hv, hcase⟩ := call_lehmer ha hb hmn hn3 hl
      have kl := fun S => callO_plain (S := S) hv (by simp [ha.plain, hb.plain])
      rcases hcase with rfl | ⟨X, Y, rfl, o1, o2, o3⟩
      · obtain ⟨q, r, iq, ir, hd⟩ := mag_DivMod ha hb (by omega) hl (by omega)
        have hlt : m % n < n := Nat.mod_lt _ (by omega)
        obtain ⟨m', n', wa, wb, j1, j2, j3, j4, j5, j6, j7⟩ := ih n (m % n) vb r (by omega) (by omega) (by omega) hb ir
        refine ⟨m', n', wa, wb, j1, j2, j3, j4, j5, by rw [j6, Nat.gcd_comm, Nat.gcd_comm m n, ← Nat.gcd_rec], fun z hz => ?_⟩
        have key := j7 z hz
        obtain ⟨e, rfl, hp⟩ := hb.form
        unfold magE at kl hd key ⊢
        refine loopAt_step ok168_.good 1000 ?_
        ((repeat ((conv => lhs; whnf); simp only [go_sem, simprocAttr, sem168_, c, h2, kl, hd])); try (conv => lhs; whnf); try rfl)
        exact key
      · have hX := words_mono o2
        obtain ⟨m', n', wa, wb, j1, j2, j3, j4, j5, j6, j7⟩ := ih X Y (magV X) (magV Y) (by omega) (by omega) (by omega) (.of X) (.of Y)
        refine ⟨m', n', wa, wb, j1, j2, j3, j4, j5, by rw [j6, o3], fun z hz => ?_⟩
        have key := j7 z hz
        obtain ⟨e, rfl, hp⟩ := hb.form
        unfold magE at kl ⊢
        refine loopAt_step ok168_.good 1000 ?_
        ((repeat ((conv => lhs; whnf); simp only [go_sem, simprocAttr, sem168_, c, h2, kl])); try (conv => lhs; whnf); try rfl)
        exact key
    · have c : ¬ (2 : Int) < (words n).length := by omega
      have hn3 : n < 18446744073709551616 := Nat.lt_of_not_le fun h => h2 (words_gt2.2 h)
      refine ⟨m, n, va, vb, ha, hb, hmn, hn3, hl, rfl, fun z hz => ?_⟩
      obtain ⟨e, rfl, hp⟩ := hb.form
      unfold magE at hz ⊢
      refine loopAt_step ok168_.good 1000 ?_
      ((repeat ((conv => lhs; whnf); simp only [go_sem, simprocAttr, sem168_, c, h2])); try (conv => lhs; whnf); try rfl)
      exact hz
theorem loop_GCD2 (fs : List Fr) {z : PV × Store} : ∀ (f x y : Nat), y ≤ f → x < 18446744073709551616 → y < 18446744073709551616 → exitTo 0 fx168_ 2 fs [(12, .int .u64 (Nat.gcd x y)), (14, .undef), (65, .undef)] [] = some z → loopAt 0 fx168_ 2 2040 0 fs [(12, .int .u64 x), (14, .int .u64 y)] [] = some z := by
  intro f
  induction f with
  | zero =>
    intro x y hf hx hy hz
    have h0 : y = 0 := by omega
    subst h0
    rw [Nat.gcd_zero_right] at hz
    refine loopAt_step ok168_.good 1000 ?_
    ((repeat ((conv => lhs; whnf); simp only [go_sem, simprocAttr, sem168_])); try (conv => lhs; whnf); try rfl)
    exact hz
  | succ f ih =>
    intro x y hf hx hy hz
    by_cases h0 : y = 0
    · subst h0
      rw [Nat.gcd_zero_right] at hz
      refine loopAt_step ok168_.good 1000 ?_
      ((repeat ((conv => lhs; whnf); simp only [go_sem, simprocAttr, sem168_])); try (conv => lhs; whnf); try rfl)
      exact hz
    · have hlt : x % y < y := Nat.mod_lt _ (by omega)
      have key := ih y (x % y) (by omega) hy (by omega) (by rw [Nat.gcd_comm y, ← Nat.gcd_rec, Nat.gcd_comm]; exact hz)
      have c : ¬ (y : Int) = 0 := by omega
      have tm : (x : Int).tmod y = ((x % y : Nat) : Int) := by rw [Int.tmod_eq_emod_of_nonneg (by omega)]; rfl
      have cw : IntKind.u64.wrap ((x % y : Nat) : Int) = ((x % y : Nat) : Int) := by rw [wU64]; omega
      refine loopAt_step ok168_.good 1000 ?_
      ((repeat ((conv => lhs; whnf); simp only [go_sem, simprocAttr, sem168_, c, h0, tm, cw])); try (conv => lhs; whnf); try rfl)
      exact key
theorem call_GCD {m n : Nat} {va vb : PV} (ha : IsMag m va) (hb : IsMag n vb) (hm : (words m).length ≤ 900000) (hn : (words n).length ≤ 900000) : callL Tryz.prog hints 168 [va, vb] = some (magV (Nat.gcd m n)) := by
  have cc := mag_Cmp ha hb (by omega) (by omega)
  have tail : ∀ (m' n' : Nat) (wa wb : PV), IsMag m' wa → IsMag n' wb → n' ≤ m' → n' < 18446744073709551616 → (words m').length ≤ 900000 → ∃ S, exitTo 0 fx168_ 0 [.blk 0, .seq 0 15] [(0, wa), (1, wb), (24, .undef)] [] = some (if n' = 0 then .msl 0 0 (words m').length false else magV (Nat.gcd m' n'), if n' = 0 then [.arr (kRows .u32 (words m')) (some (some 1)) false] else S) := by
    intro m' n' wa wb ia ib hle hn2 hl
    have hln := words_mono hle
    by_cases h0 : n' = 0
    · refine ⟨[], ?_⟩
      rw [if_pos h0, if_pos h0]
      have l0 : (words n').length = 0 := words_len0.2 h0
      obtain ⟨e1, rfl, p1⟩ := ia.form
      obtain ⟨e2, rfl, p2⟩ := ib.form
      have ap := fun S => sl_us.appNil 0 S (RowsV.sl (S := S) (kRows .u32 (words m')) e1) (kRows_ok _ _) (by rw [kRows_length]; omega) (by rw [kRows_length]; omega)
      unfold magE
      refine exit_run ok168_.good 1000 ?_
      ((repeat ((conv => lhs; whnf); simp only [go_sem, simprocAttr, sem168_, l0, ap])); try (conv => lhs; whnf); try rfl)
    · refine ⟨[], ?_⟩
      rw [if_neg h0, if_neg h0]
      have l0 : (words n').length ≠ 0 := fun e => h0 (words_len0.1 e)
      have l0' : ¬ ((words n').length : Int) = 0 := by omega
      obtain ⟨q, r, iq, ir, hd⟩ := mag_DivMod ia ib h0 hl (by omega)
      have hlt : m' % n' < n' := Nat.mod_lt _ (by omega)
      have f1 := mag_Small ib hn2
      have f2 := mag_Small ir (by omega)
      have hg : Nat.gcd n' (m' % n') = Nat.gcd m' n' := by rw [Nat.gcd_comm, ← Nat.gcd_rec, Nat.gcd_comm]
      have hgl : Nat.gcd m' n' < 18446744073709551616 := by
        have := Nat.le_of_dvd (by omega) (Nat.gcd_dvd_right m' n')
        omega
      have f3 := mag_From (Nat.gcd m' n') hgl
      have key := loop_GCD2 [.blk 2, .seq 0 511] (z := (magV (Nat.gcd m' n'), [])) n' n' (m' % n') (by omega) hn2 (by omega) (by
        rw [hg]
        refine exit_run ok168_.good 1000 ?_
        ((repeat ((conv => lhs; whnf); simp only [go_sem, simprocAttr, sem168_, f3])); try (conv => lhs; whnf); try rfl))
      obtain ⟨e2, rfl, p2⟩ := ib.form
      unfold magE at hd f1 ⊢
      refine exit_run ok168_.good 1000 ?_
      ((repeat ((conv => lhs; whnf); simp only [go_sem, simprocAttr, sem168_, l0, l0', hd, f1, f2])); try (conv => lhs; whnf); try rfl)
      exact key
  have main : ∀ (m n : Nat) (va vb : PV), IsMag m va → IsMag n vb → n ≤ m → (words m).length ≤ 900000 → ∃ r : PV × Store, fzPV r.2 r.1 = some (magV (Nat.gcd m n)) ∧ loopAt 0 fx168_ 0 56 0 [.blk 0, .seq 0 15] [(0, va), (1, vb), (19, .undef)] [] = some r := by
    intro m n va vb ha hb hle hl
    obtain ⟨m', n', wa, wb, j1, j2, j3, j4, j5, j6, j7⟩ := loop_GCD [.blk 0, .seq 0 15] n m n va vb (Nat.le_refl _) hle hl ha hb
    obtain ⟨S, ht⟩ := tail m' n' wa wb j1 j2 j3 j4 j5
    refine ⟨_, ?_, j7 _ ht⟩
    rw [← j6]
    by_cases h0 : n' = 0
    · rw [if_pos h0, if_pos h0, h0, Nat.gcd_zero_right]
      exact kRows_fzV (ex := false) rfl rfl
    · rw [if_neg h0, if_neg h0]
      exact fzPV_sl _ _
  by_cases h : m < n
  · have c : cmpN m n < 0 := by unfold cmpN; simp [h]
    obtain ⟨r, h1, h2⟩ := main n m vb va hb ha (by omega) hn
    rw [Nat.gcd_comm] at h1
    refine FX.callL (r := r) ok168_ 1000 rfl rfl ?_ h1
    ((repeat ((conv => lhs; whnf); simp only [go_sem, simprocAttr, sem168_, cc, c])); try (conv => lhs; whnf); try rfl)
    exact h2
  · have c : ¬ cmpN m n < 0 := by unfold cmpN; rw [if_neg h]; split <;> omega
    obtain ⟨r, h1, h2⟩ := main m n va vb ha hb (by omega) hm
    refine FX.callL (r := r) ok168_ 1000 rfl rfl ?_ h1
    ((repeat ((conv => lhs; whnf); simp only [go_sem, simprocAttr, sem168_, cc, c])); try (conv => lhs; whnf); try rfl)
    exact h2
end
end Go.Vs
end
section
set_option linter.unusedVariables false
set_option linter.unusedSimpArgs false
namespace Go.Vs
open Go Go.Proofs
end Go.Vs
end

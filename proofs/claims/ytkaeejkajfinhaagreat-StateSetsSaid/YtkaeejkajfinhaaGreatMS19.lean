/- Numbers in base 10000 (the reference): plain laws. -/

import Derived.Test.YtkaeejkajfinhaaGreatMS13
import Derived.Test.YtkaeejkajfinhaaGreatMS18
section
set_option linter.unusedVariables false
set_option linter.unusedSimpArgs false
namespace Go.Vs
open Go Go.Proofs
/-- Times k, with a carry: the digits and what is carried out. -/
def smallF (b k : Int) : List Int → Int → List Int
  | [], _ => []
  | d :: r, c => (c + d * k) % b :: smallF b k r ((c + d * k) / b)
def smallC (b k : Int) : List Int → Int → Int
  | [], c => c
  | d :: r, c => smallC b k r ((c + d * k) / b)
theorem smallF_len (b k : Int) : ∀ (L : List Int) (c : Int), (smallF b k L c).length = L.length
  | [], _ => rfl
  | d :: r, c => by simp [smallF, smallF_len b k r]
theorem smallF_ok {b : Nat} (hb : 0 < b) (k : Int) : ∀ (L : List Int) (c : Int), OkD b (smallF b k L c)
  | [], _ => .nil _
  | d :: r, c => .cons ⟨Int.emod_nonneg _ (by omega), Int.emod_lt_of_pos _ (by omega)⟩ (smallF_ok hb k r _)
theorem smallF_val (b : Nat) (k : Int) : ∀ (L : List Int) (c : Int), valD b (smallF b k L c) + (b : Int) ^ L.length * smallC b k L c = k * valD b L + c
  | [], c => by simp [smallF, smallC, valD]
  | d :: r, c => by
    have ih := smallF_val b k r ((c + d * k) / b)
    have e := Int.mul_ediv_add_emod (c + d * k) b
    show (c + d * k) % b + b * valD b (smallF b k r ((c + d * k) / b)) + (b : Int) ^ (r.length + 1) * smallC b k r ((c + d * k) / b) = k * (d + b * valD b r) + c
    rw [Int.pow_succ, Int.mul_right_comm, Int.mul_comm _ (b : Int), Int.add_assoc, ← Int.mul_add, ih, Int.mul_add, Int.mul_add, Int.mul_left_comm k (b : Int), Int.mul_comm k d]
    omega
/-- The carry stays small: 0 ≤ c < k' for k ≤ k'. -/
theorem smallC_lt {b : Nat} (hb : 0 < b) {k m : Int} (hk : 0 ≤ k ∧ k ≤ m) : ∀ (L : List Int) (c : Int), OkD b L → (0 ≤ c ∧ c < m) → 0 ≤ smallC b k L c ∧ smallC b k L c < m
  | [], c, _, h => h
  | d :: r, c, ho, h => by
    have hd := ho.head
    have h0 : 0 ≤ d * k := Int.mul_nonneg hd.1 hk.1
    refine smallC_lt hb hk r _ ho.tail ⟨Int.ediv_nonneg (by omega) (by omega), ?_⟩
    rw [Int.ediv_lt_iff_lt_mul (by omega)]
    have h1 : d * k ≤ d * m := Int.mul_le_mul_of_nonneg_left hk.2 hd.1
    have h2 : d * m ≤ (b - 1) * m := Int.mul_le_mul_of_nonneg_right (by omega) (by omega)
    have h3 : ((b : Int) - 1) * m = m * b - m := by rw [Int.sub_mul, Int.one_mul, Int.mul_comm]
    omega
/-- Quotient by a small number, from the top. -/
def splitR (b k : Int) : List Int → Int
  | [] => 0
  | a :: L => (splitR b k L * b + a) % k
def splitF (b k : Int) : List Int → List Int
  | [] => []
  | a :: L => (splitR b k L * b + a) / k :: splitF b k L
theorem splitR_lt {b k : Int} (hk : 0 < k) : ∀ L : List Int, 0 ≤ splitR b k L ∧ splitR b k L < k
  | [] => ⟨Int.le_refl 0, hk⟩
  | a :: L => ⟨Int.emod_nonneg _ (by omega), Int.emod_lt_of_pos _ hk⟩
theorem split_val (b : Nat) (k : Int) : ∀ L : List Int, valD b L = k * valD b (splitF b k L) + splitR b k L
  | [] => by simp [splitF, splitR, valD]
  | a :: L => by
    have ih := split_val b k L
    have e := Int.mul_ediv_add_emod (splitR b k L * b + a) k
    show a + b * valD b L = k * ((splitR b k L * b + a) / k + b * valD b (splitF b k L)) + (splitR b k L * b + a) % k
    rw [ih, Int.mul_add, Int.mul_add, Int.mul_left_comm k (b : Int), Int.mul_comm (b : Int) (splitR b k L)]
    omega
theorem splitF_len (b k : Int) : ∀ L : List Int, (splitF b k L).length = L.length
  | [] => rfl
  | a :: L => by simp [splitF, splitF_len b k L]
theorem splitF_ok {b : Nat} {k : Int} (hk : 0 < k) : ∀ L : List Int, OkD b L → OkD b (splitF b k L)
  | [], _ => .nil _
  | a :: L, h => by
    have hr := splitR_lt (b := b) hk L
    have ha := h.head
    have h0 : 0 ≤ splitR b k L * b := Int.mul_nonneg hr.1 (by omega)
    refine .cons ⟨Int.ediv_nonneg (by omega) (by omega), ?_⟩ (splitF_ok hk L h.tail)
    rw [Int.ediv_lt_iff_lt_mul hk]
    have h1 : splitR b k L * b ≤ (k - 1) * b := Int.mul_le_mul_of_nonneg_right (by omega) (by omega)
    have h2 : (k - 1) * (b : Int) = b * k - b := by rw [Int.sub_mul, Int.one_mul, Int.mul_comm]
    omega
end Go.Vs
end
/- Structs: what operations do with them. -/
section
set_option linter.unusedVariables false
set_option linter.unusedSimpArgs false
namespace Go.Vs
open Go Go.Proofs
@[go_sem] theorem fillV_nil (fs : List (Nat × Nat × Bool)) (cs : List PV) : fillV fs cs [] = some cs := nr rfl
@[go_sem] theorem fillV_cons (fs : List (Nat × Nat × Bool)) (cs : List PV) (i : Nat) (x : PV) (r : List (Nat × PV)) : fillV fs cs ((i, x) :: r) =
    (fs[i]?).bind fun q => if x.cells.length = q.2.1 ∧ x.cells.all PV.cell = true ∧ q.1 + q.2.1 ≤ cs.length then fillV fs (cs.take q.1 ++ x.cells ++ cs.drop (q.1 + q.2.1)) r else none := nr (by
  rw [fillV]
  cases fs[i]? with
  | none => rfl
  | some q => rfl)
@[go_sem] theorem kn_bool : (tyi Tryz.prog 4).known = true := nr (by kernel_rfl)
@[go_sem] theorem sz_bool : (tyi Tryz.prog 4).size = 1 := nr (by kernel_rfl)
@[go_sem] theorem kn_int : (tyi Tryz.prog 3).known = true := nr (by kernel_rfl)
@[go_sem] theorem sz_int : (tyi Tryz.prog 3).size = 1 := nr (by kernel_rfl)
@[go_sem] theorem kn_str : (tyi Tryz.prog 9).known = true := nr (by kernel_rfl)
@[go_sem] theorem sz_str : (tyi Tryz.prog 9).size = 1 := nr (by kernel_rfl)
@[go_sem] theorem kn_u8 : (tyi Tryz.prog 5).known = true := nr (by kernel_rfl)
@[go_sem] theorem sz_u8 : (tyi Tryz.prog 5).size = 1 := nr (by kernel_rfl)
@[go_sem] theorem kn_u64 : (tyi Tryz.prog 161).known = true := nr (by kernel_rfl)
@[go_sem] theorem sz_u64 : (tyi Tryz.prog 161).size = 1 := nr (by kernel_rfl)
@[go_sem] theorem cv_int_uint64 (S : Store) (k : IntKind) (n : Int) : convertO Tryz.prog 3 161 S (.int k n) = some (.int .u64 (IntKind.u64.wrap n)) := by
  simp [convertO, show (tyi Tryz.prog 3).known = true by kernel_rfl, evConvert, show (tyi Tryz.prog 161).d = .int .u64 by kernel_rfl]
@[go_sem] theorem cv_int_uint32 (S : Store) (k : IntKind) (n : Int) : convertO Tryz.prog 3 126 S (.int k n) = some (.int .u32 (IntKind.u32.wrap n)) := by
  simp [convertO, show (tyi Tryz.prog 3).known = true by kernel_rfl, evConvert, show (tyi Tryz.prog 126).d = .int .u32 by kernel_rfl]
@[go_sem] theorem cv_uint32_int (S : Store) (k : IntKind) (n : Int) : convertO Tryz.prog 126 3 S (.int k n) = some (.int .i64 (IntKind.i64.wrap n)) := by
  simp [convertO, show (tyi Tryz.prog 126).known = true by kernel_rfl, evConvert, show (tyi Tryz.prog 3).d = .int .i64 by kernel_rfl]
@[go_sem] theorem cv_uint64_uint8 (S : Store) (k : IntKind) (n : Int) : convertO Tryz.prog 161 5 S (.int k n) = some (.int .u8 (IntKind.u8.wrap n)) := by
  simp [convertO, show (tyi Tryz.prog 161).known = true by kernel_rfl, evConvert, show (tyi Tryz.prog 5).d = .int .u8 by kernel_rfl]
@[go_sem] theorem cv_uint64_int (S : Store) (k : IntKind) (n : Int) : convertO Tryz.prog 161 3 S (.int k n) = some (.int .i64 (IntKind.i64.wrap n)) := by
  simp [convertO, show (tyi Tryz.prog 161).known = true by kernel_rfl, evConvert, show (tyi Tryz.prog 3).d = .int .i64 by kernel_rfl]
theorem callO_of {S : Store} {f : FuncId} {l l' : List PV} {ids : List Nat} {v : PV} (hc : callL Tryz.prog hints f l' = some v) (hz : mapO (fzPV S) l = some l') (hr : reach S 8 (l.flatMap PV.refs) = ids) (ha : ids.all (fun i => decide (i < S.length)) = true) : callO (callL Tryz.prog hints) S f l = some { v, fz := ids } := by
  unfold callO
  rw [hr, ha, if_pos rfl, hz]
  simp only [Option.bind_some, hc, Option.map_some]
attribute [go_sem] List.getElem?_cons_zero List.getElem?_cons_succ
end Go.Vs
end
/- The reference's natural numbers (base 10000): trim, Small. -/
section
set_option linter.unusedVariables false
set_option linter.unusedSimpArgs false
set_option maxRecDepth 100000
namespace Go.Vs
open Go Go.Proofs
theorem sl_nat : SlT 60 3 1 8 := ⟨by kernel_rfl, by kernel_rfl, by kernel_rfl, by kernel_rfl, by kernel_rfl⟩
@[go_sem] theorem len_nat (r : List (List PV)) (ex : Bool) : lenO (tyi Tryz.prog 60) (.sl r ex) = some (.int .i64 r.length) := sl_nat.len r ex
@[go_sem] theorem lenm_nat (i o l : Nat) (ex : Bool) : lenO (tyi Tryz.prog 60) (.msl i o l ex) = some (.int .i64 l) := sl_nat.lenm i o l ex
@[go_sem] theorem idx_nat (S : Store) (L : List Int) (ex : Bool) (i : Int) : indexAddrO Tryz.prog 60 S (.sl (kRows .i64 L) ex) (.int .i64 i) = if 0 ≤ i ∧ i < L.length then some (.cp [.int .i64 (L.getD i.toNat 0)]) else none := sl_nat.idxk .i64 S L ex i
@[go_sem] theorem part_int (v : PV) (r : List PV) : part (tyi Tryz.prog 3) (v :: r) = some v := by
  have e : (tyi Tryz.prog 3).isAgg = false := by kernel_rfl
  simp [part, kn_int, e]
@[go_sem] theorem build_nat (id n : Nat) (is : List Nat) (rows : List (List PV)) : buildSliceO Tryz.prog 60 id n is rows = if is = List.range n ∧ rowsOK 1 rows = true ∧ (rows.all fun r => r.all PV.cell) = true ∧ n * 1 ≤ 16777216 then some { v := .msl id 0 n true, new := some (rows, some (some 1)) } else none := sl_nat.buildSlice (by decide) id n is rows
theorem zero_int : (tyi Tryz.prog 3).zero = some [.int .i64 0] := by kernel_rfl
theorem make_nat (id n : Nat) (hn : n ≤ 30000000000000) : makeSliceO Tryz.prog 60 id (.int .i64 n) (.int .i64 n) = some { v := .msl id 0 n true, new := some (kRows .i64 (List.replicate n 0), some (some 1)) } := by
  rw [sl_nat.make zero_int id n (by omega) (by omega), kRows_replicate]
theorem make_nat0 (id : Nat) (m : Int) (hm : 0 < m ∧ m ≤ 30000000000000) : makeSliceO Tryz.prog 60 id (.int .i64 0) (.int .i64 m) = some { v := .msl id 0 0 false, new := some ([], some (some 1)) } := by
  have hd : decide ((0 : Int) = m) = false := decide_eq_false (by omega)
  simp only [makeSliceO, sl_nat.d, zero_int, Option.bind_some, sl_nat.b, sl_nat.s]
  rw [if_pos ⟨by omega, by omega, by omega, by omega, rfl, rfl⟩, hd]
  rfl
/-- Digits in base 10000. -/
abbrev DB : Nat := 10000
theorem DB2 : 2 ≤ DB := by decide
def dec (n : Nat) : List Int := digs DB n
def natE (n : Nat) (e : Bool) : PV := .sl (kRows .i64 (dec n)) e
def natV (n : Nat) : PV := natE n false
theorem dec_ok (n : Nat) : OkD DB (dec n) := digs_ok DB2 n
theorem dec_val (n : Nat) : valD DB (dec n) = n := valD_digs DB2 n
theorem dec_len0 {n : Nat} : (dec n).length = 0 ↔ n = 0 := by
  rw [List.length_eq_zero_iff]; exact digs_nil DB2
/-- A number of the reference. -/
def IsNat (n : Nat) (v : PV) : Prop := v = natV n ∨ (n = 0 ∧ v = .sl [] true)
theorem IsNat.of (n : Nat) : IsNat n (natV n) := .inl rfl
theorem IsNat.nil' {n : Nat} (h : n = 0) : IsNat n (.sl [] true) := .inr ⟨h, rfl⟩
theorem IsNat.form {n : Nat} {v : PV} (h : IsNat n v) : ∃ e, v = natE n e ∧ Plain v := by
  rcases h with rfl | ⟨rfl, rfl⟩
  · exact ⟨false, rfl, Plain.sl _⟩
  · refine ⟨true, ?_, Plain.nil⟩
    unfold natE
    have : dec 0 = [] := (digs_nil DB2).2 rfl
    rw [this]; rfl
theorem IsNat.plain {n : Nat} {v : PV} (h : IsNat n v) : Plain v := let ⟨_, _, hp⟩ := h.form; hp
/-- A number appended to a list of one's own, next to the list that holds it. -/
theorem SlT.app1 {t el : TypeId} (h : SlT t el 1 8) (L : List Int) (x : Int) (g : Option Nat) (hg : g = none ∨ g = some 1) (hl : L.length ≤ 10000000) (ex : Bool) : appendE Tryz.prog 0 t t [.arr (kRows .i64 L) (some g) false, .arr [[.int .i64 x]] (some (some 1)) false] (.msl 0 0 L.length false) (.msl 1 0 1 ex) =
    some { v := .msl 0 0 (L.length + 1) false, S := [.arr (kRows .i64 (L ++ [x])) (some (some 1)) false, .arr [[.int .i64 x]] (some (some 1)) false], kill := [0] } := by
  have := h.app (b := 0) (S := [.arr (kRows .i64 L) (some g) false, .arr [[.int .i64 x]] (some (some 1)) false]) (id := 0) (rows := kRows .i64 L) (new := kRows .i64 [x]) (g := g) (p := .msl 1 0 1 ex) rfl (Nat.le_refl _) hg (RowsV.msl 1 (kRows .i64 [x]) ex _ _ rfl) (kRows_ok _ _) (kRows_ok _ _) (by rw [kRows_length, kRows_length]; simp; omega) (by rw [kRows_length, kRows_length]; simp; omega) (by rw [kRows_refs]; simp) (by rw [kRows_refs]; simp)
  rw [kRows_length] at this
  rw [this]
  simp only [List.map_cons, List.map_nil, killObj, killRows, kRows_refs, List.any_nil, Bool.false_eq_true, if_false, List.set_cons_zero, kRows_append, rowsRefs_cons, rowsRefs_nil, refsL_cons, refs_int, refsL_nil, List.nil_append, kRows_length]
  rfl
theorem maxLen_big : 3000000 ≤ maxLen := by decide
section
attribute [local irreducible] Vs.callL Vs.callRL tyi callO callM callMV appendE storeE evLoad indexAddrO sliceO evFieldAddr evField buildO buildSliceO makeSliceO allocO boxed lenO copyE convertO indexO Vs.gc freezeAll
noncomputable def fx_isochroneref01_trim : FX := ⟨Tryz.f153, hints.of 153, []⟩
theorem ok_isochroneref01_trim : fx_isochroneref01_trim.ok 153 := ⟨by kernel_rfl, of_decide_eq_true (by kernel_rfl), by kernel_rfl, by kernel_rfl, by kernel_rfl, by kernel_rfl⟩
theorem sem_isochroneref01_trim (b0 : Nat) (m : Md) (fs : List Fr) (e : Env) (S : Store) : sem b0 fx_isochroneref01_trim m fs e S = run b0 fx_isochroneref01_trim 1000 m fs e S := (sem_eq _ _ _ _ _ _).trans (run_sem b0 fx_isochroneref01_trim ok_isochroneref01_trim.good 1000 m fs e S).symm
theorem loop_trim (L : List Int) (hL : L.length ≤ 3000000) (fs : List Fr) {z : PV × Store} : ∀ (n : Nat), n ≤ L.length → (∀ m : Nat, m ≤ L.length → L.take m = trimD (L.take n) → exitTo 0 fx_isochroneref01_trim 0 fs [(0, .sl (kRows .i64 L) false), (3, .int .i64 m), (15, .undef)] [] = some z) → loopAt 0 fx_isochroneref01_trim 0 56 0 fs [(0, .sl (kRows .i64 L) false), (3, .int .i64 n)] [] = some z := by
  have hM := maxLen_big
  intro n
  induction n with
  | zero =>
    intro hn hz
    have key := hz 0 (by omega) (by simp [trimD])
    refine loopAt_step ok_isochroneref01_trim.good 1000 ?_
    ((repeat ((conv => lhs; whnf); simp only [go_sem, ↓reduceIte, Nat.reduceEqDiff, Nat.reduceBEq, Nat.reduceAdd, Nat.reduceMul, Nat.reduceSub, Nat.reduceLT, Nat.reduceLeDiff, reduceCtorEq, Int.reduceToNat, Int.reduceLE, Int.reduceLT, Int.reduceEq, sem_isochroneref01_trim])); try (conv => lhs; whnf); try rfl)
    exact key
  | succ n ih =>
    intro hn hz
    have ht : L.take (n + 1) = L.take n ++ [L.getD n 0] := by
      rw [List.take_add_one]
      have : L[n]? = some (L.getD n 0) := by rw [List.getElem?_eq_getElem (by omega)]; simp [List.getD_eq_getElem?_getD, show n < L.length by omega]
      rw [this]; rfl
    have h0 : (0 : Int) < ((n + 1 : Nat) : Int) := by omega
    have w1 : IntKind.i64.wrap (((n + 1 : Nat) : Int) - 1) = (n : Int) := by rw [IntKind.wrap_i64]; omega
    have x1 : 0 ≤ (n : Int) ∧ (n : Int) < (L.length : Int) := ⟨by omega, by omega⟩
    refine loopAt_step ok_isochroneref01_trim.good 1000 ?_
    by_cases hx : L.getD n 0 = 0
    · rw [ht, hx, trimD_snoc0] at hz
      have key := ih (by omega) hz
      ((repeat ((conv => lhs; whnf); simp only [go_sem, ↓reduceIte, Nat.reduceEqDiff, Nat.reduceBEq, Nat.reduceAdd, Nat.reduceMul, Nat.reduceSub, Nat.reduceLT, Nat.reduceLeDiff, reduceCtorEq, Int.reduceToNat, Int.reduceLE, Int.reduceLT, Int.reduceEq, sem_isochroneref01_trim, h0, w1, x1, Int.toNat_natCast, hx])); try (conv => lhs; whnf); try rfl)
      exact key
    · have key := hz (n + 1) hn (by rw [ht, trimD_snoc hx])
      ((repeat ((conv => lhs; whnf); simp only [go_sem, ↓reduceIte, Nat.reduceEqDiff, Nat.reduceBEq, Nat.reduceAdd, Nat.reduceMul, Nat.reduceSub, Nat.reduceLT, Nat.reduceLeDiff, reduceCtorEq, Int.reduceToNat, Int.reduceLE, Int.reduceLT, Int.reduceEq, sem_isochroneref01_trim, h0, w1, x1, Int.toNat_natCast, hx])); try (conv => lhs; whnf); try rfl)
      exact key
theorem call_trim (L : List Int) (hL : L.length ≤ 3000000) : callL Tryz.prog hints 153 [.sl (kRows .i64 L) false] = some (.sl (kRows .i64 (trimD L)) false) := by
  have key := loop_trim L hL [.blk 0, .seq 0 15] (z := (.sl (kRows .i64 (trimD L)) false, [])) L.length (Nat.le_refl _) (fun m hle hm => by
    rw [List.take_length] at hm
    have sl := sl_nat.firsts [] (rows := kRows .i64 L) false m (by rw [kRows_length]; omega) (kRows_ok .i64 _)
    rw [kRows_take, hm] at sl
    refine exit_run ok_isochroneref01_trim.good 1000 ?_
    ((repeat ((conv => lhs; whnf); simp only [go_sem, ↓reduceIte, Nat.reduceEqDiff, Nat.reduceBEq, Nat.reduceAdd, Nat.reduceMul, Nat.reduceSub, Nat.reduceLT, Nat.reduceLeDiff, reduceCtorEq, Int.reduceToNat, Int.reduceLE, Int.reduceLT, Int.reduceEq, sem_isochroneref01_trim, sl])); try (conv => lhs; whnf); try rfl))
  refine FX.callL (r := (.sl (kRows .i64 (trimD L)) false, [])) ok_isochroneref01_trim 1000 rfl rfl ?_ (fzPV_sl _ _)
  ((repeat ((conv => lhs; whnf); simp only [go_sem, ↓reduceIte, Nat.reduceEqDiff, Nat.reduceBEq, Nat.reduceAdd, Nat.reduceMul, Nat.reduceSub, Nat.reduceLT, Nat.reduceLeDiff, reduceCtorEq, Int.reduceToNat, Int.reduceLE, Int.reduceLT, Int.reduceEq, sem_isochroneref01_trim])); try (conv => lhs; whnf); try rfl)
  exact key
theorem call_trim_ok {L : List Int} (hL : L.length ≤ 3000000) (h : OkD DB L) : callL Tryz.prog hints 153 [.sl (kRows .i64 L) false] = some (natV (valD DB L).toNat) := by
  rw [call_trim L hL, trimD_digs DB2 h]; rfl
noncomputable def fx_isochroneref01_Small : FX := ⟨Tryz.f160, hints.of 160, []⟩
theorem ok_isochroneref01_Small : fx_isochroneref01_Small.ok 160 := ⟨by kernel_rfl, of_decide_eq_true (by kernel_rfl), by kernel_rfl, by kernel_rfl, by kernel_rfl, by kernel_rfl⟩
theorem sem_isochroneref01_Small (b0 : Nat) (m : Md) (fs : List Fr) (e : Env) (S : Store) : sem b0 fx_isochroneref01_Small m fs e S = run b0 fx_isochroneref01_Small 1000 m fs e S := (sem_eq _ _ _ _ _ _).trans (run_sem b0 fx_isochroneref01_Small ok_isochroneref01_Small.good 1000 m fs e S).symm
theorem loop_Small2 (fs : List Fr) {z : PV × Store} : ∀ (f : Nat) (c : Nat), c ≤ f → c < 4611686018427387904 → ∀ (D : List Int), D.length + (dec c).length ≤ 3000000 → exitTo 0 fx_isochroneref01_Small 2 fs [(2, .undef), (7, .msl 0 0 (D ++ dec c).length false), (34, .undef)] [.arr (kRows .i64 (D ++ dec c)) (some (some 1)) false] = some z →
    loopAt 0 fx_isochroneref01_Small 2 120 1 fs [(1, .undef), (2, .int .i64 c), (7, .msl 0 0 D.length false), (14, .undef), (15, .undef), (16, .undef), (17, .undef)] [.arr (kRows .i64 D) (some (some 1)) false] = some z := by
  intro f
  induction f with
  | zero =>
    intro c hc hcb D hl hz
    have h0 : c = 0 := by omega
    subst h0
    have e : dec 0 = [] := (digs_nil DB2).2 rfl
    rw [e, List.append_nil] at hz
    have key := hz
    refine loopAt_step ok_isochroneref01_Small.good 1000 ?_
    ((repeat ((conv => lhs; whnf); simp only [go_sem, ↓reduceIte, Nat.reduceEqDiff, Nat.reduceBEq, Nat.reduceAdd, Nat.reduceMul, Nat.reduceSub, Nat.reduceLT, Nat.reduceLeDiff, reduceCtorEq, Int.reduceToNat, Int.reduceLE, Int.reduceLT, Int.reduceEq, sem_isochroneref01_Small])); try (conv => lhs; whnf); try rfl)
    exact key
  | succ f ih =>
    intro c hc hcb D hl hz
    by_cases h0 : c = 0
    · subst h0
      have e : dec 0 = [] := (digs_nil DB2).2 rfl
      rw [e, List.append_nil] at hz
      have key := hz
      refine loopAt_step ok_isochroneref01_Small.good 1000 ?_
      ((repeat ((conv => lhs; whnf); simp only [go_sem, ↓reduceIte, Nat.reduceEqDiff, Nat.reduceBEq, Nat.reduceAdd, Nat.reduceMul, Nat.reduceSub, Nat.reduceLT, Nat.reduceLeDiff, reduceCtorEq, Int.reduceToNat, Int.reduceLE, Int.reduceLT, Int.reduceEq, sem_isochroneref01_Small])); try (conv => lhs; whnf); try rfl)
      exact key
    · have ed : dec c = ((c % 10000 : Nat) : Int) :: dec (c / 10000) := digs_pos DB2 h0
      have h1 : (0 : Int) < (c : Int) := by omega
      have h1' : 0 < c := by omega
      have tm : (c : Int).tmod 10000 = ((c % 10000 : Nat) : Int) := by rw [Int.tmod_eq_emod_of_nonneg (by omega)]; rfl
      have td : IntKind.i64.wrap ((c : Int).tdiv 10000) = ((c / 10000 : Nat) : Int) := by
        rw [Int.tdiv_eq_ediv_of_nonneg (by omega), IntKind.wrap_i64]; omega
      rw [ed] at hz hl
      have ap := sl_nat.app1 D ((c % 10000 : Nat) : Int) (some 1) (.inr rfl) (by simp only [List.length_cons] at hl; omega) true
      have key := ih (c / 10000) (by omega) (by omega) (D ++ [((c % 10000 : Nat) : Int)]) (by simp only [List.length_cons] at hl; simp; omega) (by simpa using hz)
      rw [List.length_append, List.length_singleton] at key
      refine loopAt_step ok_isochroneref01_Small.good 1000 ?_
      ((repeat ((conv => lhs; whnf); simp only [go_sem, ↓reduceIte, Nat.reduceEqDiff, Nat.reduceBEq, Nat.reduceAdd, Nat.reduceMul, Nat.reduceSub, Nat.reduceLT, Nat.reduceLeDiff, reduceCtorEq, Int.reduceToNat, Int.reduceLE, Int.reduceLT, Int.reduceEq, sem_isochroneref01_Small, h1, h1', tm, td, ap, kRows_refs])); try (conv => lhs; whnf); try rfl)
      exact key
theorem loop_Small (A : List Int) (e : Bool) (hA : OkD DB A) (hl : A.length ≤ 1000000) (k : Int) (hk : 0 ≤ k ∧ k ≤ 65536) (fs : List Fr) {z : PV × Store} (c0 : Int) (hz : exitTo 0 fx_isochroneref01_Small 0 fs [(1, .undef), (2, .int .i64 (smallC 10000 k A c0)), (7, .msl 0 0 A.length false), (14, .undef), (15, .undef), (16, .undef), (17, .undef)] [.arr (kRows .i64 (smallF 10000 k A c0)) (some (some 1)) false] = some z) :
    ∀ (m i : Nat), i + m = A.length → ∀ (D : List Int) (c : Int), D.length = i → (0 ≤ c ∧ c < 65536) → D ++ smallF 10000 k (A.drop i) c = smallF 10000 k A c0 → smallC 10000 k (A.drop i) c = smallC 10000 k A c0 →
    loopAt 0 fx_isochroneref01_Small 0 116 1 fs [(1, .int .i64 k), (2, .int .i64 c), (7, .msl 0 0 D.length false), (14, .sl (kRows .i64 A) e), (15, .int .i64 A.length), (16, .int .i64 i)] [.arr (kRows .i64 D) (some (some 1)) false] = some z := by
  have hM := maxLen_big
  intro m
  induction m with
  | zero =>
    intro i hi D c hD hc hs ht
    have h1 : ¬ (i : Int) < (A.length : Int) := by omega
    have hd : A.drop i = [] := List.drop_of_length_le (by omega)
    rw [hd] at hs ht
    simp only [smallF, smallC, List.append_nil] at hs ht
    subst ht
    have key := hz
    rw [← hs] at key
    have hDA : D.length = A.length := by omega
    rw [← hDA] at key
    refine loopAt_step ok_isochroneref01_Small.good 1000 ?_
    ((repeat ((conv => lhs; whnf); simp only [go_sem, ↓reduceIte, Nat.reduceEqDiff, Nat.reduceBEq, Nat.reduceAdd, Nat.reduceMul, Nat.reduceSub, Nat.reduceLT, Nat.reduceLeDiff, reduceCtorEq, Int.reduceToNat, Int.reduceLE, Int.reduceLT, Int.reduceEq, sem_isochroneref01_Small, h1])); try (conv => lhs; whnf); try rfl)
    exact key
  | succ m ih =>
    intro i hi D c hD hc hs ht
    have h1 : (i : Int) < (A.length : Int) := by omega
    have w1 := wrap_succ (i := i) (n := A.length) (by omega) (by omega)
    have x1 : 0 ≤ (i : Int) ∧ (i : Int) < (A.length : Int) := ⟨by omega, h1⟩
    have ha := hA.getD (by decide) i
    have ha' : A.getD i 0 < 10000 := ha.2
    have hd := list_at A (k := i) (by omega)
    rw [hd] at hs ht
    have p0 : 0 ≤ A.getD i 0 * k := Int.mul_nonneg ha.1 hk.1
    have p1 : A.getD i 0 * k ≤ 9999 * 65536 := by
      have a1 : A.getD i 0 * k ≤ A.getD i 0 * 65536 := Int.mul_le_mul_of_nonneg_left hk.2 ha.1
      omega
    have q1 : 0 ≤ (c + A.getD i 0 * k) / 10000 ∧ (c + A.getD i 0 * k) / 10000 < 65536 := by omega
    have key := ih (i + 1) (by omega) (D ++ [(c + A.getD i 0 * k) % 10000]) ((c + A.getD i 0 * k) / 10000) (by simp [hD]) q1 (by simpa [smallF] using hs) (by simpa [smallC] using ht)
    rw [List.length_append, List.length_singleton] at key
    have m1 : IntKind.i64.wrap (A.getD i 0 * k) = A.getD i 0 * k := by rw [IntKind.wrap_i64]; omega
    have m2 : IntKind.i64.wrap (c + A.getD i 0 * k) = c + A.getD i 0 * k := by rw [IntKind.wrap_i64]; omega
    have tm : (c + A.getD i 0 * k).tmod 10000 = (c + A.getD i 0 * k) % 10000 := Int.tmod_eq_emod_of_nonneg (by omega)
    have td : IntKind.i64.wrap ((c + A.getD i 0 * k).tdiv 10000) = (c + A.getD i 0 * k) / 10000 := by
      rw [Int.tdiv_eq_ediv_of_nonneg (by omega), IntKind.wrap_i64]; omega
    have ap := sl_nat.app1 D ((c + A.getD i 0 * k) % 10000) (some 1) (.inr rfl) (by omega) true
    refine loopAt_step ok_isochroneref01_Small.good 1000 ?_
    ((repeat ((conv => lhs; whnf); simp only [go_sem, ↓reduceIte, Nat.reduceEqDiff, Nat.reduceBEq, Nat.reduceAdd, Nat.reduceMul, Nat.reduceSub, Nat.reduceLT, Nat.reduceLeDiff, reduceCtorEq, Int.reduceToNat, Int.reduceLE, Int.reduceLT, Int.reduceEq, sem_isochroneref01_Small, h1, x1, Int.toNat_natCast, m1, m2, tm, td, ap, w1, kRows_refs])); try (conv => lhs; whnf); try rfl)
    exact key
theorem call_Small01 (n : Nat) (e : Bool) (k c : Nat) (hk : k ≤ 65536) (hc : c < 65536) (hn : (dec n).length ≤ 1000000) : callL Tryz.prog hints 160 [natE n e, .int .i64 k, .int .i64 c] = some (natV (n * k + c)) := by
  have hM := maxLen_big
  have hF := smallF_val DB k (dec n) c
  have hFl := smallF_len 10000 k (dec n) c
  have hFo : OkD DB (smallF 10000 k (dec n) c) := smallF_ok (by decide) k (dec n) c
  have hC := smallC_lt (b := DB) (by decide) (k := k) (m := 65536) ⟨by omega, by omega⟩ (dec n) c (dec_ok n) ⟨by omega, by omega⟩
  have e0 : ((DB : Nat) : Int) = 10000 := rfl
  rw [e0] at hF hC
  generalize hG : smallF 10000 k (dec n) c = G at *
  obtain ⟨C, hCC⟩ : ∃ C : Nat, smallC 10000 k (dec n) c = C := ⟨(smallC 10000 k (dec n) c).toNat, by omega⟩
  rw [hCC] at hF hC
  have hdl : (dec C).length ≤ 2 := (digs_le DB2 2 C).2 (by show C < 10000 ^ 2; omega)
  have hok : OkD DB (G ++ dec C) := hFo.append (dec_ok C)
  have hv : (valD DB (G ++ dec C)).toNat = n * k + c := by
    rw [valD_append, dec_val, hFl, e0, hF, dec_val]
    have : ((n * k + c : Nat) : Int) = (k : Int) * n + c := by rw [Int.natCast_add, Int.natCast_mul, Int.mul_comm]
    omega
  have ct := call_trim_ok (by simp; omega) hok
  rw [hv] at ct
  have c1 := callO_msl (S := [.arr (kRows .i64 (G ++ dec C)) (some (some 1)) false]) (id := 0) (n := (G ++ dec C).length) (ex := false) ct rfl rfl (by simp)
  have w1 : IntKind.i64.wrap (((dec n).length : Int) + 2) = (((dec n).length + 2 : Nat) : Int) := by rw [IntKind.wrap_i64]; omega
  have mk := fun id => make_nat0 id (((dec n).length + 2 : Nat) : Int) ⟨by omega, by omega⟩
  have key := loop_Small (dec n) e (dec_ok n) hn k ⟨by omega, by omega⟩ [.blk 0, .seq 0 15] (z := (natV (n * k + c), [.arr (kRows .i64 (G ++ dec C)) (some (some 1)) true])) c (by
    have k2 := loop_Small2 [.blk 2, .seq 0 31] (z := (natV (n * k + c), [.arr (kRows .i64 (G ++ dec C)) (some (some 1)) true])) C C (Nat.le_refl _) (by omega) G (by omega) (by
      refine exit_run ok_isochroneref01_Small.good 1000 ?_
      ((repeat ((conv => lhs; whnf); simp only [go_sem, ↓reduceIte, Nat.reduceEqDiff, Nat.reduceBEq, Nat.reduceAdd, Nat.reduceMul, Nat.reduceSub, Nat.reduceLT, Nat.reduceLeDiff, reduceCtorEq, Int.reduceToNat, Int.reduceLE, Int.reduceLT, Int.reduceEq, sem_isochroneref01_Small, c1])); try (conv => lhs; whnf); try rfl))
    rw [hFl] at k2
    rw [hG, hCC]
    refine exit_run ok_isochroneref01_Small.good 1000 ?_
    ((repeat ((conv => lhs; whnf); simp only [go_sem, ↓reduceIte, Nat.reduceEqDiff, Nat.reduceBEq, Nat.reduceAdd, Nat.reduceMul, Nat.reduceSub, Nat.reduceLT, Nat.reduceLeDiff, reduceCtorEq, Int.reduceToNat, Int.reduceLE, Int.reduceLT, Int.reduceEq, sem_isochroneref01_Small])); try (conv => lhs; whnf); try rfl)
    exact k2) (dec n).length 0 (by omega) [] c rfl ⟨by omega, by omega⟩ rfl rfl
  refine FX.callL (r := (natV (n * k + c), [.arr (kRows .i64 (G ++ dec C)) (some (some 1)) true])) ok_isochroneref01_Small 1000 rfl rfl ?_ (fzPV_sl _ _)
  unfold natE at *
  ((repeat ((conv => lhs; whnf); simp only [go_sem, ↓reduceIte, Nat.reduceEqDiff, Nat.reduceBEq, Nat.reduceAdd, Nat.reduceMul, Nat.reduceSub, Nat.reduceLT, Nat.reduceLeDiff, reduceCtorEq, Int.reduceToNat, Int.reduceLE, Int.reduceLT, Int.reduceEq, sem_isochroneref01_Small, w1, mk])); try (conv => lhs; whnf); try rfl)
  exact key
end
end Go.Vs
end
/- The reference's natural numbers: Of, Int, Cmp. -/
section
set_option linter.unusedVariables false
set_option linter.unusedSimpArgs false
set_option maxRecDepth 100000
namespace Go.Vs
open Go Go.Proofs
/-- The bits that two numbers share. -/
def band (k : IntKind) (a b : Int) : Int := k.wrap (BitVec.ofInt k.bits a &&& BitVec.ofInt k.bits b).toNat
@[go_sem ↓] theorem band_fold (k : IntKind) (a b : Int) : k.wrap (BitVec.ofInt k.bits a &&& BitVec.ofInt k.bits b).toNat = band k a b := rfl
theorem band_low {w : Int} (h : 0 ≤ w ∧ w < 4294967296) : band .u32 w 65535 = w % 65536 := by
  obtain ⟨a, rfl⟩ : ∃ a : Nat, w = a := ⟨w.toNat, by omega⟩
  show IntKind.u32.wrap (((BitVec.ofInt 32 (a : Int) &&& BitVec.ofInt 32 ((65535 : Nat) : Int)).toNat : Nat) : Int) = _
  rw [BitVec.toNat_and, BitVec.ofInt_natCast, BitVec.ofInt_natCast, BitVec.toNat_ofNat, BitVec.toNat_ofNat, Nat.mod_eq_of_lt (by omega), Nat.mod_eq_of_lt (by omega)]
  have e := Nat.and_two_pow_sub_one_eq_mod a 16
  have e2 : (2 : Nat) ^ 16 - 1 = 65535 := by decide
  rw [e2] at e
  rw [e, IntKind.wrap_u32]
  omega
theorem nat_Small {n : Nat} {v : PV} (h : IsNat n v) (k c : Nat) (hk : k ≤ 65536) (hc : c < 65536) (hn : (dec n).length ≤ 1000000) (S : Store) : callO (callL Tryz.prog hints) S 160 [v, .int .i64 k, .int .i64 c] = some { v := natV (n * k + c) } := by
  obtain ⟨e, rfl, hp⟩ := h.form
  exact callO_plain (S := S) (call_Small01 n e k c hk hc hn) (by simp [hp, Plain.int])
theorem dec_mul_add {N h k : Nat} (hN : (dec N).length ≤ k) (hh : h < 65536) : (dec (N * 65536 + h)).length ≤ k + 2 := by
  refine (digs_le DB2 (k + 2) _).2 ?_
  have a2 := (digs_le DB2 k N).1 hN
  have a3 : DB ^ (k + 2) = DB ^ k * 100000000 := by rw [Nat.pow_add, show DB ^ 2 = 100000000 from by decide]
  rw [a3]
  generalize DB ^ k = Q at *
  omega
theorem digs_list {b : Nat} (hb : 2 ≤ b) {L : List Int} (h : OkD b L) : (digs b (valD b L).toNat).length ≤ L.length := by
  rw [← trimD_digs hb h]
  exact trimD_length L
/-- Fewer than three digits a word. -/
theorem dec_words {n k : Nat} (h : (words n).length ≤ k) : (dec n).length ≤ 3 * k := by
  refine (digs_le DB2 (3 * k) n).2 ?_
  have h1 := (digs_le WB2 k n).1 h
  have h2 : DB ^ (3 * k) = (DB ^ 3) ^ k := Nat.pow_mul _ _ _
  rw [h2]
  exact Nat.lt_of_lt_of_le h1 (Nat.pow_le_pow_left (by decide) k)
/-- Fewer digits than bits. -/
theorem words_dec {n k : Nat} (h : (dec n).length ≤ k) : (words n).length ≤ k := by
  refine (digs_le WB2 k n).2 ?_
  exact Nat.lt_of_lt_of_le ((digs_le DB2 k n).1 h) (Nat.pow_le_pow_left (by decide) k)
theorem dec_mono {m n : Nat} (h : m ≤ n) : (dec m).length ≤ (dec n).length := digs_mono DB2 h
theorem nv_take_drop (L : List Int) (h : OkD WB L) (i : Nat) : 0 ≤ valD WB (L.drop i) := valD_nonneg (h.drop i)
section
attribute [local irreducible] Vs.callL Vs.callRL tyi callO callM callMV appendE storeE evLoad indexAddrO sliceO evFieldAddr evField buildO buildSliceO makeSliceO allocO boxed lenO copyE convertO indexO Vs.gc freezeAll
noncomputable def fx_isochroneref01_Of : FX := ⟨Tryz.f135, hints.of 135, []⟩
theorem ok_isochroneref01_Of : fx_isochroneref01_Of.ok 135 := ⟨by kernel_rfl, of_decide_eq_true (by kernel_rfl), by kernel_rfl, by kernel_rfl, by kernel_rfl, by kernel_rfl⟩
theorem sem_isochroneref01_Of (b0 : Nat) (m : Md) (fs : List Fr) (e : Env) (S : Store) : sem b0 fx_isochroneref01_Of m fs e S = run b0 fx_isochroneref01_Of 1000 m fs e S := (sem_eq _ _ _ _ _ _).trans (run_sem b0 fx_isochroneref01_Of ok_isochroneref01_Of.good 1000 m fs e S).symm
theorem loop_Of (A : List Int) (e : Bool) (hA : OkD WB A) (hl : A.length ≤ 100000) (fs : List Fr) {z : PV × Store} (hz : exitTo 0 fx_isochroneref01_Of 0 fs [(0, .undef), (3, natV (valD WB A).toNat), (4, .undef), (10, .undef)] [.arr [] (some (some 1)) true] = some z) :
    ∀ (i : Nat), i ≤ A.length → loopAt 0 fx_isochroneref01_Of 0 116 1 fs [(0, .sl (kRows .u32 A) e), (3, natV (valD WB (A.drop i)).toNat), (4, .int .i64 ((i : Int) - 1))] [.arr [] (some (some 1)) true] = some z := by
  have hM := maxLen_big
  intro i
  induction i with
  | zero =>
    intro hi
    refine loopAt_step ok_isochroneref01_Of.good 1000 ?_
    ((repeat ((conv => lhs; whnf); simp only [go_sem, ↓reduceIte, Nat.reduceEqDiff, Nat.reduceBEq, Nat.reduceAdd, Nat.reduceMul, Nat.reduceSub, Nat.reduceLT, Nat.reduceLeDiff, reduceCtorEq, Int.reduceToNat, Int.reduceLE, Int.reduceLT, Int.reduceEq, sem_isochroneref01_Of])); try (conv => lhs; whnf); try rfl)
    exact hz
  | succ i ih =>
    intro hi
    have key := ih (by omega)
    have ed := list_at A (k := i) (by omega)
    have ha := hA.getD (by decide) i
    have ha' : A.getD i 0 < 4294967296 := ha.2
    have hv0 := nv_take_drop A hA (i + 1)
    have ev : valD WB (A.drop i) = A.getD i 0 + 4294967296 * valD WB (A.drop (i + 1)) := by rw [ed]; rfl
    have hdl : (dec (valD WB (A.drop (i + 1))).toNat).length ≤ 300000 := by
      refine dec_words (k := 100000) ?_
      have := digs_list WB2 (hA.drop (i + 1))
      have h2 : (A.drop (i + 1)).length ≤ 100000 := by simp; omega
      exact Nat.le_trans this h2
    obtain ⟨N, hN⟩ : ∃ N : Nat, valD WB (A.drop (i + 1)) = N := ⟨(valD WB (A.drop (i + 1))).toNat, by omega⟩
    obtain ⟨w, hw⟩ : ∃ w : Nat, A.getD i 0 = w := ⟨(A.getD i 0).toNat, by omega⟩
    rw [hw, hN] at ev
    rw [ev] at key
    rw [hw] at ha'
    rw [hN, Int.toNat_natCast] at hdl ⊢
    have s1 := nat_Small (IsNat.of N) 65536 (w / 65536) (by omega) (by omega) (by omega)
    have hdl2 : (dec (N * 65536 + w / 65536)).length ≤ 300002 := dec_mul_add hdl (by omega)
    have s2 := nat_Small (IsNat.of (N * 65536 + w / 65536)) 65536 (w % 65536) (by omega) (by omega) (by omega)
    have e2 : (N * 65536 + w / 65536) * 65536 + w % 65536 = ((w : Int) + 4294967296 * N).toNat := by omega
    rw [e2] at s2
    have x1 : 0 ≤ ((i + 1 : Nat) : Int) - 1 ∧ ((i + 1 : Nat) : Int) - 1 < (A.length : Int) := ⟨by omega, by omega⟩
    have h0 : (0 : Int) ≤ ((i + 1 : Nat) : Int) - 1 := by omega
    have ti : (((i + 1 : Nat) : Int) - 1).toNat = i := by omega
    have c1 : IntKind.i64.wrap ((w : Int) / 65536) = ((w / 65536 : Nat) : Int) := by rw [IntKind.wrap_i64]; omega
    have c2 : band .u32 (w : Int) 65535 = ((w % 65536 : Nat) : Int) := by rw [band_low ⟨by omega, ha'⟩]; omega
    have c3 : IntKind.i64.wrap ((w % 65536 : Nat) : Int) = ((w % 65536 : Nat) : Int) := by rw [IntKind.wrap_i64]; omega
    have w1 : IntKind.i64.wrap (((i + 1 : Nat) : Int) - 1 - 1) = (i : Int) - 1 := by rw [IntKind.wrap_i64]; omega
    have k5 : ((65536 : Nat) : Int) = 65536 := rfl
    rw [k5] at s1 s2
    unfold natV natE at *
    refine loopAt_step ok_isochroneref01_Of.good 1000 ?_
    ((repeat ((conv => lhs; whnf); simp only [go_sem, ↓reduceIte, Nat.reduceEqDiff, Nat.reduceBEq, Nat.reduceAdd, Nat.reduceMul, Nat.reduceSub, Nat.reduceLT, Nat.reduceLeDiff, reduceCtorEq, Int.reduceToNat, Int.reduceLE, Int.reduceLT, Int.reduceEq, sem_isochroneref01_Of, x1, h0, ti, hw, c1, c2, c3, s1, s2, w1])); try (conv => lhs; whnf); try rfl)
    exact key
theorem call_Of (n : Nat) (e : Bool) (hn : (words n).length ≤ 100000) : callL Tryz.prog hints 135 [magE n e] = some (natV n) := by
  have key := loop_Of (words n) e (words_ok n) hn [.blk 0, .seq 0 15] (z := (natV n, [.arr [] (some (some 1)) true])) (by
    rw [words_val, Int.toNat_natCast]
    unfold natV natE
    refine exit_run ok_isochroneref01_Of.good 1000 ?_
    ((repeat ((conv => lhs; whnf); simp only [go_sem, ↓reduceIte, Nat.reduceEqDiff, Nat.reduceBEq, Nat.reduceAdd, Nat.reduceMul, Nat.reduceSub, Nat.reduceLT, Nat.reduceLeDiff, reduceCtorEq, Int.reduceToNat, Int.reduceLE, Int.reduceLT, Int.reduceEq, sem_isochroneref01_Of])); try (conv => lhs; whnf); try rfl)) (words n).length (Nat.le_refl _)
  rw [List.drop_length] at key
  have e0 : natV (valD WB []).toNat = .sl [] false := by
    show natV 0 = _
    unfold natV natE dec
    rw [digs_zero]
    rfl
  rw [e0] at key
  have w1 : IntKind.i64.wrap (((words n).length : Int) - 1) = ((words n).length : Int) - 1 := by rw [IntKind.wrap_i64]; omega
  refine FX.callL (r := (natV n, [.arr [] (some (some 1)) true])) ok_isochroneref01_Of 1000 rfl rfl ?_ (fzPV_sl _ _)
  unfold magE
  ((repeat ((conv => lhs; whnf); simp only [go_sem, ↓reduceIte, Nat.reduceEqDiff, Nat.reduceBEq, Nat.reduceAdd, Nat.reduceMul, Nat.reduceSub, Nat.reduceLT, Nat.reduceLeDiff, reduceCtorEq, Int.reduceToNat, Int.reduceLE, Int.reduceLT, Int.reduceEq, sem_isochroneref01_Of, w1])); try (conv => lhs; whnf); try rfl)
  exact key
end
end Go.Vs
end
/- The reference's natural numbers: Int, Cmp, little. -/
section
set_option linter.unusedVariables false
set_option linter.unusedSimpArgs false
set_option maxRecDepth 100000
namespace Go.Vs
open Go Go.Proofs
theorem valD_lessB {b : Nat} (hb : 0 < b) {A B : List Int} (hA : OkD b A) (hB : OkD b B) (hl : A.length = B.length) {k : Nat} (hk : k < A.length) (hs : A.drop (k + 1) = B.drop (k + 1)) (hlt : A.getD k 0 < B.getD k 0) : valD b A < valD b B := by
  have eA : valD b A = _ := (congrArg (valD b) (list_split A hk)).trans (valD_append b _ _)
  have eB : valD b B = _ := (congrArg (valD b) (list_split B (k := k) (by omega))).trans (valD_append b _ _)
  rw [eA, eB, hs]
  have ha := hA.getD hb k
  have hb' := hB.getD hb k
  have h := valD_cmp (hA.take k) (hB.take k) (by simp; omega) ha.1 ha.2 hb'.1 hb'.2 hlt
  have e : (A.take k ++ [A.getD k 0]).length = (B.take k ++ [B.getD k 0]).length := by simp; omega
  rw [e]
  omega
section
attribute [local irreducible] Vs.callL Vs.callRL tyi callO callM callMV appendE storeE evLoad indexAddrO sliceO evFieldAddr evField buildO buildSliceO makeSliceO allocO boxed lenO copyE convertO indexO Vs.gc freezeAll
noncomputable def fx_isochroneref01_Int : FX := ⟨Tryz.f74, hints.of 74, []⟩
theorem ok_isochroneref01_Int : fx_isochroneref01_Int.ok 74 := ⟨by kernel_rfl, of_decide_eq_true (by kernel_rfl), by kernel_rfl, by kernel_rfl, by kernel_rfl, by kernel_rfl⟩
theorem sem_isochroneref01_Int (b0 : Nat) (m : Md) (fs : List Fr) (e : Env) (S : Store) : sem b0 fx_isochroneref01_Int m fs e S = run b0 fx_isochroneref01_Int 1000 m fs e S := (sem_eq _ _ _ _ _ _).trans (run_sem b0 fx_isochroneref01_Int ok_isochroneref01_Int.good 1000 m fs e S).symm
theorem loop_Int01 (fs : List Fr) {z : PV × Store} : ∀ (f c : Nat), c ≤ f → c < 4611686018427387904 → ∀ (D : List Int), D.length + (dec c).length ≤ 1000000 → exitTo 0 fx_isochroneref01_Int 0 fs [(0, .undef), (3, .msl 0 0 (D ++ dec c).length false), (6, .undef)] [.arr (kRows .i64 (D ++ dec c)) (some (some 1)) false] = some z →
    loopAt 0 fx_isochroneref01_Int 0 56 1 fs [(0, .int .i64 c), (3, .msl 0 0 D.length false)] [.arr (kRows .i64 D) (some (some 1)) false] = some z := by
  have base : ∀ (D : List Int), exitTo 0 fx_isochroneref01_Int 0 fs [(0, .undef), (3, .msl 0 0 (D ++ dec 0).length false), (6, .undef)] [.arr (kRows .i64 (D ++ dec 0)) (some (some 1)) false] = some z →
      loopAt 0 fx_isochroneref01_Int 0 56 1 fs [(0, .int .i64 (0 : Nat)), (3, .msl 0 0 D.length false)] [.arr (kRows .i64 D) (some (some 1)) false] = some z := by
    intro D hz
    have e : dec 0 = [] := (digs_nil DB2).2 rfl
    rw [e, List.append_nil] at hz
    refine loopAt_step ok_isochroneref01_Int.good 1000 ?_
    ((repeat ((conv => lhs; whnf); simp only [go_sem, ↓reduceIte, Nat.reduceEqDiff, Nat.reduceBEq, Nat.reduceAdd, Nat.reduceMul, Nat.reduceSub, Nat.reduceLT, Nat.reduceLeDiff, reduceCtorEq, Int.reduceToNat, Int.reduceLE, Int.reduceLT, Int.reduceEq, sem_isochroneref01_Int])); try (conv => lhs; whnf); try rfl)
    exact hz
  intro f
  induction f with
  | zero =>
    intro c hc hcb D hl hz
    have h0 : c = 0 := by omega
    subst h0
    exact base D hz
  | succ f ih =>
    intro c hc hcb D hl hz
    by_cases h0 : c = 0
    · subst h0
      exact base D hz
    · have ed : dec c = ((c % 10000 : Nat) : Int) :: dec (c / 10000) := digs_pos DB2 h0
      have h1 : (0 : Int) < (c : Int) := by omega
      have h1' : 0 < c := by omega
      have tm : (c : Int).tmod 10000 = ((c % 10000 : Nat) : Int) := by rw [Int.tmod_eq_emod_of_nonneg (by omega)]; rfl
      have td : IntKind.i64.wrap ((c : Int).tdiv 10000) = ((c / 10000 : Nat) : Int) := by
        rw [Int.tdiv_eq_ediv_of_nonneg (by omega), IntKind.wrap_i64]; omega
      rw [ed] at hz hl
      have ap := sl_nat.app1 D ((c % 10000 : Nat) : Int) (some 1) (.inr rfl) (by simp only [List.length_cons] at hl; omega) true
      have key := ih (c / 10000) (by omega) (by omega) (D ++ [((c % 10000 : Nat) : Int)]) (by simp only [List.length_cons] at hl; simp; omega) (by simpa using hz)
      rw [List.length_append, List.length_singleton] at key
      refine loopAt_step ok_isochroneref01_Int.good 1000 ?_
      ((repeat ((conv => lhs; whnf); simp only [go_sem, ↓reduceIte, Nat.reduceEqDiff, Nat.reduceBEq, Nat.reduceAdd, Nat.reduceMul, Nat.reduceSub, Nat.reduceLT, Nat.reduceLeDiff, reduceCtorEq, Int.reduceToNat, Int.reduceLE, Int.reduceLT, Int.reduceEq, sem_isochroneref01_Int, h1, h1', tm, td, ap, kRows_refs])); try (conv => lhs; whnf); try rfl)
      exact key
theorem call_Int01 (n : Nat) (hn : n < 4611686018427387904) : callL Tryz.prog hints 74 [.int .i64 n] = some (natV n) := by
  have hl : (dec n).length ≤ 5 := (digs_le DB2 5 n).2 (Nat.lt_of_lt_of_le hn (by decide))
  have key := loop_Int01 [.blk 0, .seq 0 15] (z := (.msl 0 0 (dec n).length false, [.arr (kRows .i64 (dec n)) (some (some 1)) false])) n n (Nat.le_refl _) hn [] (by simp; omega) (by
    refine exit_run ok_isochroneref01_Int.good 1000 ?_
    ((repeat ((conv => lhs; whnf); simp only [go_sem, ↓reduceIte, Nat.reduceEqDiff, Nat.reduceBEq, Nat.reduceAdd, Nat.reduceMul, Nat.reduceSub, Nat.reduceLT, Nat.reduceLeDiff, reduceCtorEq, Int.reduceToNat, Int.reduceLE, Int.reduceLT, Int.reduceEq, sem_isochroneref01_Int])); try (conv => lhs; whnf); try rfl))
  refine FX.callL (r := (.msl 0 0 (dec n).length false, [.arr (kRows .i64 (dec n)) (some (some 1)) false])) ok_isochroneref01_Int 1000 rfl rfl ?_ (kRows_fzV rfl rfl)
  ((repeat ((conv => lhs; whnf); simp only [go_sem, ↓reduceIte, Nat.reduceEqDiff, Nat.reduceBEq, Nat.reduceAdd, Nat.reduceMul, Nat.reduceSub, Nat.reduceLT, Nat.reduceLeDiff, reduceCtorEq, Int.reduceToNat, Int.reduceLE, Int.reduceLT, Int.reduceEq, sem_isochroneref01_Int])); try (conv => lhs; whnf); try rfl)
  exact key
noncomputable def fx_isochroneref01_Cmp : FX := ⟨Tryz.f149, hints.of 149, []⟩
theorem ok_isochroneref01_Cmp : fx_isochroneref01_Cmp.ok 149 := ⟨by kernel_rfl, of_decide_eq_true (by kernel_rfl), by kernel_rfl, by kernel_rfl, by kernel_rfl, by kernel_rfl⟩
theorem sem_isochroneref01_Cmp (b0 : Nat) (m : Md) (fs : List Fr) (e : Env) (S : Store) : sem b0 fx_isochroneref01_Cmp m fs e S = run b0 fx_isochroneref01_Cmp 1000 m fs e S := (sem_eq _ _ _ _ _ _).trans (run_sem b0 fx_isochroneref01_Cmp ok_isochroneref01_Cmp.good 1000 m fs e S).symm
theorem loop_Cmp01 (A B : List Int) (e1 e2 : Bool) (hA : OkD DB A) (hB : OkD DB B) (hl : A.length = B.length) (hm : A.length ≤ 3000000) : ∀ (k : Nat) (i : Int), i = (k : Int) - 1 → k ≤ A.length → A.drop k = B.drop k → loopAt 0 fx_isochroneref01_Cmp 0 116 0 [.blk 0, .seq 0 15] [(0, .sl (kRows .i64 A) e1), (1, .sl (kRows .i64 B) e2), (5, .int .i64 i)] [] = some (.int .i64 (cmpI (valD DB A) (valD DB B)), []) := by
  have hM := maxLen_big
  intro k
  induction k with
  | zero =>
    intro i hi hk hs
    have c : ¬ 0 ≤ i := by omega
    have e : A = B := by simpa using hs
    subst e
    have z : cmpI (valD DB A) (valD DB A) = 0 := by unfold cmpI; rw [if_neg (by omega), if_neg (by omega)]
    rw [z]
    refine loopAt_step ok_isochroneref01_Cmp.good 1000 ?_
    ((repeat ((conv => lhs; whnf); simp only [go_sem, ↓reduceIte, Nat.reduceEqDiff, Nat.reduceBEq, Nat.reduceAdd, Nat.reduceMul, Nat.reduceSub, Nat.reduceLT, Nat.reduceLeDiff, reduceCtorEq, Int.reduceToNat, Int.reduceLE, Int.reduceLT, Int.reduceEq, sem_isochroneref01_Cmp, c])); try (conv => lhs; whnf); try rfl)
    refine exit_run ok_isochroneref01_Cmp.good 1000 ?_
    ((repeat ((conv => lhs; whnf); simp only [go_sem, ↓reduceIte, Nat.reduceEqDiff, Nat.reduceBEq, Nat.reduceAdd, Nat.reduceMul, Nat.reduceSub, Nat.reduceLT, Nat.reduceLeDiff, reduceCtorEq, Int.reduceToNat, Int.reduceLE, Int.reduceLT, Int.reduceEq, sem_isochroneref01_Cmp])); try (conv => lhs; whnf); try rfl)
  | succ k ih =>
    intro i hi hk hs
    have hi' : i = (k : Int) := by omega
    subst hi'
    have c : (0 : Int) ≤ (k : Int) := by omega
    have x1 : 0 ≤ (k : Int) ∧ (k : Int) < (A.length : Int) := ⟨by omega, by omega⟩
    have x2 : 0 ≤ (k : Int) ∧ (k : Int) < (B.length : Int) := ⟨by omega, by omega⟩
    have w : IntKind.i64.wrap ((k : Int) - 1) = (k : Int) - 1 := by rw [IntKind.wrap_i64]; omega
    refine loopAt_step ok_isochroneref01_Cmp.good 1000 ?_
    by_cases h1 : A.getD k 0 = B.getD k 0
    · have key := ih _ rfl (by omega) (by rw [list_at A (by omega), list_at B (by omega), h1, hs])
      ((repeat ((conv => lhs; whnf); simp only [go_sem, ↓reduceIte, Nat.reduceEqDiff, Nat.reduceBEq, Nat.reduceAdd, Nat.reduceMul, Nat.reduceSub, Nat.reduceLT, Nat.reduceLeDiff, reduceCtorEq, Int.reduceToNat, Int.reduceLE, Int.reduceLT, Int.reduceEq, sem_isochroneref01_Cmp, c, x1, x2, Int.toNat_natCast, h1, w])); try (conv => lhs; whnf); try rfl)
      exact key
    · by_cases h2 : A.getD k 0 < B.getD k 0
      · have hv := valD_lessB (by decide) hA hB hl (k := k) (by omega) hs h2
        have z : cmpI (valD DB A) (valD DB B) = -1 := by unfold cmpI; rw [if_pos hv]
        rw [z]
        ((repeat ((conv => lhs; whnf); simp only [go_sem, ↓reduceIte, Nat.reduceEqDiff, Nat.reduceBEq, Nat.reduceAdd, Nat.reduceMul, Nat.reduceSub, Nat.reduceLT, Nat.reduceLeDiff, reduceCtorEq, Int.reduceToNat, Int.reduceLE, Int.reduceLT, Int.reduceEq, sem_isochroneref01_Cmp, c, x1, x2, Int.toNat_natCast, h1, h2])); try (conv => lhs; whnf); try rfl)
      · have hv := valD_lessB (by decide) hB hA hl.symm (k := k) (by omega) hs.symm (by omega)
        have z : cmpI (valD DB A) (valD DB B) = 1 := by unfold cmpI; rw [if_neg (by omega), if_pos hv]
        rw [z]
        ((repeat ((conv => lhs; whnf); simp only [go_sem, ↓reduceIte, Nat.reduceEqDiff, Nat.reduceBEq, Nat.reduceAdd, Nat.reduceMul, Nat.reduceSub, Nat.reduceLT, Nat.reduceLeDiff, reduceCtorEq, Int.reduceToNat, Int.reduceLE, Int.reduceLT, Int.reduceEq, sem_isochroneref01_Cmp, c, x1, x2, Int.toNat_natCast, h1, h2])); try (conv => lhs; whnf); try rfl)
theorem call_Cmp01 (m n : Nat) (e1 e2 : Bool) (hm : (dec m).length ≤ 3000000) (hn : (dec n).length ≤ 3000000) : callL Tryz.prog hints 149 [natE m e1, natE n e2] = some (.int .i64 (cmpN m n)) := by
  have hM := maxLen_big
  unfold natE
  by_cases hl : (dec m).length = (dec n).length
  · have key := loop_Cmp01 (dec m) (dec n) e1 e2 (dec_ok m) (dec_ok n) hl hm (dec m).length ((dec m).length - 1) rfl (Nat.le_refl _) (by rw [List.drop_length, hl, List.drop_length])
    rw [dec_val, dec_val, cmpI_cast] at key
    have w : IntKind.i64.wrap (((dec m).length : Int) - 1) = ((dec m).length : Int) - 1 := by rw [IntKind.wrap_i64]; omega
    have c : ((dec m).length : Int) = ((dec n).length : Int) := by omega
    rw [c] at w
    rw [c] at key
    refine FX.callL (r := (.int .i64 (cmpN m n), [])) ok_isochroneref01_Cmp 1000 rfl rfl ?_ rfl
    ((repeat ((conv => lhs; whnf); simp only [go_sem, ↓reduceIte, Nat.reduceEqDiff, Nat.reduceBEq, Nat.reduceAdd, Nat.reduceMul, Nat.reduceSub, Nat.reduceLT, Nat.reduceLeDiff, reduceCtorEq, Int.reduceToNat, Int.reduceLE, Int.reduceLT, Int.reduceEq, sem_isochroneref01_Cmp, c, w])); try (conv => lhs; whnf); try rfl)
    exact key
  · have c : ¬ ((dec m).length : Int) = ((dec n).length : Int) := by omega
    by_cases h2 : (dec m).length < (dec n).length
    · have hmn : m < n := by
        by_cases h : m < n
        · exact h
        · have := dec_mono (show n ≤ m by omega)
          omega
      have z : cmpN m n = -1 := by unfold cmpN; rw [if_pos hmn]
      rw [z]
      have c2 : ((dec m).length : Int) < ((dec n).length : Int) := by omega
      refine FX.callL (r := (.int .i64 (-1), [])) ok_isochroneref01_Cmp 1000 rfl rfl ?_ rfl
      ((repeat ((conv => lhs; whnf); simp only [go_sem, ↓reduceIte, Nat.reduceEqDiff, Nat.reduceBEq, Nat.reduceAdd, Nat.reduceMul, Nat.reduceSub, Nat.reduceLT, Nat.reduceLeDiff, reduceCtorEq, Int.reduceToNat, Int.reduceLE, Int.reduceLT, Int.reduceEq, sem_isochroneref01_Cmp, c, c2])); try (conv => lhs; whnf); try rfl)
    · have hmn : n < m := by
        by_cases h : n < m
        · exact h
        · have := dec_mono (show m ≤ n by omega)
          omega
      have z : cmpN m n = 1 := by unfold cmpN; rw [if_neg (by omega), if_pos hmn]
      rw [z]
      have c2 : ¬ ((dec m).length : Int) < ((dec n).length : Int) := by omega
      refine FX.callL (r := (.int .i64 1, [])) ok_isochroneref01_Cmp 1000 rfl rfl ?_ rfl
      ((repeat ((conv => lhs; whnf); simp only [go_sem, ↓reduceIte, Nat.reduceEqDiff, Nat.reduceBEq, Nat.reduceAdd, Nat.reduceMul, Nat.reduceSub, Nat.reduceLT, Nat.reduceLeDiff, reduceCtorEq, Int.reduceToNat, Int.reduceLE, Int.reduceLT, Int.reduceEq, sem_isochroneref01_Cmp, c, c2])); try (conv => lhs; whnf); try rfl)
theorem nat_Cmp {m n : Nat} {a b : PV} (ha : IsNat m a) (hb : IsNat n b) (hm : (dec m).length ≤ 3000000) (hn : (dec n).length ≤ 3000000) (S : Store) : callO (callL Tryz.prog hints) S 149 [a, b] = some { v := .int .i64 (cmpN m n) } := by
  obtain ⟨e1, rfl, h1⟩ := ha.form
  obtain ⟨e2, rfl, h2⟩ := hb.form
  exact callO_plain (S := S) (call_Cmp01 m n e1 e2 hm hn) (by simp [h1, h2])
theorem nat_Int (n : Nat) (h : n < 4611686018427387904) (S : Store) : callO (callL Tryz.prog hints) S 74 [.int .i64 n] = some { v := natV n } := callO_plain (S := S) (call_Int01 n h) (by simp [Plain.int])
noncomputable def fx_isochroneref01_little : FX := ⟨Tryz.f172, hints.of 172, []⟩
theorem ok_isochroneref01_little : fx_isochroneref01_little.ok 172 := ⟨by kernel_rfl, of_decide_eq_true (by kernel_rfl), by kernel_rfl, by kernel_rfl, by kernel_rfl, by kernel_rfl⟩
theorem sem_isochroneref01_little (b0 : Nat) (m : Md) (fs : List Fr) (e : Env) (S : Store) : sem b0 fx_isochroneref01_little m fs e S = run b0 fx_isochroneref01_little 1000 m fs e S := (sem_eq _ _ _ _ _ _).trans (run_sem b0 fx_isochroneref01_little ok_isochroneref01_little.good 1000 m fs e S).symm
theorem loop_little (A : List Int) (e : Bool) (hA : OkD DB A) (hl : A.length ≤ 4) (fs : List Fr) {z : PV × Store} (hz : exitTo 0 fx_isochroneref01_little 0 fs [(0, .undef), (4, .int .i64 (valD DB A)), (5, .undef), (13, .undef)] [] = some z) :
    ∀ (i : Nat), i ≤ A.length → loopAt 0 fx_isochroneref01_little 0 244 0 fs [(0, .sl (kRows .i64 A) e), (4, .int .i64 (valD DB (A.drop i))), (5, .int .i64 ((i : Int) - 1))] [] = some z := by
  intro i
  induction i with
  | zero =>
    intro hi
    rw [List.drop_zero]
    refine loopAt_step ok_isochroneref01_little.good 1000 ?_
    ((repeat ((conv => lhs; whnf); simp only [go_sem, ↓reduceIte, Nat.reduceEqDiff, Nat.reduceBEq, Nat.reduceAdd, Nat.reduceMul, Nat.reduceSub, Nat.reduceLT, Nat.reduceLeDiff, reduceCtorEq, Int.reduceToNat, Int.reduceLE, Int.reduceLT, Int.reduceEq, sem_isochroneref01_little])); try (conv => lhs; whnf); try rfl)
    exact hz
  | succ i ih =>
    intro hi
    have key := ih (by omega)
    have ed := list_at A (k := i) (by omega)
    have ha := hA.getD (by decide) i
    have ha' : A.getD i 0 < 10000 := ha.2
    have hv0 := valD_nonneg (hA.drop (i + 1))
    have ev : valD DB (A.drop i) = A.getD i 0 + 10000 * valD DB (A.drop (i + 1)) := by rw [ed]; rfl
    have hv1 : valD DB (A.drop (i + 1)) < 1000000000000 := by
      have h1 := valD_lt (hA.drop (i + 1))
      have h2 : (A.drop (i + 1)).length ≤ 3 := by simp; omega
      have h3 : ((DB : Nat) : Int) ^ (A.drop (i + 1)).length ≤ 1000000000000 := by
        generalize (A.drop (i + 1)).length = q at h2
        match q, h2 with
        | 0, _ => decide
        | 1, _ => decide
        | 2, _ => decide
        | 3, _ => decide
      omega
    rw [ev] at key
    have x1 : 0 ≤ ((i + 1 : Nat) : Int) - 1 ∧ ((i + 1 : Nat) : Int) - 1 < (A.length : Int) := ⟨by omega, by omega⟩
    have h0 : (0 : Int) ≤ ((i + 1 : Nat) : Int) - 1 := by omega
    have ti : (((i + 1 : Nat) : Int) - 1).toNat = i := by omega
    have w1 : IntKind.i64.wrap (((i + 1 : Nat) : Int) - 1 - 1) = (i : Int) - 1 := by rw [IntKind.wrap_i64]; omega
    have w2 : IntKind.i64.wrap (valD DB (A.drop (i + 1)) * 10000) = valD DB (A.drop (i + 1)) * 10000 := by rw [IntKind.wrap_i64]; omega
    have w3 : IntKind.i64.wrap (valD DB (A.drop (i + 1)) * 10000 + A.getD i 0) = A.getD i 0 + 10000 * valD DB (A.drop (i + 1)) := by rw [IntKind.wrap_i64]; omega
    refine loopAt_step ok_isochroneref01_little.good 1000 ?_
    ((repeat ((conv => lhs; whnf); simp only [go_sem, ↓reduceIte, Nat.reduceEqDiff, Nat.reduceBEq, Nat.reduceAdd, Nat.reduceMul, Nat.reduceSub, Nat.reduceLT, Nat.reduceLeDiff, reduceCtorEq, Int.reduceToNat, Int.reduceLE, Int.reduceLT, Int.reduceEq, sem_isochroneref01_little, x1, h0, ti, w1, w2, w3])); try (conv => lhs; whnf); try rfl)
    exact key
theorem call_little (n : Nat) (e : Bool) (hn : (dec n).length ≤ 3000000) : callL Tryz.prog hints 172 [natE n e] = some (if n < 10000000000000000 then .tup [.int .i64 n, .bool true] else .tup [.int .i64 0, .bool false]) := by
  have hM := maxLen_big
  have hd : (dec n).length ≤ 4 ↔ n < 10000000000000000 := by
    have := digs_le DB2 4 n
    exact this
  unfold natE
  by_cases h : n < 10000000000000000
  · rw [if_pos h]
    have hl := hd.2 h
    have c : ¬ (4 : Int) < (dec n).length := by omega
    have c' : ¬ 4 < (dec n).length := by omega
    have key := loop_little (dec n) e (dec_ok n) hl [.blk 0, .seq 0 31] (z := (.tup [.int .i64 n, .bool true], [])) (by
      rw [dec_val]
      refine exit_run ok_isochroneref01_little.good 1000 ?_
      ((repeat ((conv => lhs; whnf); simp only [go_sem, ↓reduceIte, Nat.reduceEqDiff, Nat.reduceBEq, Nat.reduceAdd, Nat.reduceMul, Nat.reduceSub, Nat.reduceLT, Nat.reduceLeDiff, reduceCtorEq, Int.reduceToNat, Int.reduceLE, Int.reduceLT, Int.reduceEq, sem_isochroneref01_little])); try (conv => lhs; whnf); try rfl)) (dec n).length (Nat.le_refl _)
    rw [List.drop_length] at key
    have w1 : IntKind.i64.wrap (((dec n).length : Int) - 1) = ((dec n).length : Int) - 1 := by rw [IntKind.wrap_i64]; omega
    refine FX.callL (r := (.tup [.int .i64 n, .bool true], [])) ok_isochroneref01_little 1000 rfl rfl ?_ rfl
    ((repeat ((conv => lhs; whnf); simp only [go_sem, ↓reduceIte, Nat.reduceEqDiff, Nat.reduceBEq, Nat.reduceAdd, Nat.reduceMul, Nat.reduceSub, Nat.reduceLT, Nat.reduceLeDiff, reduceCtorEq, Int.reduceToNat, Int.reduceLE, Int.reduceLT, Int.reduceEq, sem_isochroneref01_little, c, c', w1])); try (conv => lhs; whnf); try rfl)
    exact key
  · rw [if_neg h]
    have hl : ¬ (dec n).length ≤ 4 := fun e => h (hd.1 e)
    have c : (4 : Int) < (dec n).length := by omega
    have c' : 4 < (dec n).length := by omega
    refine FX.callL (r := (.tup [.int .i64 0, .bool false], [])) ok_isochroneref01_little 1000 rfl rfl ?_ rfl
    ((repeat ((conv => lhs; whnf); simp only [go_sem, ↓reduceIte, Nat.reduceEqDiff, Nat.reduceBEq, Nat.reduceAdd, Nat.reduceMul, Nat.reduceSub, Nat.reduceLT, Nat.reduceLeDiff, reduceCtorEq, Int.reduceToNat, Int.reduceLE, Int.reduceLT, Int.reduceEq, sem_isochroneref01_little, c, c'])); try (conv => lhs; whnf); try rfl)
end
end Go.Vs
end

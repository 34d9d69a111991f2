/- Each operation that reads at most: what the machine's run comes to (4): arithmetic, conversions, lengths. -/
import Derived.Test.YtnddhkcciphhkaaVs6
set_option linter.unusedVariables false
set_option linter.unusedSimpArgs false
namespace Go.Vs
open Go

section
variable {P : Program} {w : World} {X : Nat → Prop} {S : Store} {n : Nat} {μ : Mu} {av : Nat → Prop}

theorem index_sound {t : TypeId} {x i pv : PV} {v u : Value} (hv : VR w av μ x v) (hu : VR w av μ i u) {esz : Nat} {eagg : Bool}
    (he : ∀ len el, (tyi P t).d = .array len el → (tyi P el).known = true ∧ esz = (tyi P el).size ∧ eagg = (tyi P el).isAgg)
    (h : evIndex (tyi P t) esz eagg x i = some pv) : ∃ z, (Instr.index t v u).run P w = .ok z w ∧ VR w av μ pv z := by
  cases x <;> simp only [evIndex, reduceCtorEq] at h
  case str s =>
    cases i <;> simp only [reduceCtorEq] at h
    rename_i k m
    obtain rfl := hv.str_inv
    obtain rfl := hu.int_inv
    cases hd : (tyi P t).d <;> simp only [hd, reduceCtorEq] at h
    have ht := tyi_str hd
    split at h
    · rename_i hm
      cases h
      have hlt : m.toNat < s.size := by omega
      have hb : s[m.toNat]? = some (s.data.toList.getD m.toNat 0) := by
        rw [show s[m.toNat]? = some (s[m.toNat]'hlt) from by simp [hlt]]
        congr 1
        rw [List.getD, List.getElem?_eq_getElem (by simpa using hlt)]
        rfl
      refine ⟨.int .u8 (s.data.toList.getD m.toNat 0).toNat, ?_, .i⟩
      simp only [Instr.index, asIntOf, Sem.run_bind, Sem.run_pure, Result.andThen_ok, run_underlying ht, if_pos hm.1, hb]
    · cases h
  case agg cs =>
    cases i <;> simp only [reduceCtorEq] at h
    rename_i k m
    obtain rfl := hu.int_inv
    cases hd : (tyi P t).d <;> simp only [hd, reduceCtorEq] at h
    rename_i len el
    obtain ⟨hk, rfl, rfl⟩ := he len el hd
    have ht := tyi_array hd
    obtain ⟨d2, i2, hd2, hi2, hs2, _⟩ := tyi_known hk
    cases hv with
    | fr hv => cases hv
    | agg _ us hn hfl hr =>
    split at h
    · rename_i hm
      rw [isAgg_eq] at h
      by_cases ha : isAggB P el = true
      · rw [if_pos ha] at h
        split at h
        · rename_i hle
          simp at h; subst h
          refine ⟨.agg (us.extract (m.toNat * i2.size) (m.toNat * i2.size + i2.size)), ?_, .agg _ _ ?_ (fun j v hv => ?_) (fun j pv v hp hv => ?_)⟩
          · simp only [Instr.index, asIntOf, Sem.run_bind, Sem.run_pure, Result.andThen_ok, run_underlying ht, if_pos hm, run_sizeOf' hi2, Go.part, run_isAgg hd2, ha, if_true]
          · simp [hs2]
            rw [Nat.add_mul] at hle
            omega
          · rw [Array.getElem?_extract] at hv
            split at hv
            · exact hfl _ v hv
            · cases hv
          · rw [Array.getElem?_extract] at hv
            split at hv
            · rename_i hj
              rw [List.getElem?_take_of_lt (by rw [← hs2]; omega), List.getElem?_drop, ← hs2] at hp
              exact hr _ pv v hp hv
            · cases hv
        · cases h
      · rw [if_neg ha] at h
        have hj : m.toNat * (tyi P el).size < us.size := by
          have := (List.getElem?_eq_some_iff.1 h).1
          omega
        have hc := Array.getElem?_eq_getElem hj
        refine ⟨_, ?_, hr _ pv _ h hc⟩
        simp only [Instr.index, asIntOf, Sem.run_bind, Sem.run_pure, Result.andThen_ok, run_underlying ht, if_pos hm, run_sizeOf' hi2, Go.part, run_isAgg hd2, ha, if_false, Bool.false_eq_true, hs2, hc]
    · cases h

theorem intOp_sound {op : BinOp} {k : IntKind} {a b : Int} {pv : PV} (hop : op ≠ .shl ∧ op ≠ .shr) (h : intOp op k a b = some pv) (t : TypeId) :
    ∃ z, (binOp op t (.int k a) (.int k b)).run P w = .ok z w ∧ VR w av μ pv z := by
  cases op <;> simp only [intOp, reduceCtorEq, Option.some.injEq] at h <;> try (exact absurd rfl hop.1) <;> try (exact absurd rfl hop.2)
  case quo =>
    split at h
    · cases h
    · rename_i hb; simp at h; subst h
      exact ⟨_, by simp [binOp, Op.intDiv, hb], .i⟩
  case rem =>
    split at h
    · cases h
    · rename_i hb; simp at h; subst h
      exact ⟨_, by simp [binOp, Op.intDiv, hb], .i⟩
  all_goals subst h
  case add => exact ⟨_, by simp [binOp, Op.intArith], .i⟩
  case sub => exact ⟨_, by simp [binOp, Op.intArith], .i⟩
  case mul => exact ⟨_, by simp [binOp, Op.intArith], .i⟩
  case and => exact ⟨_, by simp [binOp, Op.intBits], .i⟩
  case or => exact ⟨_, by simp [binOp, Op.intBits], .i⟩
  case xor => exact ⟨_, by simp [binOp, Op.intBits], .i⟩
  case andNot => exact ⟨_, by simp [binOp, Op.intBits], .i⟩
  case eql => exact ⟨.bool (a == b), by simp [binOp, Op.intCmp], by rw [show (a == b) = decide (a = b) from rfl]; exact .b⟩
  case neq => exact ⟨.bool (a != b), by simp [binOp, Op.intCmp], by rw [show (a != b) = !decide (a = b) from rfl]; exact .b⟩
  case lss => exact ⟨_, by simp [binOp, Op.intCmp], .b⟩
  case leq => exact ⟨_, by simp [binOp, Op.intCmp], .b⟩
  case gtr => exact ⟨_, by simp [binOp, Op.intCmp], .b⟩
  case geq => exact ⟨_, by simp [binOp, Op.intCmp], .b⟩
theorem shiftOp_sound {op : BinOp} {k k' : IntKind} {a b : Int} {pv : PV} (hop : op = .shl ∨ op = .shr) (h : shiftOp op k a b = some pv) (t : TypeId) :
    ∃ z, (binOp op t (.int k a) (.int k' b)).run P w = .ok z w ∧ VR w av μ pv z := by
  unfold shiftOp at h
  split at h
  · cases h
  · rename_i hb
    rcases hop with rfl | rfl
    · simp at h; subst h
      exact ⟨_, by simp [binOp, Op.shift, hb], .i⟩
    · simp at h; subst h
      exact ⟨_, by simp [binOp, Op.shift, hb], .i⟩
theorem strOp_sound {op : BinOp} {a b : ByteArray} {pv : PV} (h : strOp op a b = some pv) (t : TypeId) :
    ∃ z, (binOp op t (.string a) (.string b)).run P w = .ok z w ∧ VR w av μ pv z := by
  cases op <;> simp only [strOp, reduceCtorEq, Option.some.injEq] at h
  case add =>
    split at h
    · rename_i hle; simp at h; subst h
      refine ⟨.string (a ++ b), ?_, .s⟩
      have : ¬ (((a.size + b.size : Nat) : Int) > IntKind.i64.max) := by simp only [IntKind.max, IntKind.signed, IntKind.bits]; omega
      simp only [binOp, Op.stringOp, if_neg this]; rfl
    · cases h
  all_goals subst h
  case eql => exact ⟨_, by simp [binOp, Op.stringOp], .b⟩
  case neq => exact ⟨_, by simp [binOp, Op.stringOp], .b⟩
  case lss => exact ⟨_, by simp [binOp, Op.stringOp], .b⟩
  case leq => exact ⟨_, by simp [binOp, Op.stringOp], .b⟩
  case gtr => exact ⟨_, by simp [binOp, Op.stringOp], .b⟩
  case geq => exact ⟨_, by simp [binOp, Op.stringOp], .b⟩
theorem equalIn_bool {t : TypeId} (ht : P.underlying t = some .bool) (d : Nat) (a b : Bool) : (Op.equalIn (d + 1) t (.bool a) (.bool b)).run P w = .ok (a == b) w := by
  simp [Op.equalIn, run_underlying ht]
theorem eql_bool {t : TypeId} (ht : P.underlying t = some .bool) (a b : Bool) : (binOp .eql t (.bool a) (.bool b)).run P w = .ok (.bool (a == b)) w := by
  have h : (Op.equal t (.bool a) (.bool b)).run P w = .ok (a == b) w := equalIn_bool ht 9999 a b
  show (Op.equal t (.bool a) (.bool b) >>= fun r => pure (Value.bool r) : Sem Value).run P w = _
  rw [Sem.run_bind, h]; rfl
theorem neq_bool {t : TypeId} (ht : P.underlying t = some .bool) (a b : Bool) : (binOp .neq t (.bool a) (.bool b)).run P w = .ok (.bool (!(a == b))) w := by
  have h : (Op.equal t (.bool a) (.bool b)).run P w = .ok (a == b) w := equalIn_bool ht 9999 a b
  show (Op.equal t (.bool a) (.bool b) >>= fun r => pure (Value.bool (!r)) : Sem Value).run P w = _
  rw [Sem.run_bind, h]; rfl
theorem evBin_sound {op : BinOp} {t : TypeId} {x y pv : PV} {v u : Value} (xo yo : Operand) (hv : VR w av μ x v) (hu : VR w av μ y u) (h : evBin op (tyi P t) x y = some pv) :
    ∃ z, (do eqGuard op t xo yo v u; binOp op t v u : Sem Value).run P w = .ok z w ∧ VR w av μ pv z := by
  have guard : ∀ v u : Value, (v.oneCell' = true) → (v ≠ .nilIface) → (eqGuard op t xo yo v u).run P w = .ok () w := by
    intro v u h1 h2
    unfold eqGuard
    cases v with
    | nilIface => exact absurd rfl h2
    | agg cs => simp [Value.oneCell'] at h1
    | _ => cases op <;> rfl
  cases x <;> simp only [evBin, reduceCtorEq] at h
  case int k a =>
    cases y <;> simp only [reduceCtorEq] at h
    rename_i k' b
    obtain rfl := hv.int_inv
    obtain rfl := hu.int_inv
    rw [Sem.run_bind, guard _ _ rfl (by simp), Result.andThen_ok]
    split at h
    · exact shiftOp_sound (.inl rfl) h t
    · exact shiftOp_sound (.inr rfl) h t
    · rename_i h1 h2
      split at h
      · rename_i hk; subst hk; exact intOp_sound ⟨h1, h2⟩ h t
      · cases h
  case bool a =>
    cases y <;> simp only [reduceCtorEq] at h
    rename_i b
    obtain rfl := hv.bool_inv
    obtain rfl := hu.bool_inv
    cases hd : (tyi P t).d <;> simp only [hd, reduceCtorEq] at h
    have ht := tyi_bool hd
    rw [Sem.run_bind, guard _ _ rfl (by simp), Result.andThen_ok]
    split at h
    · cases h; exact ⟨_, eql_bool ht a b, .b⟩
    · cases h; exact ⟨_, neq_bool ht a b, .b⟩
    · cases h
  case str a =>
    cases y <;> simp only [reduceCtorEq] at h
    rename_i b
    obtain rfl := hv.str_inv
    obtain rfl := hu.str_inv
    rw [Sem.run_bind, guard _ _ rfl (by simp), Result.andThen_ok]
    exact strOp_sound h t
theorem evUn_sound {op : UnOp} {x pv : PV} {v : Value} (hv : VR w av μ x v) (h : evUn op x = some pv) : ∃ z, (Op.unary op v).run P w = .ok z w ∧ VR w av μ pv z := by
  cases x <;> simp only [evUn, reduceCtorEq] at h
  case int k a =>
    obtain rfl := hv.int_inv
    cases op <;> simp only [reduceCtorEq, Option.some.injEq] at h <;> subst h
    · exact ⟨_, by simp [Op.unary, Op.intArith], .i⟩
    · exact ⟨_, by simp [Op.unary, Op.intBits], .i⟩
  case bool b =>
    obtain rfl := hv.bool_inv
    cases op <;> simp only [reduceCtorEq, Option.some.injEq] at h
    subst h
    exact ⟨_, by simp [Op.unary], .b⟩
theorem evConvert_sound {s t : TypeId} (hs : (tyi P s).known = true) {x pv : PV} {v : Value} (hv : VR w av μ x v) (h : evConvert (tyi P s) (tyi P t) x = some pv) :
    ∃ z, (convert s t v).run P w = .ok z w ∧ VR w av μ pv z := by
  obtain ⟨d, i, hd, hi, _⟩ := tyi_known hs
  cases x <;> simp only [evConvert, reduceCtorEq] at h
  case int k a =>
    obtain rfl := hv.int_inv
    cases hq : (tyi P t).d <;> simp only [hq, reduceCtorEq, Option.some.injEq] at h
    subst h
    exact ⟨_, by simp [convert, run_underlying hd, run_underlying (tyi_int hq), Conv.intToInt], .i⟩
  case str a =>
    obtain rfl := hv.str_inv
    cases hq : (tyi P t).d <;> simp only [hq, reduceCtorEq, Option.some.injEq] at h
    subst h
    exact ⟨.string a, by simp [convert, run_underlying hd, run_underlying (tyi_str hq)], .s⟩
theorem evLen_sound {t : TypeId} {x pv : PV} {v : Value} (ty : TypeId) (hv : VR w av μ x v) (h : evLen (tyi P t) x = some pv) :
    ∃ z, (Builtin.len_ #[t] ty #[v]).run P w = .ok z w ∧ VR w av μ pv z := by
  cases x <;> simp only [evLen, reduceCtorEq] at h
  case str s =>
    obtain rfl := hv.str_inv
    cases hq : (tyi P t).d <;> simp only [hq, reduceCtorEq, Option.some.injEq] at h
    subst h
    exact ⟨_, by simp [Builtin.len_, run_underlying (tyi_str hq), goInt], .i⟩
  case sl rows ex =>
    cases hv with | fr hv =>
    cases hv with | sl _ _ a cap ad sz c hcap hex ha had hsz hc hr =>
    cases hq : (tyi P t).d <;> simp only [hq, reduceCtorEq, Option.some.injEq] at h
    subst h
    exact ⟨_, by simp [Builtin.len_, run_underlying (tyi_slice hq), goInt], .i⟩
  case msl id off len ex =>
    cases hq : (tyi P t).d <;> simp only [hq, reduceCtorEq, Option.some.injEq] at h
    subst h
    cases hv with
    | fr hv => cases hv
    | msl => exact ⟨_, by simp [Builtin.len_, run_underlying (tyi_slice hq), goInt], .i⟩
    | mslNil => exact ⟨_, by simp [Builtin.len_, run_underlying (tyi_slice hq), goInt], .i⟩
end
end Go.Vs

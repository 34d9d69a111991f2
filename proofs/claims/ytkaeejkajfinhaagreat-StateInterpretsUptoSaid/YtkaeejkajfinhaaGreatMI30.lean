import Derived.Test.YtkaeejkajfinhaaGreatRows
import Derived.WalkKit
import Derived.ProofKit
import Derived.OpenShut
import Derived.ShutString
import Derived.ChangeOld
import Derived.Below
import Derived.SizedLaws
import Derived.JoinedCond
import Derived.Test.YtkaeejkajfinhaaGreatMI8
import Derived.Test.YtkaeejkajfinhaaGreatMI29
namespace Go.Proofs.YtkaeejkajfinhaaGreat.stateInterprets
open Go.ChangeShapes Go.WideShapes Go.ChangeAt Go.RowKit
set_option linter.unusedVariables false
theorem own : ownKnob Tryz.prog.godebug = none := by kernel_rfl
theorem laidOut : laidOutB Tryz.prog = true := by kernel_rfl
theorem params : Tryz.f3.params = #[22] := by kernel_rfl
theorem closed : Vs.closedB Tryz.prog [3, 4, 9, 22, 25, 27, 28, 30, 69, 126] = true := by kernel_rfl
theorem calls : ∀ pvs, Vs.Args Tryz.prog [22] pvs → Vs.pvsB pvs ≤ 1048576 → ∃ n, Vs.callP Tryz.prog Vs.hints n 3 pvs = some (.bool true) := fun pvs h hb => Vs.callP_of (Vs.law_StateInterprets pvs h hb)
theorem types : ∀ t ∈ ([22] : List TypeId), Tryz.prog.readableRec t = true ∧ t < Tryz.prog.types.size := by
  intro t ht
  simp only [List.mem_cons, List.not_mem_nil, or_false] at ht
  rcases ht with rfl
  all_goals exact ⟨by kernel_rfl, of_decide_eq_true (by kernel_rfl)⟩
set_option maxRecDepth 100000 in
theorem contract (H : Type) (enc : TypeId × Value → H) (W : World) (base : Nat) (args : Array Value) (ds gs : List (DataW H)) (before : List MemPlace)
    (hval0 : ∀ (j : Nat) t v, Tryz.f3.params[j]? = some t → args[j]? = some v → Value.okWide Tryz.prog W .any base t v)
    (hW : DataW.Whole enc Tryz.prog Tryz.f3.params.toList Rows.stateInterpretsSpec.vars false W args.toList ds gs before) (hk : Rows.uptoSmall H (ds ++ gs) = true) :
    Calls Tryz.prog 3 args W fun e W' => ∃ v, e = .returned v ∧ Rows.stateInterpretsSpec.post enc Tryz.prog Tryz.f3 false true false false W args v W' := by
  have hW' := hW
  obtain ⟨p, q, hA0, hV, rfl, hfz, hnd⟩ := hW
  have hA : DataW.TrodAll enc Tryz.prog W 0 (fun _ => true) true Tryz.f3.params.toList args.toList ds p := hA0
  have hok := Vs.ok_at (l := [22]) (Q := fun t v => Value.okWide Tryz.prog W .any base t v) params hval0
  rw [params] at hA
  obtain ⟨rfl, rfl⟩ := trodVars_none hV
  have hA1 : DataW.TrodAll enc Tryz.prog W 0 (fun _ => true) true [22] args.toList ds p := hA
  have hb := of_decide_eq_true hk
  rw [List.append_nil] at hb
  have key := Vs.law_callsB (P := Tryz.prog) (Hn := Vs.hints) Tryz.checked.mixed Vs.hints_orc calls closed (by decide) hb hok hA1
  obtain ⟨v0, vs0, d0, ds0, p0, q0, e0, rfl, rfl, h0, r0⟩ := trodAll_cons hA
  obtain ⟨rfl, rfl, rfl⟩ := trodAll_nil r0
  refine key.mono fun e W' ⟨he, bel⟩ => ?_
  subst he
  have back := Vs.args_back (ts := [22]) laidOut bel types hA1 (Vs.trodAll_lt hA1)
  refine ⟨_, rfl, _, _, _, [], (p0 ++ []), [], hW', trodAll_mk1 (shut_bool (by kernel_rfl) _), ?_, rfl, bel.frame _, fun h => by cases h⟩
  rw [params]
  exact back
set_option maxRecDepth 100000 in
theorem lifted (os : Os) (started : os.Started) (H : Type) (enc : TypeId × Value → H) (F : Stop.Interp) :
    ReturnsInHanded {} Tryz.checked os 3 .any ((Rows.OpenSpec.upto Rows.stateInterpretsSpec).pre6 enc Tryz.prog Tryz.f3 Rows.stateInterpretsUptoRow.domain false) (((Rows.OpenSpec.upto Rows.stateInterpretsSpec).at F).post enc Tryz.prog Tryz.f3 false true false false) := by
  refine returnsInHanded_of_cond (C := Tryz.checked) (s := Rows.OpenSpec.upto Rows.stateInterpretsSpec) (k := Rows.uptoSmall) rfl own started (by kernel_rfl) Tryz.func3
    (OpenSpec.witness (enc := enc) (C := Tryz.checked) (s := Rows.OpenSpec.upto Rows.stateInterpretsSpec) (k := Rows.uptoSmall) rfl false ⟨#[], #[.slice none 0 0], []⟩ 8 (by kernel_rfl) (by kernel_rfl) (by kernel_rfl)
      (x := ([.nil], [], [])) (by kernel_rfl) rfl (by kernel_rfl)) ?_
  intro W base args ds gs before hval hW _ hk _
  exact contract H enc W base args ds gs before hval hW hk
theorem over : Rows.stateInterpretsUptoRow.holds Tryz.pinned (Rows.OpenSpec.upto Rows.stateInterpretsSpec) :=
  OpenClaim.holds_of_cond 3 Tryz.f3 rfl rfl rfl rfl rfl rfl rfl ⟨rfl, rfl, rfl, rfl, rfl⟩ rfl rfl rfl rfl rfl (by kernel_rfl) Tryz.func3 (by kernel_rfl)
    (of_decide_eq_true (by kernel_rfl)) (by unfold Func.isWrapper; first | (rw [if_pos (by decide +kernel)]; kernel_rfl) | (rw [if_neg (by decide +kernel)]; exact ⟨rfl, rfl⟩))
    (fun os started H enc _ F => lifted os started H enc F)
theorem proved : Rows.StateInterpretsUptoSaid := over
#print axioms proved
end Go.Proofs.YtkaeejkajfinhaaGreat.stateInterprets
namespace Go.Proofs.YtkaeejkajfinhaaGreat
theorem stateInterprets_holds : Rows.StateInterpretsUptoSaid := stateInterprets.proved
end Go.Proofs.YtkaeejkajfinhaaGreat

/- GameDecides: for every input the law returns true, and each argument reads behind the call as it read before. The law's value semantics (text Y112), lifted to the given statement. -/
import Derived.Test.YtnddhkcciphhkaaRows
import Derived.WalkKit
import Derived.ProofKit
import Derived.OpenShut
import Derived.ShutString
import Derived.ChangeOld
import Derived.Below
import Derived.SizedLaws
import Derived.Test.YtnddhkcciphhkaaMX7
import Derived.Test.YtnddhkcciphhkaaMX24
namespace Go.Proofs.Ytnddhkcciphhkaa.gameDecides
open Go.ChangeShapes Go.WideShapes Go.ChangeAt Go.RowKit
set_option linter.unusedVariables false
theorem own : ownKnob Try.prog.godebug = none := by kernel_rfl
theorem laidOut : laidOutB Try.prog = true := by kernel_rfl
theorem params : Try.f5.params = #[26, 3, 22] := by kernel_rfl
theorem closed : Vs.closedB Try.prog [3, 4, 9, 22, 23, 24, 26, 49, 76, 51, 52, 54] = true := by kernel_rfl
theorem calls : ∀ pvs, Vs.Args Try.prog [26, 3, 22] pvs → ∃ n, Vs.callP Try.prog Vs.hints n 5 pvs = some (.bool true) := fun pvs h => Vs.callP_of (Vs.law5 pvs h)
theorem types : ∀ t ∈ ([26, 3, 22] : List TypeId), Try.prog.readableRec t = true ∧ t < Try.prog.types.size := by
  intro t ht
  simp only [List.mem_cons, List.not_mem_nil, or_false] at ht
  rcases ht with rfl | rfl | rfl
  all_goals exact ⟨by kernel_rfl, of_decide_eq_true (by kernel_rfl)⟩
set_option maxRecDepth 100000 in
theorem contract (H : Type) (enc : TypeId × Value → H) (W : World) (base : Nat) (args : Array Value) (ds gs : List (DataW H)) (before : List MemPlace)
    (hval0 : ∀ (j : Nat) t v, Try.f5.params[j]? = some t → args[j]? = some v → Value.okWide Try.prog W .any base t v)
    (hW : DataW.Whole enc Try.prog Try.f5.params.toList Rows.gameDecidesSpec.vars false W args.toList ds gs before) :
    Calls Try.prog 5 args W fun e W' => ∃ v, e = .returned v ∧ Rows.gameDecidesSpec.post enc Try.prog Try.f5 false true false false W args v W' := by
  have hW' := hW
  obtain ⟨p, q, hA0, hV, rfl, hfz, hnd⟩ := hW
  have hA : DataW.TrodAll enc Try.prog W 0 (fun _ => true) true Try.f5.params.toList args.toList ds p := hA0
  have hok := Vs.ok_at (l := [26, 3, 22]) (Q := fun t v => Value.okWide Try.prog W .any base t v) params hval0
  rw [params] at hA
  obtain ⟨rfl, rfl⟩ := trodVars_none hV
  have hA1 : DataW.TrodAll enc Try.prog W 0 (fun _ => true) true [26, 3, 22] args.toList ds p := hA
  have key := Vs.law_calls (P := Try.prog) (Hn := Vs.hints) Try.checked.mixed calls closed (by decide) hok hA1
  obtain ⟨v0, vs0, d0, ds0, p0, q0, e0, rfl, rfl, h0, r0⟩ := trodAll_cons hA
  obtain ⟨v1, vs1, d1, ds1, p1, q1, e1, rfl, rfl, h1, r1⟩ := trodAll_cons r0
  obtain ⟨v2, vs2, d2, ds2, p2, q2, e2, rfl, rfl, h2, r2⟩ := trodAll_cons r1
  obtain ⟨rfl, rfl, rfl⟩ := trodAll_nil r2
  refine key.mono fun e W' ⟨he, bel⟩ => ?_
  subst he
  have back := Vs.args_back (ts := [26, 3, 22]) laidOut bel types hA1 (Vs.trodAll_lt hA1)
  refine ⟨_, rfl, _, _, _, [], (p0 ++ (p1 ++ (p2 ++ []))), [], hW', trodAll_mk1 (shut_bool (by kernel_rfl) _), ?_, rfl, bel.frame _, fun h => by cases h⟩
  rw [params]
  exact back
set_option maxRecDepth 100000 in
theorem lifted (os : Os) (started : os.Started) (H : Type) (enc : TypeId × Value → H) :
    ReturnsInHanded {} Try.checked os 5 .any (Rows.gameDecidesSpec.pre6 enc Try.prog Try.f5 Rows.gameDecidesRow.domain false) (Rows.gameDecidesSpec.post enc Try.prog Try.f5 false true false false) := by
  refine returnsInHanded_of_change_sized (C := Try.checked) own started (by kernel_rfl) Try.func5
    (ChangeSpec.witness6 (enc := enc) (C := Try.checked) false ⟨#[], #[.agg #[.slice none 0 0, .slice none 0 0, .slice none 0 0], .int .i64 0, .slice none 0 0], []⟩ 8 (by kernel_rfl) (by kernel_rfl) (by kernel_rfl) (by kernel_rfl)) ?_
  intro W base args ds gs before hval0 hW _ _ _
  exact contract H enc W base args ds gs before hval0 hW
theorem over : Rows.gameDecidesRow.holds Try.pinned (OpenSpec.ofChange Rows.gameDecidesSpec) :=
  OpenClaim.holds_of_wide 5 Try.f5 rfl rfl rfl rfl rfl rfl rfl ⟨rfl, rfl, rfl, rfl, rfl⟩ rfl rfl rfl rfl rfl (by kernel_rfl) Try.func5 (by kernel_rfl)
    (of_decide_eq_true (by kernel_rfl)) (by unfold Func.isWrapper; first | (rw [if_pos (by decide +kernel)]; kernel_rfl) | (rw [if_neg (by decide +kernel)]; exact ⟨rfl, rfl⟩))
    (fun os started H enc _ => lifted os started H enc)
theorem proved : Rows.GameDecidesSaid := over
#print axioms proved
end Go.Proofs.Ytnddhkcciphhkaa.gameDecides
namespace Go.Proofs.Ytnddhkcciphhkaa
/-- The row, under a short name, for the claim. -/
theorem gameDecides_holds : Rows.GameDecidesSaid := gameDecides.proved
end Go.Proofs.Ytnddhkcciphhkaa

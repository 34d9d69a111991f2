import Derived.Test.YtkaeejkajfinhaaGreatRows
import Derived.WalkKit
import Derived.ProofKit
import Derived.OpenShut
import Derived.ShutString
import Derived.ChangeOld
import Derived.Below
import Derived.SizedLaws
import Derived.JoinedCond
import Derived.Test.YtkaeejkajfinhaaGreatMV7
import Derived.Test.YtkaeejkajfinhaaGreatMV23
import Derived.Test.YtkaeejkajfinhaaGreatMV26
namespace Go.Proofs.YtkaeejkajfinhaaGreat.stateValues
open Go.ChangeShapes Go.WideShapes Go.ChangeAt Go.RowKit
theorem own:ownKnob Tryz.prog.godebug=none:=by kernel_rfl
theorem laidOut:laidOutB Tryz.prog=true:=by kernel_rfl
theorem params:Tryz.f4.params = #[30,35,22]:=by kernel_rfl
theorem closed:Vs.Zm Tryz.prog [3,4,9,22,25,27,28,30,35,69,98,126]=true:=by kernel_rfl
theorem calls : ∀pvs,Vs.zAX Tryz.prog [30,35,22] pvs→Vs.ug pvs≤1048576→∃n,Vs.ql Tryz.prog Vs.zE n 4 pvs=some (.bool true):=fun pvs h hb=>Vs.zJl (Vs.UZ pvs h hb)
theorem types : ∀t∈([30,35,22]:List TypeId),Tryz.prog.readableRec t=true∧t<Tryz.prog.types.size:=by
 intro t ht;simp only[List.mem_cons,List.not_mem_nil,or_false]at ht
 rcases ht with rfl | rfl | rfl
 all_goals exact⟨by kernel_rfl,of_decide_eq_true (by kernel_rfl)⟩
set_option maxRecDepth 100000 in
theorem contract (H:Type) (enc:TypeId × Value→H) (W:World) (base:Nat) (args:Array Value) (ds gs:List (DataW H)) (before:List MemPlace)
  (hval0 : ∀(j:Nat) t v,Tryz.f4.params[j]? = some t→args[j]? = some v→Value.okWide Tryz.prog W .any base t v)
  (hW:DataW.Whole enc Tryz.prog Tryz.f4.params.toList Rows.stateValuesSpec.vars false W args.toList ds gs before) (hk:Rows.uptoSmall H (ds++gs)=true) :
  Calls Tryz.prog 4 args W fun e W'=>∃v,e=.returned v∧Rows.stateValuesSpec.post enc Tryz.prog Tryz.f4 false true false false W args v W':=by
 have hW':=hW;obtain⟨p,q,hA0,hV,rfl,hfz,hnd⟩:=hW;have hA:DataW.TrodAll enc Tryz.prog W 0 (fun _=>true) true Tryz.f4.params.toList args.toList ds p:=hA0;have hok:=Vs.zQL (l:=[30,35,22]) (Q:=fun t v=>Value.okWide Tryz.prog W .any base t v) params hval0;rw[params]at hA;obtain⟨rfl,rfl⟩:=trodVars_none hV;have hA1:DataW.TrodAll enc Tryz.prog W 0 (fun _=>true) true [30,35,22] args.toList ds p:=hA;have hb:=of_decide_eq_true hk;rw[List.append_nil]at hb;have key:=Vs.zG7 (P:=Tryz.prog) (Hn:=Vs.zE) Tryz.checked.mixed Vs.zJK calls closed (by decide) hb hok hA1;obtain⟨v0,vs0,d0,ds0,p0,q0,e0,rfl,rfl,h0,r0⟩:=trodAll_cons hA;obtain⟨v1,vs1,d1,ds1,p1,q1,e1,rfl,rfl,h1,r1⟩:=trodAll_cons r0;obtain⟨v2,vs2,d2,ds2,p2,q2,e2,rfl,rfl,h2,r2⟩:=trodAll_cons r1;obtain⟨rfl,rfl,rfl⟩:=trodAll_nil r2;refine key.mono fun e W' ⟨he,bel⟩=>?_;subst he;have back:=Vs.QL (ts:=[30,35,22]) laidOut bel types hA1 (Vs.Ur hA1);refine⟨_,rfl,_,_,_,[],(p0++(p1++(p2++[]))),[],hW',trodAll_mk1 (shut_bool (by kernel_rfl) _),?_,rfl,bel.frame _,fun h=>by cases h⟩;rw[params];exact back
set_option maxRecDepth 100000 in
theorem lifted (os:Os) (started:os.Started) (H:Type) (enc:TypeId × Value→H) (F:Stop.Interp) :
  ReturnsInHanded {} Tryz.checked os 4 .any ((Rows.OpenSpec.upto Rows.stateValuesSpec).pre6 enc Tryz.prog Tryz.f4 Rows.stateValuesUptoRow.domain false) (((Rows.OpenSpec.upto Rows.stateValuesSpec).at F).post enc Tryz.prog Tryz.f4 false true false false):=by
 refine returnsInHanded_of_cond (C:=Tryz.checked) (s:=Rows.OpenSpec.upto Rows.stateValuesSpec) (k:=Rows.uptoSmall) rfl own started (by kernel_rfl) Tryz.func4
  (OpenSpec.witness (enc:=enc) (C:=Tryz.checked) (s:=Rows.OpenSpec.upto Rows.stateValuesSpec) (k:=Rows.uptoSmall) rfl false ⟨#[],#[.agg #[.int .i64 0,.string ⟨#[]⟩,.bool false,.slice none 0 0,.slice none 0 0,.slice none 0 0],.slice none 0 0,.slice none 0 0],[]⟩ 8 (by kernel_rfl) (by kernel_rfl) (by kernel_rfl)
   (x:=([.agg [.lit (.int .i64 0),.lit (.string []),.agg [.lit (.bool false),.nil,.nil],.nil],.nil,.nil],[],[])) (by kernel_rfl) rfl (by kernel_rfl)) ?_
 intro W base args ds gs before hval hW _ hk _;exact contract H enc W base args ds gs before hval hW hk
theorem over:Rows.stateValuesUptoRow.holds Tryz.pinned (Rows.OpenSpec.upto Rows.stateValuesSpec) :=
 OpenClaim.holds_of_cond 4 Tryz.f4 rfl rfl rfl rfl rfl rfl rfl ⟨rfl,rfl,rfl,rfl,rfl⟩ rfl rfl rfl rfl rfl (by kernel_rfl) Tryz.func4 (by kernel_rfl)
  (of_decide_eq_true (by kernel_rfl)) (by unfold Func.isWrapper;first | (rw[if_pos (by decide +kernel)];kernel_rfl) | (rw[if_neg (by decide +kernel)];exact⟨rfl,rfl⟩))
  (fun os started H enc _ F=>lifted os started H enc F)
theorem proved:Rows.StateValuesUptoSaid:=over
#print axioms proved
end Go.Proofs.YtkaeejkajfinhaaGreat.stateValues
namespace Go.Proofs.YtkaeejkajfinhaaGreat
theorem stateValues_holds:Rows.StateValuesUptoSaid:=stateValues.proved
end Go.Proofs.YtkaeejkajfinhaaGreat

import Derived.Test.YtkaeejkajfinhaaGreatRows
import Derived.WalkKit
import Derived.ProofKit
import Derived.OpenShut
import Derived.ShutString
import Derived.ChangeOld
import Derived.Below
import Derived.SizedLaws
import Derived.JoinedCond
import Derived.Test.YtkaeejkajfinhaaGreatMD7
import Derived.Test.YtkaeejkajfinhaaGreatMD23
import Derived.Test.YtkaeejkajfinhaaGreatMD27
namespace Go.Proofs.YtkaeejkajfinhaaGreat.stateDerives
open Go.ChangeShapes Go.WideShapes Go.ChangeAt Go.RowKit
theorem own:ownKnob Tryz.prog.godebug=none:=by kernel_rfl
theorem laidOut:laidOutB Tryz.prog=true:=by kernel_rfl
theorem params:Tryz.f5.params = #[30,30,35,22]:=by kernel_rfl
theorem closed:Vs.YL Tryz.prog [3,4,9,22,25,27,28,30,35,69,98,126]=true:=by kernel_rfl
theorem calls : ∀pvs,Vs.zBH Tryz.prog [30,30,35,22] pvs→Vs.uw pvs≤1048576→∃n,Vs.ZL Tryz.prog Vs.zD n 5 pvs=some (.bool true):=fun pvs h hb=>Vs.zK3 (Vs.UU pvs h hb)
theorem types : ∀t∈([30,30,35,22]:List TypeId),Tryz.prog.readableRec t=true∧t<Tryz.prog.types.size:=by
 intro t ht;simp only[List.mem_cons,List.not_mem_nil,or_false]at ht
 rcases ht with rfl | rfl | rfl | rfl
 all_goals exact⟨by kernel_rfl,of_decide_eq_true (by kernel_rfl)⟩
set_option maxRecDepth 100000 in
theorem contract (H:Type) (enc:TypeId × Value→H) (W:World) (base:Nat) (args:Array Value) (ds gs:List (DataW H)) (before:List MemPlace)
  (hval0 : ∀(j:Nat) t v,Tryz.f5.params[j]? = some t→args[j]? = some v→Value.okWide Tryz.prog W .any base t v)
  (hW:DataW.Whole enc Tryz.prog Tryz.f5.params.toList Rows.stateDerivesSpec.vars false W args.toList ds gs before) (hk:Rows.uptoSmall H (ds++gs)=true) :
  Calls Tryz.prog 5 args W fun e W'=>∃v,e=.returned v∧Rows.stateDerivesSpec.post enc Tryz.prog Tryz.f5 false true false false W args v W':=by
 have hW':=hW;obtain⟨p,q,hA0,hV,rfl,hfz,hnd⟩:=hW;have hA:DataW.TrodAll enc Tryz.prog W 0 (fun _=>true) true Tryz.f5.params.toList args.toList ds p:=hA0;have hok:=Vs.zRA (l:=[30,30,35,22]) (Q:=fun t v=>Value.okWide Tryz.prog W .any base t v) params hval0;rw[params]at hA;obtain⟨rfl,rfl⟩:=trodVars_none hV;have hA1:DataW.TrodAll enc Tryz.prog W 0 (fun _=>true) true [30,30,35,22] args.toList ds p:=hA;have hb:=of_decide_eq_true hk;rw[List.append_nil]at hb;have key:=Vs.zHR (P:=Tryz.prog) (Hn:=Vs.zD) Tryz.checked.mixed Vs.zJs calls closed (by decide) hb hok hA1;obtain⟨v0,vs0,d0,ds0,p0,q0,e0,rfl,rfl,h0,r0⟩:=trodAll_cons hA;obtain⟨v1,vs1,d1,ds1,p1,q1,e1,rfl,rfl,h1,r1⟩:=trodAll_cons r0;obtain⟨v2,vs2,d2,ds2,p2,q2,e2,rfl,rfl,h2,r2⟩:=trodAll_cons r1;obtain⟨v3,vs3,d3,ds3,p3,q3,e3,rfl,rfl,h3,r3⟩:=trodAll_cons r2;obtain⟨rfl,rfl,rfl⟩:=trodAll_nil r3;refine key.mono fun e W' ⟨he,bel⟩=>?_;subst he;have back:=Vs.Qt (ts:=[30,30,35,22]) laidOut bel types hA1 (Vs.K3 hA1);refine⟨_,rfl,_,_,_,[],(p0++(p1++(p2++(p3++[])))),[],hW',trodAll_mk1 (shut_bool (by kernel_rfl) _),?_,rfl,bel.frame _,fun h=>by cases h⟩;rw[params];exact back
set_option maxRecDepth 100000 in
theorem lifted (os:Os) (started:os.Started) (H:Type) (enc:TypeId × Value→H) (F:Stop.Interp) :
  ReturnsInHanded {} Tryz.checked os 5 .any ((Rows.OpenSpec.upto Rows.stateDerivesSpec).pre6 enc Tryz.prog Tryz.f5 Rows.stateDerivesUptoRow.domain false) (((Rows.OpenSpec.upto Rows.stateDerivesSpec).at F).post enc Tryz.prog Tryz.f5 false true false false):=by
 refine returnsInHanded_of_cond (C:=Tryz.checked) (s:=Rows.OpenSpec.upto Rows.stateDerivesSpec) (k:=Rows.uptoSmall) rfl own started (by kernel_rfl) Tryz.func5
  (OpenSpec.witness (enc:=enc) (C:=Tryz.checked) (s:=Rows.OpenSpec.upto Rows.stateDerivesSpec) (k:=Rows.uptoSmall) rfl false ⟨#[],#[.agg #[.int .i64 0,.string ⟨#[]⟩,.bool false,.slice none 0 0,.slice none 0 0,.slice none 0 0],.agg #[.int .i64 0,.string ⟨#[]⟩,.bool false,.slice none 0 0,.slice none 0 0,.slice none 0 0],.slice none 0 0,.slice none 0 0],[]⟩ 8 (by kernel_rfl) (by kernel_rfl) (by kernel_rfl)
   (x:=([.agg [.lit (.int .i64 0),.lit (.string []),.agg [.lit (.bool false),.nil,.nil],.nil],.agg [.lit (.int .i64 0),.lit (.string []),.agg [.lit (.bool false),.nil,.nil],.nil],.nil,.nil],[],[])) (by kernel_rfl) rfl (by kernel_rfl)) ?_
 intro W base args ds gs before hval hW _ hk _;exact contract H enc W base args ds gs before hval hW hk
theorem over:Rows.stateDerivesUptoRow.holds Tryz.pinned (Rows.OpenSpec.upto Rows.stateDerivesSpec) :=
 OpenClaim.holds_of_cond 5 Tryz.f5 rfl rfl rfl rfl rfl rfl rfl ⟨rfl,rfl,rfl,rfl,rfl⟩ rfl rfl rfl rfl rfl (by kernel_rfl) Tryz.func5 (by kernel_rfl)
  (of_decide_eq_true (by kernel_rfl)) (by unfold Func.isWrapper;first | (rw[if_pos (by decide +kernel)];kernel_rfl) | (rw[if_neg (by decide +kernel)];exact⟨rfl,rfl⟩))
  (fun os started H enc _ F=>lifted os started H enc F)
theorem proved:Rows.StateDerivesUptoSaid:=over
#print axioms proved
end Go.Proofs.YtkaeejkajfinhaaGreat.stateDerives
namespace Go.Proofs.YtkaeejkajfinhaaGreat
theorem stateDerives_holds:Rows.StateDerivesUptoSaid:=stateDerives.proved
end Go.Proofs.YtkaeejkajfinhaaGreat

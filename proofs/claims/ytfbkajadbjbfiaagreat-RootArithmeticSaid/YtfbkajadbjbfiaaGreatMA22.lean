
import Derived.Test.YtfbkajadbjbfiaaGreatMA7
import Derived.Test.YtfbkajadbjbfiaaGreatMA17
import Derived.Test.YtfbkajadbjbfiaaGreatMA19
import Derived.Test.YtfbkajadbjbfiaaGreatMA20
import Derived.Test.YtfbkajadbjbfiaaGreatMA21
set_option linter.unusedVariables false
set_option linter.unusedSimpArgs false
set_option maxRecDepth 100000
namespace Go.Vs
open Go Go.Proofs
def zGv:List Kn:=[⟨27,[.int .i64 (-2)],.agg (kR true 2 1)⟩,⟨27,[.int .i64 0],.agg (kR false 0 1)⟩,⟨27,[.int .i64 1],.agg (kR false 1 1)⟩,⟨26,[kP],kIs⟩,⟨63,[kL0,kL1],.int .i64 (-1)⟩,⟨64,[kX,kL1],.int .i64 1⟩,⟨62,[kL0],.bool true⟩,⟨62,[kL1],.bool true⟩]
theorem zDd : ∀x∈zGv,x.ok:=by
 intro x hx;unfold zGv at hx;simp only[BD,List.not_mem_nil,or_false]at hx
 rcases hx with rfl | rfl | rfl | rfl | rfl | rfl | rfl | rfl
 ·exact⟨zD9,by kernel_rfl,by kernel_rfl⟩
 ·exact⟨zDa,by kernel_rfl,by kernel_rfl⟩
 ·exact⟨zDb,by kernel_rfl,by kernel_rfl⟩
 ·exact⟨QB,by kernel_rfl,by kernel_rfl⟩
 ·exact⟨zFD,by kernel_rfl,by kernel_rfl⟩
 ·exact⟨zDc,by kernel_rfl,by kernel_rfl⟩
 ·exact⟨zAa,by kernel_rfl,by kernel_rfl⟩
 ·exact⟨zAb,by kernel_rfl,by kernel_rfl⟩
theorem zAc:callL Tryz.prog zD 5 []=some (.bool true):=QA zDd (n:=60) (by kernel_rfl)
section
theorem zAd:YX Tryz.prog zD:=YX.none fun _=>rfl
theorem zAe (S:zA):zQ (callL Tryz.prog zD) S 5 []=some {v:=.bool true} := zE zAc (by simp)
section
attribute [local irreducible] Vs.callL Vs.callRL tyi zQ yE zm zV zk zb zK zf zF zT zl zi zJ zL zj yB yO yD zN zh Vs.gc zH
noncomputable def zGw:FX:=⟨Tryz.f59,zD.of 59,[]⟩
instance ok59_:zGw.ok 59:=FX.mk'
theorem K5 (n:Nat) (hn:n<4294967296):callL Tryz.prog zD 59 [.int .i64 n]=some (.agg (rc (n:Rat))):=by
 have i1:=fun S=>zE (S:=S) (Yz n (by omega)) (by simp[zW.int]);have h1 : ¬(n:Int)<0:=by omega
 have e:rc (n:Rat)=[.bool false,zg n,.sl [[.int .i64 1]] false]:=by
  have e1:zt (n:Rat)=false:=by
   unfold zt;have:((n:Rat)).num=(n:Int):=rfl;rw[this];simp
  have e2:zg 1=.sl [[.int .i64 1]] false:=by unfold zg yJ;rw[J7];rfl
  unfold rc;rw[e1,show ((n:Rat)).num.natAbs=n from rfl,show ((n:Rat)).den=1 from rfl,e2]
 rw[e];apply FX.retV ok59_ 1000 rfl rfl
 ·((repeat((conv=>lhs;whnf);simp only[go_sem,simprocAttr,h1,i1]));try rfl)
 ·rfl
noncomputable def zCV:FX:=⟨Tryz.f25,zD.of 25,[]⟩
instance ok25_:zCV.ok 25:=FX.mk'
theorem ZF (c:QL) (hL:c.length≤9) (hw : ∀q∈c,ze q 2) (fs:List Fr) : ∀m j,j+m=c.length-1→∀g:Option Nat,(g=none∨g=some 3)→∃g':Option Nat,(g'=none∨g'=some 3)∧∀z:PV × zA,zZ 0 zCV 0 fs [(0,.undef),(3,.msl 0 0 (wR c).length false),(4,.undef),(8,.undef)] [.arr (zn (wR c)) (some g') false]=some z→zS 0 zCV 0 116 1 fs [(0,.sl (zn c) false),(3,.msl 0 0 j false),(4,.int .i64 ((j:Int)+1))] [.arr (zn ((wR c).take j)) (some g) false]=some z:=by
 intro m
 induction m with
 | zero =>
  intro j hj g hg;refine⟨g,hg,fun z hz=>?_⟩;have h1 : ¬(j:Int)+1<(c.length:Int):=by omega
  have ej:j=(wR c).length:=by rw[vA];omega
  rw[pZ (by omega),ej];rw[ej]at h1;apply zC;(repeat((conv=>lhs;whnf);simp only[go_sem,simprocAttr,h1]));exact hz
 | succ m ih =>
  intro j hj g hg;obtain⟨g',hg',key⟩:=ih (j+1) (by omega) (some 3) (.inr rfl);refine⟨g',hg',fun z hz=>?_⟩
  replace key:=key z hz
  clear hz;have h1:(j:Int)+1<(c.length:Int):=by omega
  have h2:IntKind.i64.wrap ((j:Int)+1+1)=(j:Int)+1+1:=by rw[bA];omega
  have h4:0≤(j:Int)+1∧(j:Int)+1<(c.length:Int):=⟨by omega,h1⟩;have h5:((j:Int)+1).toNat=j+1:=by omega
  have h6:(((j+1:Nat):Int))=(j:Int)+1:=by omega
  have hc:=hw _ (xK (L:=c) (i:=j+1) (by omega));have i1:=fun S=>zE (S:=S) (K5 (j+1) (by omega)) (by simp[zW.int]);have m1:=fun S=>V6 S (c.getD (j+1) 0) ((j+1:Nat):Rat) (hc.mono (by omega)) ((zBz (by omega)).mono (by omega));rw[h6]at i1 key;have el:((wR c).take j).length=j:=by rw[pJ,vA];omega
  rw[W3 c (by omega),Rat.mul_comm]at key;generalize ((j+1:Nat):Rat)=J at *;have ap:=fun S' h=>wo.app jC (b:=0) (S:=[.arr (zn ((wR c).take j)) (some g) false,.arr [rc (c.getD (j+1) 0*J)] (some (some 3)) false]) (S':=S') (id:=0) (j:=1) ((wR c).take j) (c.getD (j+1) 0*J) g hg (by omega) (by omega) true (by decide) rfl rfl h;have ap:=ap _ (by simp only[pF,aA,yF,xG,yP,wo.rrefs];rfl);rw[el]at ap;apply zC;(repeat((conv=>lhs;whnf);simp only[go_sem,simprocAttr,h1,h2,h4,h5,i1,m1,ap,wo.rrefs]));exact key
theorem Vc (c:QL) (hL:c.length≤9) (hw : ∀q∈c,ze q 2):callL Tryz.prog zD 25 [.sl (zn c) false]=some (.sl (zn (wR c)) false):=by
 by_cases h0:c.length=0
 ·have e:wR c=[]:=bT (by rw[vA];omega);obtain⟨g',hg',key⟩:=ZF c hL hw [.blk 0,.seq 0 15] 0 0 (by omega) none (.inl rfl);rw[e]at key ⊢;rw[show (((0:Nat):Int)+1)=1 from rfl]at key;apply FX.retV ok25_ 1000 rfl rfl
  ·(repeat((conv=>lhs;whnf);simp only[go_sem,simprocAttr]));apply key;apply zR;((repeat((conv=>lhs;whnf);simp only[go_sem,simprocAttr]));try rfl)
  ·rfl
 ·obtain⟨g',hg',key⟩:=ZF c hL hw [.blk 0,.seq 0 15] (c.length-1) 0 (by omega) none (.inl rfl);rw[show (((0:Nat):Int)+1)=1 from rfl]at key;apply FX.retV ok25_ 1000 rfl rfl
  ·(repeat((conv=>lhs;whnf);simp only[go_sem,simprocAttr]));apply key;apply zR;((repeat((conv=>lhs;whnf);simp only[go_sem,simprocAttr]));try rfl)
  ·exact wo.fzV rfl rfl
noncomputable def zGx:FX:=⟨Tryz.f21,zD.of 21,[]⟩
instance ok21_:zGx.ok 21:=FX.mk'
theorem QC (q:Rat) (hq:ze q 4096):callL Tryz.prog zD 21 [.agg (qc q),.agg (rc q)]=some (.bool true):=by
 have to:=fun S=>zED S q (hq.dec.mono (by omega));have sm:=fun S=>Qe S q hq;apply FX.retB ok21_ 1000 rfl rfl;((repeat((conv=>lhs;whnf);simp only[go_sem,simprocAttr,to,sm]));try rfl)
noncomputable def zGy:FX:=⟨Tryz.f17,zD.of 17,[]⟩
instance ok17_:zGy.ok 17:=FX.mk'
theorem Vd (v:RN) (h:v.ok):callL Tryz.prog zD 17 [.agg v.cells]=some (.bool (v.short 2&&v.valid)):=by
 have sh:=fun S=>qG S v 2;rw[show ((2:Nat):Int)=2 from rfl]at sh;have va:=fun S=>XT S v h
 cases e:v.short 2
 ·rw[e]at sh;rw[pS];apply FX.retB ok17_ 1000 rfl rfl;((repeat((conv=>lhs;whnf);simp only[go_sem,simprocAttr,sh]));try rfl)
 ·rw[e]at sh;rw[pQ];apply FX.retB ok17_ 1000 rfl rfl;((repeat((conv=>lhs;whnf);simp only[go_sem,simprocAttr,sh,va]));try rfl)
theorem zDe {v:RN} (h:v.ok) (hs:(v.short 2&&v.valid)=true) : ∃q:Rat,v.cells=qc q∧ze q 2:=by
 rw[bS]at hs;obtain⟨q,e1,e2,e3,_⟩:=(Yu h.n h.d).1 hs.2;have hs1:=hs.1;unfold RN.short at hs1;simp only[bS,sL]at hs1;rw[e2,e3]at hs1;exact⟨q,by unfold RN.cells qc zo zt;rw[e1,e2,e3],hs1⟩
noncomputable def zII:FX:=⟨Tryz.f4,zD.of 4,[]⟩
instance ok4_:zII.ok 4:=FX.mk'
theorem jX (A B:List RN) (x:RN) (hA:A.length≤maxLen) (hB:B.length≤maxLen) (oA : ∀v∈A,v.ok) (oB : ∀v∈B,v.ok) (ox:x.ok):callL Tryz.prog zD 4 [.sl (wG A) false,.sl (wG B) false,.agg x.cells]=some (.bool true):=by
 have aw:=zAe;have s1:=fun S=>zE (S:=S) (ZD A 9 2 (by omega) hA oA) (by simp[zW.sl,zW.int]);have s2:=fun S=>zE (S:=S) (ZD B 9 2 (by omega) hB oB) (by simp[zW.sl,zW.int]);have s3:=fun S=>zE (S:=S) (Vd x ox) (by simp[XS]);rw[show ((9:Nat):Int)=9 from rfl,show ((2:Nat):Int)=2 from rfl]at s1 s2
 cases e1:jV A 9 2
 ·rw[e1]at s1;apply FX.retB ok4_ 1000 rfl rfl;((repeat((conv=>lhs;whnf);simp only[go_sem,simprocAttr,aw,s1]));try rfl)
 rw[e1]at s1
 cases e2:jV B 9 2
 ·rw[e2]at s2;apply FX.retB ok4_ 1000 rfl rfl;((repeat((conv=>lhs;whnf);simp only[go_sem,simprocAttr,aw,s1,s2]));try rfl)
 rw[e2]at s2
 cases e3:(x.short 2&&x.valid)
 ·rw[e3]at s3;apply FX.retB ok4_ 1000 rfl rfl;((repeat((conv=>lhs;whnf);simp only[go_sem,simprocAttr,aw,s1,s2,s3]));try rfl)
 rw[e3]at s3;obtain⟨a,ra,ca,la⟩:=XU oA e1;obtain⟨b,rb,cb,lb⟩:=XU oB e2;obtain⟨q,rq,wq⟩:=zDe ox e3;rw[ra]at s1;rw[rb]at s2;rw[rq]at s3;rw[ra,rb,rq];have fa:=ca.fit;have fb:=cb.fit;have ofa:=fun S=>zE (S:=S) (KV a (by omega) (fun q hq=>(fa q hq).mono (by omega))) (by simp[zW.sl]);have ofb:=fun S=>zE (S:=S) (KV b (by omega) (fun q hq=>(fb q hq).mono (by omega))) (by simp[zW.sl]);have ofq:=fun S=>zEC S q (wq.mono (by omega));have pe:=fun S=>zE (S:=S) (KU a q ca la wq) (by simp[zW.sl,vc]);have pa:=fun S=>zE (S:=S) (Jp a b ca cb la lb) (by simp[zW.sl]);have pm:=fun S=>zE (S:=S) (Jq a b ca cb la lb) (by simp[zW.sl]);have pd:=fun S=>zE (S:=S) (V1 a ca la) (by simp[zW.sl]);have re:=fun S=>zE (S:=S) (KX a q la fa wq) (by simp[ul,un]);have rad:=fun S=>zE (S:=S) (Jv a b la lb fa fb) (by simp[ul]);have rm:=fun S=>zE (S:=S) (Jx a b la lb fa fb) (by simp[ul]);have rd:=fun S=>zE (S:=S) (Vc a la fa) (by simp[ul]);have hw:=Jo q wq a fa;have ie:=fun S=>zE (S:=S) (QC (vD q a) (hw.mono (by omega))) (by simp[vc,un]);have isx:=fun (L:QL) (h:Co L 200) S=>zE (S:=S) (zCJ L h.len (fun q hq=>(h.fit q hq).mono (by omega))) (by simp[zW.sl,ul]);have ia:=isx _ (zCC la lb fa fb);have im:=isx (Zg a b) (by
  unfold Zg;by_cases h0:a=[]∨b=[]
  ·rw[hZ h0];exact⟨by decide,fun q hq=>(by cases hq),fun h=>absurd rfl h⟩
  ·rw[hI h0];exact zCD la lb fa fb (fun h=>h0 (.inl h)) (fun h=>h0 (.inr h)))
 have id:=isx _ (zCE la fa ca.last);clear isx;apply FX.retB ok4_ 1000 rfl rfl;((repeat((conv=>lhs;whnf);simp only[go_sem,simprocAttr,aw,s1,s2,s3,ofa,ofb,ofq,pe,pa,pm,pd,re,rad,rm,rd,ie,ia,im,id]));try rfl)
end
def kO (P:Program) (t:TypeId):Option (List TypeId):=match P.underlying t with
 | some (.struct fs)=>some (fs.toList.map Field.type)
 | _=>none
theorem K6 {α β γ:Type} {R:γ→β→Prop} {f:α→γ} : ∀ {x:List α} {y:List β},All2 (fun a b=>R (f a) b) x y→All2 R (x.map f) y
 | _,_,.nil=>.nil
 | _,_,.cons h t=>.cons h (K6 t)
theorem Dt.struct {P:Program} {k:Nat} {t:TypeId} {ts:List TypeId} {pvs:List PV} (hf:kO P t=some ts) (h:Dt P k t pvs) : ∃k',k=k'+1∧∃pss:List (List PV),pvs=pss.flatten∧All2 (fun t ps=>Dt P k' t ps) ts pss:=by
 cases k with
 | zero=>simp only[Dt]at h
 | succ k =>
  unfold kO at hf
  split at hf
  ·rename_i fs hu;simp only[Dt,hu]at h;obtain⟨pss,h1,h2⟩:=h;simp only[Option.some.injEq]at hf;subst hf;exact⟨k,rfl,pss,h1,K6 (R:=fun t ps=>Dt P k t ps) h2⟩
  ·cases hf
theorem Dt.slice {P:Program} {k:Nat} {t e:TypeId} {pvs:List PV} (hu:P.underlying t=some (.slice e)) (h:Dt P k t pvs) : ∃k',k=k'+1∧∃rows,pvs=[.sl rows false]∧rows.length≤maxLen∧∀r∈rows,Dt P k' e r:=by
 cases k with
 | zero=>simp only[Dt]at h
 | succ k =>
  simp only[Dt,hu]at h;exact⟨k,rfl,h⟩
theorem Dt.int {P:Program} {k:Nat} {t:TypeId} {kd:IntKind} {pvs:List PV} (hu:P.underlying t=some (.int kd)) (h:Dt P k t pvs) : ∃n,(Lit.int kd n).wf=true∧pvs=[.int kd n]:=by
 cases k with
 | zero=>simp only[Dt]at h
 | succ k=>simpa only[Dt,hu] using h
theorem Dt.bool {P:Program} {k:Nat} {t:TypeId} {pvs:List PV} (hu:P.underlying t=some .bool) (h:Dt P k t pvs) : ∃b,pvs=[.bool b]:=by
 cases k with
 | zero=>simp only[Dt]at h
 | succ k=>simpa only[Dt,hu] using h
theorem Dt.str {P:Program} {k:Nat} {t:TypeId} {pvs:List PV} (hu:P.underlying t=some .string) (h:Dt P k t pvs) : ∃s:ByteArray,s.size≤maxLen∧pvs=[.str s]:=by
 cases k with
 | zero=>simp only[Dt]at h
 | succ k=>simpa only[Dt,hu] using h
theorem All2.inv {α β:Type} {R:α→β→Prop} {a:α} {x:List α} {y:List β} (h:All2 R (a::x) y) : ∃b z,y=b::z∧R a b∧All2 R x z:=by
 cases h with
 | cons h t=>exact⟨_,_,rfl,h,t⟩
theorem All2.inv0 {α β:Type} {R:α→β→Prop} {y:List β} (h:All2 R [] y):y=[]:=by cases h;rfl
theorem jF {α:Type} {P:List PV→Prop} {Q:α→Prop} {f:α→List PV} (h : ∀r,P r→∃a,Q a∧r=f a) : ∀rows:List (List PV),(∀r∈rows,P r)→∃l:List α,(∀a∈l,Q a)∧rows=l.map f
 | [],_=>⟨[],by simp,rfl⟩
 | r::rows,hr=>by
  obtain⟨a,h1,h2⟩:=h r (hr r (by simp));obtain⟨l,h3,h4⟩:=jF h rows fun x hx=>hr x (by simp[hx]);exact⟨a::l,by simpa using ⟨h1,h3⟩,by simp[h2,h4]⟩
theorem zFE {n:Int} (h:(Lit.int .u32 n).wf=true):0≤n∧n≤4294967295:=by
 simpa [Lit.wf,IntKind.min,IntKind.max,IntKind.signed,IntKind.bits] using h
section
variable {P:Program} {k:Nat} {t:TypeId} {pv:PV} {pvs:List PV}
theorem Arg.str (hu:P.underlying t=some .string) (h:Arg P k t pv) : ∃s:ByteArray,s.size≤maxLen∧pv=.str s:=by
 simp only[Arg,hu]at h;cases k with
 | zero=>simp only[Dt]at h
 | succ k =>
  simp only[Dt,hu]at h;obtain⟨s,h1,h2⟩:=h;exact⟨s,h1,by simpa using h2⟩
theorem Arg.int {kd:IntKind} (hu:P.underlying t=some (.int kd)) (h:Arg P k t pv) : ∃n,(Lit.int kd n).wf=true∧pv=.int kd n:=by
 simp only[Arg,hu]at h;cases k with
 | zero=>simp only[Dt]at h
 | succ k =>
  simp only[Dt,hu]at h;obtain⟨s,h1,h2⟩:=h;exact⟨s,h1,by simpa using h2⟩
theorem Wq.nil_inv (h:Wq P [] pvs):pvs=[]:=by cases h;rfl
theorem Wq.cons_inv {ts:List TypeId} (h:Wq P (t::ts) pvs) : ∃pv r k,pvs=pv::r∧Arg P k t pv∧Wq P ts r:=by
 cases h with
 | cons h r =>
  obtain⟨k,h⟩:=h;exact⟨_,_,k,rfl,h,r⟩
end
theorem zFF:Tryz.prog.underlying 40=some (.slice 96):=by kernel_rfl
theorem zDf:Tryz.prog.underlying 96=some (.int .u32):=by kernel_rfl
theorem zCW:Tryz.prog.underlying 4=some .bool:=by kernel_rfl
theorem zCX:Tryz.prog.underlying 22=some (.slice 42):=by kernel_rfl
theorem zCY:kO Tryz.prog 42=some [4,40,40]:=by kernel_rfl
theorem zFG {l:List Int} (h : ∀w∈l,0≤w∧w≤4294967295):OkD WB l:=fun w hw=>by
 have:=h w hw;exact⟨this.1,by show w<4294967296;omega⟩
theorem Dt.wordsK {k:Nat} {pvs:List PV} (h:Dt Tryz.prog k 40 pvs) : ∃l:List Int,l.length≤maxLen∧OkD WB l∧pvs=[.sl (zB .u32 l) false]:=by
 obtain⟨k',rfl,rows,rfl,h1,h2⟩:=h.slice zFF;obtain⟨l,h3,h4⟩:=jF (Q:=fun w=>0≤w∧w≤4294967295) (f:=fun w:Int=>[.int .u32 w]) (fun r hr=>by
  obtain⟨n,h5,h6⟩:=Dt.int zDf hr;exact⟨n,zFE h5,h6⟩) rows h2
 subst h4;exact⟨l,by simpa using h1,zFG h3,rfl⟩
theorem Dt.rn {k:Nat} {pvs:List PV} (h:Dt Tryz.prog k 42 pvs) : ∃v:RN,v.ok∧pvs=v.cells:=by
 obtain⟨k',rfl,pss,rfl,h1⟩:=h.struct zCY;obtain⟨p1,r1,rfl,a1,h2⟩:=h1.inv;obtain⟨p2,r2,rfl,a2,h3⟩:=h2.inv;obtain⟨p3,r3,rfl,a3,h4⟩:=h3.inv;cases h4.inv0;obtain⟨b,rfl⟩:=Dt.bool zCW a1;obtain⟨N,n1,n2,rfl⟩:=Dt.wordsK a2;obtain⟨D,d1,d2,rfl⟩:=Dt.wordsK a3;exact⟨⟨b,N,D⟩,⟨n2,d2,n1,d1⟩,rfl⟩
theorem Arg.rn {k:Nat} {pv:PV} (h:Arg Tryz.prog k 42 pv) : ∃v:RN,v.ok∧pv=.agg v.cells:=by
 have hf:=zCY;unfold kO at hf
 split at hf
 ·rename_i fs hu;simp only[Arg,hu]at h;obtain⟨cells,rfl,h⟩:=h;obtain⟨n,h1,h2⟩:=Dt.rn h;exact⟨n,h1,by rw[h2]⟩
 ·cases hf
theorem Arg.rns {k:Nat} {pv:PV} (h:Arg Tryz.prog k 22 pv) : ∃L:List RN,L.length≤maxLen∧(∀v∈L,v.ok)∧pv=.sl (wG L) false:=by
 have hd:Dt Tryz.prog k 22 [pv]:=by
  simp only[Arg,zCX]at h;exact h
 obtain⟨k',rfl,rows,e,h1,h2⟩:=hd.slice zCX;obtain⟨l,h3,h4⟩:=jF (Q:=RN.ok) (f:=RN.cells) (fun r hr=>Dt.rn hr) rows h2;subst h4;exact⟨l,by simpa using h1,h3,by simpa [wG] using e⟩
theorem qH (pvs:List PV) (h:Wq Tryz.prog [22,22,42] pvs):callL Tryz.prog zD 4 pvs=some (.bool true):=by
 obtain⟨x1,r1,k1,rfl,h1,t1⟩:=h.cons_inv;obtain⟨x2,r2,k2,rfl,h2,t2⟩:=t1.cons_inv;obtain⟨x3,r3,k3,rfl,h3,t3⟩:=t2.cons_inv;cases t3.nil_inv;obtain⟨A,lA,oA,rfl⟩:=h1.rns;obtain⟨B,lB,oB,rfl⟩:=h2.rns;obtain⟨x,ox,rfl⟩:=h3.rn;exact jX A B x lA lB oA oB ox
end
end Go.Vs

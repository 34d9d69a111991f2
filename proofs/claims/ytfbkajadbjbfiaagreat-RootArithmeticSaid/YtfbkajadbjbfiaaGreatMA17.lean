
import Derived.Test.YtfbkajadbjbfiaaGreatMA16
set_option linter.unusedVariables false
set_option linter.unusedSimpArgs false
set_option maxRecDepth 100000
namespace Go.Vs
open Go Go.Proofs
section
@[go_sem] theorem zGl (id n:Nat) (is:List Nat) (rows:List (List PV)):zJ Tryz.prog 22 id n is rows=if is=List.range n∧zq 3 rows=true∧(rows.all fun r=>r.all PV.cell)=true∧n*3≤16777216 then some {v:=.msl id 0 n true,new:=some (rows,some (some 3))} else none:=uO.buildSlice (by decide) id n is rows
theorem vA (c:QL):(wR c).length=c.length-1:=by simp[wR]
theorem W3 (c:QL) {j:Nat} (h:j+1<c.length):(wR c).take (j+1)=(wR c).take j++[((j+1:Nat):Rat)*c.getD (j+1) 0]:=by
 rw[aK]
 congr 1
 unfold wR;rw[pB,sX (by omega)];rfl
theorem zBz {n:Nat} (h:n<4294967296):ze (n:Rat) 2:=by
 have e:((n:Rat)).num.natAbs=n:=rfl;have d:((n:Rat)).den=1:=rfl;exact⟨by rw[e];exact yh (by omega),by rw[d];exact yh (by omega)⟩
theorem VX {S:zA} {f:FuncId} {l:List PV} {v:PV} (hr:zD.refs f=false) (h:callL Tryz.prog zD f l=some v) (ha : ∀a∈l,zW a):zm Tryz.prog zD S (.fn f [] []) l=some {v,S} := by
 have e:zm Tryz.prog zD S (.fn f [] []) l=yE Tryz.prog zD S f ([]++l++[]):=rfl;rw[e,pC,pD];simp only[yE,hr,bH,if_false,jy ha,bC,h,bJ,jz ha,jL];rfl
theorem KN {L:QL} {e:Bool} (h:e=true→L=[]):zW (.sl (zO L) e):=by
 cases e
 ·exact zW.sl _
 ·rw[h rfl];exact zW.nil
theorem vc (q:Rat):zW (.agg (qc q)):=wh q
section
attribute [local irreducible] Vs.callL Vs.callRL tyi zQ yE zm zV zk zb zK zf zF zT zl zi zJ zL zj yB yO yD zN zh Vs.gc zH
noncomputable def zCA:FX:=⟨Tryz.f54,zD.of 54,[]⟩
instance ok54_:zCA.ok 54:=FX.mk'
theorem Ze (c:QL) (hL:c.length≤9) (hw : ∀q∈c,ze q 2) (fs:List Fr) : ∀m j,j+m=c.length-1→∀g:Option Nat,(g=none∨g=some 3)→∃g':Option Nat,(g'=none∨g'=some 3)∧∀z:PV × zA,zZ 0 zCA 0 fs [(0,.undef),(3,.msl 0 0 (wR c).length false),(4,.undef),(8,.undef)] [.arr (zO (wR c)) (some g') false]=some z→zS 0 zCA 0 116 1 fs [(0,.sl (zO c) false),(3,.msl 0 0 j false),(4,.int .i64 ((j:Int)+1))] [.arr (zO ((wR c).take j)) (some g) false]=some z:=by
 intro m
 induction m with
 | zero =>
  intro j hj g hg;refine⟨g,hg,fun z hz=>?_⟩;have h1 : ¬(j:Int)+1<(c.length:Int):=by omega
  have ej:j=(wR c).length:=by rw[vA];omega
  rw[pZ (by omega),ej];rw[ej]at h1;apply zC;(repeat((conv=>lhs;whnf);simp only[go_sem,simprocAttr,h1]));exact hz
 | succ m ih =>
  intro j hj g hg;obtain⟨g',hg',key⟩:=ih (j+1) (by omega) (some 3) (.inr rfl);refine⟨g',hg',fun z hz=>?_⟩
  replace key:=key z hz
  clear hz;have h1:(j:Int)+1<(c.length:Int):=by omega
  have h2:IntKind.i64.wrap ((j:Int)+1+1)=(j:Int)+1+1:=by rw[bA];omega
  have h4:0≤(j:Int)+1∧(j:Int)+1<(c.length:Int):=⟨by omega,h1⟩;have h5:((j:Int)+1).toNat=j+1:=by omega
  have h6:(((j+1:Nat):Int))=(j:Int)+1:=by omega
  have hc:=hw _ (xK (L:=c) (i:=j+1) (by omega));have i1:=fun S=>zEt S (j+1) (by omega);have m1:=fun S=>Je S ((j+1:Nat):Rat) (c.getD (j+1) 0) ((zBz (by omega)).mono (by omega)) (hc.mono (by omega));rw[h6]at i1 key;have el:((wR c).take j).length=j:=by rw[pJ,vA];omega
  rw[W3 c (by omega)]at key;generalize ((j+1:Nat):Rat)=J at *;have ap:=fun S' h=>wS.app uO (b:=0) (S:=[.arr (zO ((wR c).take j)) (some g) false,.arr [qc (J*c.getD (j+1) 0)] (some (some 3)) false]) (S':=S') (id:=0) (j:=1) ((wR c).take j) (J*c.getD (j+1) 0) g hg (by omega) (by omega) true (by decide) rfl rfl h;have ap:=ap _ (by simp only[pF,aA,yF,xG,yP,wS.rrefs];rfl);rw[el]at ap;apply zC;(repeat((conv=>lhs;whnf);simp only[go_sem,simprocAttr,h1,h2,h4,h5,i1,m1,ap,wS.rrefs]));exact key
theorem KO (c:QL) (hL:c.length≤9) (hw : ∀q∈c,ze q 2):callL Tryz.prog zD 54 [.sl (zO c) false]=some (.sl (zO (wR c)) false):=by
 by_cases h0:c.length=0
 ·have h1 : ¬(1:Int)<(c.length:Int):=by omega
  have e:wR c=[]:=bT (by rw[vA];omega);obtain⟨g',hg',key⟩:=Ze c hL hw [.blk 0,.seq 0 15] 0 0 (by omega) none (.inl rfl);rw[e]at key ⊢;rw[show (((0:Nat):Int)+1)=1 from rfl]at key;apply FX.retV ok54_ 1000 rfl rfl
  ·(repeat((conv=>lhs;whnf);simp only[go_sem,simprocAttr]));apply key;apply zR;((repeat((conv=>lhs;whnf);simp only[go_sem,simprocAttr]));try rfl)
  ·rfl
 ·obtain⟨g',hg',key⟩:=Ze c hL hw [.blk 0,.seq 0 15] (c.length-1) 0 (by omega) none (.inl rfl);rw[show (((0:Nat):Int)+1)=1 from rfl]at key;apply FX.retV ok54_ 1000 rfl rfl
  ·(repeat((conv=>lhs;whnf);simp only[go_sem,simprocAttr]));apply key;apply zR;((repeat((conv=>lhs;whnf);simp only[go_sem,simprocAttr]));try rfl)
  ·exact wS.fzV rfl rfl
noncomputable def zGm:FX:=⟨Tryz.f50,zD.of 50,[]⟩
instance ok50_:zGm.ok 50:=FX.mk'
theorem VY (q:Rat) (hq:ze q 200):callL Tryz.prog zD 50 [.agg (qc q)]=some (.bool true):=by
 have nv:=Yt (zt q) (words q.num.natAbs) (words q.den) false false (yC _) (yC _) 200 (by decide) (by have:=hq.1;omega) (by have:=hq.2;omega) (fun e=>by cases e) (fun e=>by cases e);have hv:vN (zt q) (words q.num.natAbs) (words q.den) 200=true:=WL q 200 (by have:=hq.1;omega) (by have:=hq.2;omega);rw[hv]at nv;have nv':=fun S=>zE (S:=S) nv (by simp[zW.int];exact wh q);apply FX.retB ok50_ 1000 rfl rfl;unfold qc zo;((repeat((conv=>lhs;whnf);simp only[go_sem,simprocAttr,nv']));try rfl)
theorem W4 (S:zA) (q:Rat) (hq:ze q 200):zQ (callL Tryz.prog zD) S 50 [.agg (qc q)]=some {v:=.bool true} := zE (VY q hq) (by simp[vc])
structure Co (L:QL) (w:Nat):Prop where
 len:L.length≤41
 fit : ∀q∈L,ze q w
 last:L.length≠0→L.getD (L.length-1) 0≠0
noncomputable def zEB:FX:=⟨Tryz.f45,zD.of 45,[]⟩
instance ok45_:zEB.ok 45:=FX.mk'
theorem VZ (L:QL) (h:Co L 200) (e:Bool) : ∀m j,j+m=L.length→∃S',zS 0 zEB 0 116 0 [.blk 0,.seq 0 15] [(23,.sl (zO L) e),(24,.int .i64 L.length),(25,.int .i64 j)] []=some (.bool true,S'):=by
 intro m
 induction m with
 | zero =>
  intro j hj;have h1 : ¬(j:Int)<(L.length:Int):=by omega
  apply Exists.intro;apply zC;(repeat((conv=>lhs;whnf);simp only[go_sem,simprocAttr,h1]));apply zR;((repeat((conv=>lhs;whnf);simp only[go_sem,simprocAttr]));try rfl)
 | succ m ih =>
  intro j hj;obtain⟨S',key⟩:=ih (j+1) (by omega);have h1:(j:Int)<(L.length:Int):=by omega
  have h2:IntKind.i64.wrap ((j:Int)+1)=((j+1:Nat):Int):=by have:=h.len;rw[bA];omega
  have h4:0≤(j:Int)∧(j:Int)<(L.length:Int):=⟨by omega,h1⟩;have sm:=fun S=>W4 S (L.getD j 0) (h.fit _ (xK (by omega)));refine⟨S',?_⟩;apply zC;(repeat((conv=>lhs;whnf);simp only[go_sem,simprocAttr,h1,h2,h4,bD,sm]));exact key
theorem V0 (L:QL) (h:Co L 200) (e:Bool):callL Tryz.prog zD 45 [.sl (zO L) e]=some (.bool true):=by
 have g0 : ¬(41:Int)<(L.length:Int):=by have:=h.len;omega
 obtain⟨S',key⟩:=VZ L h e L.length 0 (by omega);have sg:=Q7;by_cases h0:L.length=0
 ·have g1 : ¬(0:Int)<(L.length:Int):=by omega
  apply FX.retB ok45_ 1000 rfl rfl;(repeat((conv=>lhs;whnf);simp only[go_sem,simprocAttr,g0,g1]));exact key
 ·have g1:(0:Int)<(L.length:Int):=by omega
  have g2:IntKind.i64.wrap ((L.length:Int)-1)=((L.length-1:Nat):Int):=by have:=h.len;rw[bA];omega
  have g4:0≤((L.length-1:Nat):Int)∧((L.length-1:Nat):Int)<(L.length:Int):=⟨by omega,by omega⟩;have g5 : ¬kK (L.getD (L.length-1) 0)=0:=fun e=>h.last h0 (jD.1 e);apply FX.retB ok45_ 1000 rfl rfl;(repeat((conv=>lhs;whnf);simp only[go_sem,simprocAttr,g0,g1,g2,g4,g5,bD,sg]));exact key
theorem uk (S:zA) (L:QL) (h:Co L 200) {e:Bool} (he:e=true→L=[]):zQ (callL Tryz.prog zD) S 45 [.sl (zO L) e]=some {v:=.bool true} := zE (V0 L h e) (by simp[KN he])
noncomputable def zCB:FX:=⟨Tryz.f39,zD.of 39,[]⟩
instance ok39_:zCB.ok 39:=FX.mk'
theorem KP (L:QL) (h:Co L 200) (e:Bool) (fs:List Fr) : ∀m j,j+m=L.length→∀g:Option Nat,(g=none∨g=some 3)→∃g':Option Nat,(g'=none∨g'=some 3)∧∀z:PV × zA,zZ 0 zCB 0 fs [(4,.msl 0 0 L.length false),(10,.undef),(11,.undef),(12,.undef),(13,.undef)] [.arr (zO L) (some g') false]=some z→zS 0 zCB 0 244 1 fs [(4,.msl 0 0 j false),(10,.sl (zO L) e),(11,.int .i64 L.length),(12,.int .i64 j)] [.arr (zO (L.take j)) (some g) false]=some z:=by
 intro m
 induction m with
 | zero =>
  intro j hj g hg;refine⟨g,hg,fun z hz=>?_⟩;have h1 : ¬(j:Int)<(L.length:Int):=by omega
  have ej:j=L.length:=by omega
  rw[pZ (by omega),ej];rw[ej]at h1;apply zC;(repeat((conv=>lhs;whnf);simp only[go_sem,simprocAttr,h1]));exact hz
 | succ m ih =>
  intro j hj g hg;obtain⟨g',hg',key⟩:=ih (j+1) (by omega) (some 3) (.inr rfl);refine⟨g',hg',fun z hz=>?_⟩
  replace key:=key z hz
  clear hz;have hl:=h.len;have h1:(j:Int)<(L.length:Int):=by omega
  have h2:IntKind.i64.wrap ((j:Int)+1)=((j+1:Nat):Int):=by rw[bA];omega
  have h4:0≤(j:Int)∧(j:Int)<(L.length:Int):=⟨by omega,h1⟩;have cp:=fun S=>Q9 S (L.getD j 0) ((h.fit _ (xK (by omega))).mono (by omega));have el:(L.take j).length=j:=by rw[pJ];omega
  have et:L.take (j+1)=L.take j++[L.getD j 0]:=by
   rw[aK,bI (by omega),bE,bI (by omega)];rfl
  rw[et]at key;have ap:=fun S' h=>wS.app uO (b:=0) (S:=[.arr (zO (L.take j)) (some g) false,.arr [qc (L.getD j 0)] none false,.arr [qc (L.getD j 0)] (some (some 3)) false]) (S':=S') (id:=0) (j:=2) (L.take j) (L.getD j 0) g hg (by omega) (by omega) true (by decide) rfl rfl h;have ap:=ap _ (by simp only[pF,aA,yF,xG,yP,wS.rrefs];rfl);rw[el]at ap;apply zC;(repeat((conv=>lhs;whnf);simp only[go_sem,simprocAttr,h1,h2,h4,bD,cp,ap,wS.rrefs]));exact key
theorem KQ (L:QL) (h:Co L 200) {e:Bool} (he:e=true→L=[]):callL Tryz.prog zD 39 [.sl (zO L) e]=some (.tup [.sl (zO L) false,.int .i64 0]):=by
 have va:=fun S=>uk S L h he;obtain⟨g',hg',key⟩:=KP L h e [.blk 0,.seq 0 31] L.length 0 (by omega) none (.inl rfl);apply FX.retV ok39_ 1000 rfl rfl
 ·(repeat((conv=>lhs;whnf);simp only[go_sem,simprocAttr,va]));apply key;apply zR;((repeat((conv=>lhs;whnf);simp only[go_sem,simprocAttr]));try rfl)
 ·exact wS.tupV rfl rfl
theorem KR (S:zA) (L:QL) (h:Co L 200) {e:Bool} (he:e=true→L=[]):zQ (callL Tryz.prog zD) S 39 [.sl (zO L) e]=some {v:=.tup [.sl (zO L) false,.int .i64 0]} := zE (KQ L h he) (by simp[KN he])
end
end
section
theorem zDW (S:zA) (q:Rat) (hq:ze q 4096):zQ (callL Tryz.prog zD) S 85 [.agg (qc q),.int .i64 4096]=some {v:=.bool true} := zE (by
 have:=Xb q 4096;rw[pM (by have:=hq.1;omega),pM (by have:=hq.2;omega)]at this;exact this) (by simp[vc,zW.int])
theorem Qb {L:QL} {w:Nat} (hl:L.length≤41) (hw : ∀i,ze (L.getD i 0) w):Co (xQ L) w:=by
 refine⟨bF (zAZ L) hl,fun q hq=>?_,fun h=>Jb L h⟩;obtain⟨i,hi,rfl⟩:=List.mem_iff_getElem.1 hq;have:=hw i;rw[←WY hi,bE,bI hi]at this;exact this
theorem KT {L:QL} {w:Nat} (h1:1≤w) (h : ∀q∈L,ze q w) (i:Nat):ze (L.getD i 0) w:=by
 by_cases hi:i<L.length
 ·exact h _ (xK hi)
 ·rw[bE,bY (by omega)];exact jB.mono h1
theorem Jo (x:Rat) (hx:ze x 2) : ∀L:QL,(∀q∈L,ze q 2)→ze (vD x L) (5*L.length+1)
 | [],_=>jB.mono (by omega)
 | c::r,h=>by
  have:=Jo x hx r fun q hq=>h q (by simp[hq]);exact (XM (kM this hx) (h c (by simp))).mono (by simp only[bP];omega)
theorem zCC {a b:QL} (hL:a.length≤9) (hM:b.length≤9) (ha : ∀q∈a,ze q 2) (hb : ∀q∈b,ze q 2):Co (xQ (wQ a b)) 200:=Qb (by rw[ug];omega) fun i=>by
 rw[XJ];exact (XM (KT (by omega) ha i) (KT (by omega) hb i)).mono (by omega)
theorem zCD {a b:QL} (hL:a.length≤9) (hM:b.length≤9) (ha : ∀q∈a,ze q 2) (hb : ∀q∈b,ze q 2) (h0:a≠[]) (h1:b≠[]):Co (zA1 a b) 200:=by
 have p0:=aR.2 h0;have p1:=aR.2 h1;refine Qb (by rw[kL,sY];omega) fun i=>?_;have:=KL hb a (List.replicate (a.length+b.length-1) 0) 0 1 ha (by rw[sY];omega) (fun t=>by rw[VW];exact jB) i;exact this.mono (by omega)
theorem zCE {a:QL} (hL:a.length≤9) (ha : ∀q∈a,ze q 2) (hl:a.length≠0→a.getD (a.length-1) 0≠0):Co (wR a) 200:=by
 have hg : ∀i,i<a.length-1→(wR a).getD i 0=((i+1:Nat):Rat)*a.getD (i+1) 0:=fun i hi=>by
  unfold wR;rw[bE,pB,sX hi];rfl
 refine⟨by rw[vA];omega,fun q hq=>?_,fun h=>?_⟩
 ·obtain⟨i,hi,rfl⟩:=List.mem_iff_getElem.1 hq;have hi':=hi;rw[vA]at hi';have:=hg i hi';rw[bE,bI hi]at this;rw[show (wR a)[i]=_ from this];exact (kM (zBz (by omega)) (KT (by omega) ha _)).mono (by omega)
 ·rw[vA]at h ⊢;rw[hg _ (by omega),show a.length-1-1+1=a.length-1 by omega];intro e
  rcases Rat.mul_eq_zero.1 e with e | e
  ·have:(a.length-1:Nat)=0:=by
    have:=congrArg Rat.num e;have e2:(((a.length-1:Nat):Rat)).num=((a.length-1:Nat):Int):=rfl;rw[e2]at this;have e3:(0:Rat).num=0:=rfl;rw[e3]at this;omega
   omega
  ·exact hl (by omega) e
section
attribute [local irreducible] Vs.callL Vs.callRL tyi zQ yE zm zV zk zb zK zf zF zT zl zi zJ zL zj yB yO yD zN zh Vs.gc zH
noncomputable def zGn:FX:=⟨Tryz.f51,zD.of 51,[]⟩
instance ok51_:zGn.ok 51:=FX.mk'
theorem Xd (q:Rat) (hq:ze q 4096):callL Tryz.prog zD 51 [.agg (qc q)]=some (.tup [.agg (qc q),.int .i64 0]):=by
 have fi:=fun S=>zDW S q hq;have cp:=fun S=>Q9 S q hq;apply FX.retV ok51_ 1000 rfl rfl
 ·((repeat((conv=>lhs;whnf);simp only[go_sem,simprocAttr,fi,cp]));try rfl)
 ·rfl
noncomputable def zGo:FX:=⟨Tryz.f18,zD.of 18,[]⟩
instance ok18_:zGo.ok 18:=FX.mk'
theorem KU (L:QL) (x:Rat) (h:Co L 2) (hL:L.length≤9) (hx:ze x 2):callL Tryz.prog zD 18 [.sl (zO L) false,.agg (qc x)]=some (.tup [.agg (qc (vD x L)),.int .i64 0]):=by
 have h2:Co L 200:=⟨h.len,fun q hq=>(h.fit q hq).mono (by omega),h.last⟩;have va:=fun S=>uk S L h2 (e:=false) (fun e=>by cases e);have sm:=fun S=>W4 S x (hx.mono (by omega));have ev:=fun S=>zE (S:=S) (Ji L x hL h.fit hx) (by simp[zW.sl,vc]);have hw:=Jo x hx L h.fit;have nu:=fun S=>zE (S:=S) (Xd (vD x L) (hw.mono (by omega))) (by simp[vc]);apply FX.retV ok18_ 1000 rfl rfl
 ·((repeat((conv=>lhs;whnf);simp only[go_sem,simprocAttr,va,sm,ev,nu]));try rfl)
 ·rfl
noncomputable def zGp:FX:=⟨Tryz.f32,zD.of 32,[]⟩
instance ok32_:zGp.ok 32:=FX.mk'
theorem Zf (a b M:QL) (ha:Co a 200) (hb:Co b 200) (f:FuncId) (hf:zD.refs f=false) {e:Bool} (he:e=true→M=[]) (hM:Co M 200) (hc:callL Tryz.prog zD f [.sl (zO a) false,.sl (zO b) false]=some (.sl (zO M) e)):callL Tryz.prog zD 32 [.sl (zO a) false,.sl (zO b) false,.fn f [] []]=some (.tup [.sl (zO M) false,.int .i64 0]):=by
 have va:=fun S=>uk S a ha (e:=false) (fun e=>by cases e);have vb:=fun S=>uk S b hb (e:=false) (fun e=>by cases e);have cf:=fun S=>VX (S:=S) hf hc (by simp[zW.sl]);have li:=fun S=>KR S M hM he;apply FX.retV ok32_ 1000 rfl rfl
 ·((repeat((conv=>lhs;whnf);simp only[go_sem,simprocAttr,va,vb,cf,li]));try rfl)
 ·show (yG (yZ []) [.sl (zO M) false,.int .i64 0]).map PV.tup=_
  have h':yZ [] (.sl (zO M) false)=some (.sl (zO M) false):=(zW.sl _).2 [];simp only[yG,h',bC];rfl
noncomputable def zGq:FX:=⟨Tryz.f19,zD.of 19,[]⟩
instance ok19_:zGq.ok 19:=FX.mk'
theorem Jp (a b:QL) (ha:Co a 2) (hb:Co b 2) (hL:a.length≤9) (hM:b.length≤9):callL Tryz.prog zD 19 [.sl (zO a) false,.sl (zO b) false]=some (.tup [.sl (zO (xQ (wQ a b))) false,.int .i64 0]):=by
 have ha2:Co a 200:=⟨ha.len,fun q hq=>(ha.fit q hq).mono (by omega),ha.last⟩;have hb2:Co b 200:=⟨hb.len,fun q hq=>(hb.fit q hq).mono (by omega),hb.last⟩;have pr:=fun S=>zE (S:=S) (Zf a b _ ha2 hb2 53 (by kernel_rfl) (e:=false) (fun e=>by cases e) (zCC hL hM ha.fit hb.fit) (zA4 a b hL hM ha.fit hb.fit)) (by simp[zW.sl];exact⟨rfl,fun _=>rfl⟩);apply FX.retV ok19_ 1000 rfl rfl
 ·((repeat((conv=>lhs;whnf);simp only[go_sem,simprocAttr,pr]));try rfl)
 ·show (yG (yZ []) [.sl (zO (xQ (wQ a b))) false,.int .i64 0]).map PV.tup=_
  have h':yZ [] (.sl (zO (xQ (wQ a b))) false)=some (.sl (zO (xQ (wQ a b))) false):=(zW.sl _).2 [];simp only[yG,h',bC];rfl
def Zg (a b:QL):QL:=if a=[]∨b=[] then [] else zA1 a b
noncomputable def zGr:FX:=⟨Tryz.f11,zD.of 11,[]⟩
instance ok11_:zGr.ok 11:=FX.mk'
theorem Jq (a b:QL) (ha:Co a 2) (hb:Co b 2) (hL:a.length≤9) (hM:b.length≤9):callL Tryz.prog zD 11 [.sl (zO a) false,.sl (zO b) false]=some (.tup [.sl (zO (Zg a b)) false,.int .i64 0]):=by
 have ha2:Co a 200:=⟨ha.len,fun q hq=>(ha.fit q hq).mono (by omega),ha.last⟩;have hb2:Co b 200:=⟨hb.len,fun q hq=>(hb.fit q hq).mono (by omega),hb.last⟩;have um:=zA7 a b hL hM ha.fit hb.fit;obtain⟨e,M,he,hM',hc,hq⟩ : ∃(e:Bool) (M:QL),(e=true→M=[])∧Co M 200∧callL Tryz.prog zD 37 [.sl (zO a) false,.sl (zO b) false]=some (.sl (zO M) e)∧Zg a b=M:=by
  unfold Zg;by_cases h0:a=[]∨b=[]
  ·rw[hZ h0]at um ⊢;exact⟨true,[],fun _=>rfl,⟨by decide,fun q hq=>(by cases hq),fun h=>absurd rfl h⟩,um,rfl⟩
  ·rw[hI h0]at um ⊢;exact⟨false,_,fun e=>(by cases e),zCD hL hM ha.fit hb.fit (fun h=>h0 (.inl h)) (fun h=>h0 (.inr h)),um,rfl⟩
 rw[hq];have pr:=fun S=>zE (S:=S) (Zf a b _ ha2 hb2 37 (by kernel_rfl) he hM' hc) (by simp[zW.sl];exact⟨rfl,fun _=>rfl⟩);apply FX.retV ok11_ 1000 rfl rfl
 ·((repeat((conv=>lhs;whnf);simp only[go_sem,simprocAttr,pr]));try rfl)
 ·show (yG (yZ []) [.sl (zO M) false,.int .i64 0]).map PV.tup=_
  have h':yZ [] (.sl (zO M) false)=some (.sl (zO M) false):=(zW.sl _).2 [];simp only[yG,h',bC];rfl
noncomputable def zGs:FX:=⟨Tryz.f20,zD.of 20,[]⟩
instance ok20_:zGs.ok 20:=FX.mk'
theorem V1 (a:QL) (ha:Co a 2) (hL:a.length≤9):callL Tryz.prog zD 20 [.sl (zO a) false]=some (.tup [.sl (zO (wR a)) false,.int .i64 0]):=by
 have ha2:Co a 200:=⟨ha.len,fun q hq=>(ha.fit q hq).mono (by omega),ha.last⟩;have va:=fun S=>uk S a ha2 (e:=false) (fun e=>by cases e);have de:=fun S=>zE (S:=S) (KO a hL ha.fit) (by simp[zW.sl]);have li:=fun S=>KR S (wR a) (zCE hL ha.fit ha.last) (e:=false) (fun e=>by cases e);apply FX.retV ok20_ 1000 rfl rfl
 ·((repeat((conv=>lhs;whnf);simp only[go_sem,simprocAttr,va,de,li]));try rfl)
 ·show (yG (yZ []) [.sl (zO (wR a)) false,.int .i64 0]).map PV.tup=_
  have h':yZ [] (.sl (zO (wR a)) false)=some (.sl (zO (wR a)) false):=(zW.sl _).2 [];simp only[yG,h',bC];rfl
end
end
section
structure RN where
 neg:Bool
 num:List Int
 den:List Int
def rn0:RN:=⟨false,[],[]⟩
def RN.cells (v:RN):List PV:=[.bool v.neg,.sl (zB .u32 v.num) false,.sl (zB .u32 v.den) false]
structure RN.ok (v:RN):Prop where
 n:OkD WB v.num
 d:OkD WB v.den
 ln:v.num.length≤maxLen
 ld:v.den.length≤maxLen
def wG (L:List RN):List (List PV):=L.map RN.cells
theorem zGt:EncT RN.cells 3:=⟨fun _=>rfl,fun _=>rfl,fun _ _ _=>rfl,by decide⟩
@[go_sem] theorem zDX (L:List RN):(wG L).length=L.length:=nr (by simp[wG])
@[go_sem] theorem zIF (S:zA) (L:List RN) (ex:Bool) (i:Int):zK Tryz.prog 22 S (.sl (wG L) ex) (.int .i64 i)=if 0≤i∧i<L.length then some (.cp (L.getD i.toNat rn0).cells) else none:=nr (uO.idx zGt.len rn0 S L ex i)
@[go_sem] theorem zHa (v:RN):part (tyi Tryz.prog 42) v.cells=some (.agg v.cells):=nr (by simp[RN.cells,part,ZT,TI.isAgg,wn,Yp])
@[go_sem] theorem zHb (v:RN):v.cells.all PV.cell=true:=nr rfl
@[go_sem] theorem zIG (v:RN):v.cells.length=3:=nr rfl
@[go_sem] theorem zHc (v:RN):xa v.cells=[]:=nr rfl
theorem XS (v:RN):zW (.agg v.cells):=Ys v.neg v.num v.den
def RN.short (v:RN) (w:Nat):Bool:=decide (v.num.length≤w)&&decide (v.den.length≤w)
def RN.valid (v:RN):Bool:=vN v.neg v.num v.den 4096
def YI (L:List RN):Bool:=decide (L.length≤41)&&((L.all fun v=>v.short 200&&v.valid)&&(decide (L.length=0)||decide (0<(L.getD (L.length-1) rn0).num.length)))
def jV (L:List RN) (n w:Nat):Bool:=decide (L.length≤n)&&((L.all fun v=>v.short w)&&YI L)
theorem Qc {L:List RN} {i:Nat} (h:i<L.length):L.drop i=L.getD i rn0::L.drop (i+1):=by
 rw[PC h];simp[bE,h]
theorem zEu {L:List RN} {i:Nat} (h:i<L.length):L.getD i rn0∈L:=by
 rw[bE,bI h];exact BY _
section
attribute [local irreducible] Vs.callL Vs.callRL tyi zQ yE zm zV zk zb zK zf zF zT zl zi zJ zL zj yB yO yD zN zh Vs.gc zH
theorem V2 (v:RN) (w:Nat):callL Tryz.prog zD 30 [.agg v.cells,.int .i64 w]=some (.bool (v.short w)):=by
 have e1:decide ((v.num.length:Int)≤(w:Int))=decide (v.num.length≤w):=decide_eq_decide.2 (by omega);have e2:decide ((v.den.length:Int)≤(w:Int))=decide (v.den.length≤w):=decide_eq_decide.2 (by omega);unfold RN.short RN.cells;rw[←e1,←e2];by_cases h:(v.num.length:Int)≤w
 ·simp only[h,decide_true,pQ];apply FX.retB ok30_ 1000 rfl rfl;((repeat((conv=>lhs;whnf);simp only[go_sem,simprocAttr,h]));try rfl)
 ·simp only[h,decide_false,pS];apply FX.retB ok30_ 1000 rfl rfl;((repeat((conv=>lhs;whnf);simp only[go_sem,simprocAttr,h]));try rfl)
theorem qG (S:zA) (v:RN) (w:Nat):zQ (callL Tryz.prog zD) S 30 [.agg v.cells,.int .i64 w]=some {v:=.bool (v.short w)} := zE (V2 v w) (by simp[XS,zW.int])
theorem XT (S:zA) (v:RN) (h:v.ok):zQ (callL Tryz.prog zD) S 49 [.agg v.cells]=some {v:=.bool v.valid} := zE (Xc v.neg v.num v.den h.n h.d (by have:=h.ln;unfold maxLen at this;omega) (by have:=h.ld;unfold maxLen at this;omega)) (by simp[XS])
noncomputable def Qd:FX:=⟨Tryz.f31,zD.of 31,[]⟩
instance ok31_:Qd.ok 31:=FX.mk'
theorem V3 (L:List RN) (hl:L.length≤41) (ho : ∀v∈L,v.ok) : ∀m j,j+m=L.length→((L.drop j).all (fun v=>v.short 200&&v.valid)=true→∀z:PV × zA,zZ 0 Qd 0 [.blk 0,.seq 0 15] [(0,.sl (wG L) false),(8,.undef),(9,.undef),(10,.undef),(11,.undef)] []=some z→zS 0 Qd 0 116 0 [.blk 0,.seq 0 15] [(0,.sl (wG L) false),(8,.sl (wG L) false),(9,.int .i64 L.length),(10,.int .i64 j)] []=some z)∧((L.drop j).all (fun v=>v.short 200&&v.valid)=false→∃S',zS 0 Qd 0 116 0 [.blk 0,.seq 0 15] [(0,.sl (wG L) false),(8,.sl (wG L) false),(9,.int .i64 L.length),(10,.int .i64 j)] []=some (.bool false,S')):=by
 intro m
 induction m with
 | zero =>
  intro j hj;have h1 : ¬(j:Int)<(L.length:Int):=by omega
  rw[pA (by omega)];refine⟨fun _ z hz=>?_,fun e=>by cases e⟩;apply zC;(repeat((conv=>lhs;whnf);simp only[go_sem,simprocAttr,h1]));exact hz
 | succ m ih =>
  intro j hj;have h1:(j:Int)<(L.length:Int):=by omega
  have h2:IntKind.i64.wrap ((j:Int)+1)=((j+1:Nat):Int):=by rw[bA];omega
  have h4:0≤(j:Int)∧(j:Int)<(L.length:Int):=⟨by omega,h1⟩;obtain⟨k1,k2⟩:=ih (j+1) (by omega);have sh:=fun S=>qG S (L.getD j rn0) 200;rw[show ((200:Nat):Int)=200 from rfl]at sh;have va:=fun S=>XT S (L.getD j rn0) (ho _ (zEu (by omega)));rw[Qc (by omega),aY]
  cases e1:(L.getD j rn0).short 200
  ·rw[e1]at sh;refine⟨fun e=>by simp at e,fun _=>?_⟩;apply Exists.intro;apply zC;((repeat((conv=>lhs;whnf);simp only[go_sem,simprocAttr,h1,h4,bD,sh]));try rfl)
  rw[e1]at sh
  cases e2:(L.getD j rn0).valid
  ·rw[e2]at va;refine⟨fun e=>by simp at e,fun _=>?_⟩;apply Exists.intro;apply zC;((repeat((conv=>lhs;whnf);simp only[go_sem,simprocAttr,h1,h4,bD,sh,va]));try rfl)
  rw[e2]at va;rw[pQ,pQ];refine⟨fun e z hz=>?_,fun e=>?_⟩
  ·have key:=k1 e z hz;apply zC;(repeat((conv=>lhs;whnf);simp only[go_sem,simprocAttr,h1,h2,h4,bD,sh,va]));exact key
  ·obtain⟨S',key⟩:=k2 e;refine⟨S',?_⟩;apply zC;(repeat((conv=>lhs;whnf);simp only[go_sem,simprocAttr,h1,h2,h4,bD,sh,va]));exact key
theorem V4 (L:List RN) (hm:L.length≤maxLen) (ho : ∀v∈L,v.ok):callL Tryz.prog zD 31 [.sl (wG L) false]=some (.bool (YI L)):=by
 unfold YI;by_cases g:(41:Int)<(L.length:Int)
 ·rw[sA (by omega),pS];apply FX.retB ok31_ 1000 rfl rfl;((repeat((conv=>lhs;whnf);simp only[go_sem,simprocAttr,g]));try rfl)
 rw[pM (show L.length≤41 by omega),pQ];obtain⟨k1,k2⟩:=V3 L (by omega) ho L.length 0 (by omega);rw[pH]at k1 k2
 cases e:L.all (fun v=>v.short 200&&v.valid)
 ·obtain⟨S',key⟩:=k2 e;rw[pS];apply FX.retB ok31_ 1000 rfl rfl;(repeat((conv=>lhs;whnf);simp only[go_sem,simprocAttr,g]));exact key
 ·rw[pQ];have key:=k1 e;by_cases h0:L.length=0
  ·have g0:(L.length:Int)=0:=by omega
   rw[pM h0,Bool.true_or];apply FX.retB ok31_ 1000 rfl rfl;(repeat((conv=>lhs;whnf);simp only[go_sem,simprocAttr,g]));apply key;apply zR;((repeat((conv=>lhs;whnf);simp only[go_sem,simprocAttr,g0]));try rfl)
  ·have g0 : ¬(L.length:Int)=0:=by omega
   have g2:IntKind.i64.wrap ((L.length:Int)-1)=((L.length-1:Nat):Int):=by rw[bA];omega
   have g4:0≤((L.length-1:Nat):Int)∧((L.length-1:Nat):Int)<(L.length:Int):=⟨by omega,by omega⟩;rw[sA h0,HI];generalize hv:L.getD (L.length-1) rn0=v at *;have g5:decide (0<v.num.length)=decide ((0:Int)<(v.num.length:Int)):=decide_eq_decide.2 (by omega);rw[g5];apply FX.retB ok31_ 1000 rfl rfl;(repeat((conv=>lhs;whnf);simp only[go_sem,simprocAttr,g]));apply key;apply zR;((repeat((conv=>lhs;whnf);simp only[go_sem,simprocAttr,g0,g2,g4,bD,hv,RN.cells]));try rfl)
noncomputable def zDY:FX:=⟨Tryz.f6,zD.of 6,[]⟩
instance ok6_:zDY.ok 6:=FX.mk'
theorem V5 (L:List RN) (w:Nat) (hl:L.length≤41) : ∀m j,j+m=L.length→((L.drop j).all (fun v=>v.short w)=true→∀z:PV × zA,zZ 0 zDY 0 [.blk 0,.seq 0 15] [(0,.sl (wG L) false),(2,.undef),(13,.undef),(14,.undef),(15,.undef),(16,.undef)] []=some z→zS 0 zDY 0 116 0 [.blk 0,.seq 0 15] [(0,.sl (wG L) false),(2,.int .i64 w),(13,.sl (wG L) false),(14,.int .i64 L.length),(15,.int .i64 j)] []=some z)∧((L.drop j).all (fun v=>v.short w)=false→∃S',zS 0 zDY 0 116 0 [.blk 0,.seq 0 15] [(0,.sl (wG L) false),(2,.int .i64 w),(13,.sl (wG L) false),(14,.int .i64 L.length),(15,.int .i64 j)] []=some (.bool false,S')):=by
 intro m
 induction m with
 | zero =>
  intro j hj;have h1 : ¬(j:Int)<(L.length:Int):=by omega
  rw[pA (by omega)];refine⟨fun _ z hz=>?_,fun e=>by cases e⟩;apply zC;(repeat((conv=>lhs;whnf);simp only[go_sem,simprocAttr,h1]));exact hz
 | succ m ih =>
  intro j hj;have h1:(j:Int)<(L.length:Int):=by omega
  have h2:IntKind.i64.wrap ((j:Int)+1)=((j+1:Nat):Int):=by rw[bA];omega
  have h4:0≤(j:Int)∧(j:Int)<(L.length:Int):=⟨by omega,h1⟩;obtain⟨k1,k2⟩:=ih (j+1) (by omega);have sh:=fun S=>qG S (L.getD j rn0) w;rw[Qc (by omega),aY]
  cases e1:(L.getD j rn0).short w
  ·rw[e1]at sh;refine⟨fun e=>by simp at e,fun _=>?_⟩;apply Exists.intro;apply zC;((repeat((conv=>lhs;whnf);simp only[go_sem,simprocAttr,h1,h4,bD,sh]));try rfl)
  rw[e1]at sh;rw[pQ];refine⟨fun e z hz=>?_,fun e=>?_⟩
  ·have key:=k1 e z hz;apply zC;(repeat((conv=>lhs;whnf);simp only[go_sem,simprocAttr,h1,h2,h4,bD,sh]));exact key
  ·obtain⟨S',key⟩:=k2 e;refine⟨S',?_⟩;apply zC;(repeat((conv=>lhs;whnf);simp only[go_sem,simprocAttr,h1,h2,h4,bD,sh]));exact key
theorem ZD (L:List RN) (n w:Nat) (hn:n≤41) (hm:L.length≤maxLen) (ho : ∀v∈L,v.ok):callL Tryz.prog zD 6 [.sl (wG L) false,.int .i64 n,.int .i64 w]=some (.bool (jV L n w)):=by
 unfold jV;by_cases g:(n:Int)<(L.length:Int)
 ·rw[sA (by omega),pS];apply FX.retB ok6_ 1000 rfl rfl;((repeat((conv=>lhs;whnf);simp only[go_sem,simprocAttr,g]));try rfl)
 rw[pM (show L.length≤n by omega),pQ];obtain⟨k1,k2⟩:=V5 L w (by omega) L.length 0 (by omega);rw[pH]at k1 k2;have va:=fun S=>zE (S:=S) (V4 L hm ho) (by simp[zW.sl])
 cases e:L.all (fun v=>v.short w)
 ·obtain⟨S',key⟩:=k2 e;rw[pS];apply FX.retB ok6_ 1000 rfl rfl;(repeat((conv=>lhs;whnf);simp only[go_sem,simprocAttr,g]));exact key
 ·rw[pQ];have key:=k1 e;apply FX.retB ok6_ 1000 rfl rfl;(repeat((conv=>lhs;whnf);simp only[go_sem,simprocAttr,g]));apply key;apply zR;((repeat((conv=>lhs;whnf);simp only[go_sem,simprocAttr,va]));try rfl)
end
theorem XU {L:List RN} {n w:Nat} (ho : ∀v∈L,v.ok) (h:jV L n w=true) : ∃Q:QL,wG L=zO Q∧Co Q w∧Q.length≤n:=by
 unfold jV YI at h;simp only[bS,BO,sL,pN]at h;obtain⟨h1,h2,h3,h4,h5⟩:=h;have key : ∀l:List RN,(∀v∈l,v∈L)→∃Q:QL,wG l=zO Q∧(∀q∈Q,ze q w)∧Q.length=l.length∧∀i,(l.getD i rn0).num.length=(words (Q.getD i 0).num.natAbs).length:=by
  intro l
  induction l with
  | nil =>
   intro _;refine⟨[],rfl,fun q hq=>(by cases hq),rfl,fun i=>?_⟩;rw[bE,bE,List.getElem?_nil,List.getElem?_nil];exact (zx.2 rfl).symm
  | cons v r ih =>
   intro hv;obtain⟨Q,q1,q2,q3,q4⟩:=ih fun x hx=>hv x (by simp[hx]);have hm:=hv v (by simp);obtain⟨s1,s2⟩:=h4 v hm;have hs:=h2 v hm;obtain⟨q,e1,e2,e3,_⟩:=(Yu (ho v hm).n (ho v hm).d).1 s2;unfold RN.short at hs;simp only[bS,sL]at hs;rw[e2,e3]at hs;refine⟨q::Q,?_,fun x hx=>?_,by simp[q3],fun i=>?_⟩
   ·have c1:v.cells=qc q:=by unfold RN.cells qc zo zt;rw[e1,e2,e3]
    show v.cells::wG r=qc q::zO Q
    rw[c1,q1]
   ·rcases BD.1 hx with rfl | hx
    ·exact hs
    ·exact q2 x hx
   ·cases i with
    | zero=>show v.num.length=_;rw[e2];rfl
    | succ i=>exact q4 i
 obtain⟨Q,q1,q2,q3,q4⟩:=key L fun v hv=>hv;refine⟨Q,q1,⟨by omega,q2,fun h0 e=>?_⟩,by omega⟩
 rcases h5 with h5 | h5
 ·omega
 ·rw[←q3,q4,e]at h5;have:(words (0:Rat).num.natAbs).length=0:=zx.2 rfl;omega
end
section
@[go_sem] theorem zGu (id n:Nat) (is:List Nat) (rows:List (List PV)):zJ Tryz.prog 26 id n is rows=if is=List.range n∧zq 3 rows=true∧(rows.all fun r=>r.all PV.cell)=true∧n*3≤16777216 then some {v:=.msl id 0 n true,new:=some (rows,some (some 3))} else none:=jC.buildSlice (by decide) id n is rows
theorem ul (L:QL):zW (.sl (zn L) false):=zW.sl _
theorem un (q:Rat):zW (.agg (rc q)):=zAX q
theorem zEC (S:zA) (q:Rat) (hq:ze q 4096):zQ (callL Tryz.prog zD) S 23 [.agg (qc q)]=some {v:=.agg (rc q)} := zE (J8 q (hq.mono (by omega))) (by simp[vc])
theorem zED (S:zA) (q:Rat) (hq:Zs q 300000):zQ (callL Tryz.prog zD) S 56 [.agg (rc q)]=some {v:=.agg (qc q)} := zE (J9 q (hq.mono (by omega))) (by simp[un])
theorem V6 (S:zA) (q r:Rat) (hq:ze q 4096) (hr:ze r 4096):zQ (callL Tryz.prog zD) S 43 [.agg (rc q),.agg (rc r)]=some {v:=.agg (rc (q*r))} := zE (KG q r (hq.dec.mono (by omega)) (hr.dec.mono (by omega))) (by simp[un])
theorem V7 (S:zA) (q r:Rat) (hq:ze q 4096) (hr:ze r 4096):zQ (callL Tryz.prog zD) S 42 [.agg (rc q),.agg (rc r)]=some {v:=.agg (rc (q+r))} := zE (KH q r (hq.dec.mono (by omega)) (hr.dec.mono (by omega))) (by simp[un])
theorem V8 (S:zA):zQ (callL Tryz.prog zD) S 41 []=some {v:=.agg (rc 0)} := zE qx (by simp)
theorem zEv (S:zA):zQ (callL Tryz.prog zD) S 57 []=some {v:=.agg (rc 1)} := zE KF (by simp)
theorem zDZ (S:zA) (q:Rat):zQ (callL Tryz.prog zD) S 77 [.agg (rc q)]=some {v:=.int .i64 (kK q)} := zE (VS q) (by simp[un])
theorem ZZ {L:QL} {j:Nat} (h:j<L.length):L.take (j+1)=L.take j++[L.getD j 0]:=by
 rw[aK,bI h,bE,bI h];rfl
section
attribute [local irreducible] Vs.callL Vs.callRL tyi zQ yE zm zV zk zb zK zf zF zT zl zi zJ zL zj yB yO yD zN zh Vs.gc zH
noncomputable def zEw:FX:=⟨Tryz.f7,zD.of 7,[]⟩
instance ok7_:zEw.ok 7:=FX.mk'
theorem zCF (L:QL) (hl:L.length≤41) (hw : ∀q∈L,ze q 4096) (fs:List Fr) : ∀m j,j+m=L.length→∀g:Option Nat,(g=none∨g=some 3)→∃g':Option Nat,(g'=none∨g'=some 3)∧∀z:PV × zA,zZ 0 zEw 0 fs [(3,.msl 0 0 L.length false),(6,.undef),(7,.undef),(8,.undef),(9,.undef)] [.arr (zn L) (some g') false]=some z→zS 0 zEw 0 116 1 fs [(3,.msl 0 0 j false),(6,.sl (zO L) false),(7,.int .i64 L.length),(8,.int .i64 j)] [.arr (zn (L.take j)) (some g) false]=some z:=by
 intro m
 induction m with
 | zero =>
  intro j hj g hg;refine⟨g,hg,fun z hz=>?_⟩;have h1 : ¬(j:Int)<(L.length:Int):=by omega
  have ej:j=L.length:=by omega
  rw[pZ (by omega),ej];rw[ej]at h1;apply zC;(repeat((conv=>lhs;whnf);simp only[go_sem,simprocAttr,h1]));exact hz
 | succ m ih =>
  intro j hj g hg;obtain⟨g',hg',key⟩:=ih (j+1) (by omega) (some 3) (.inr rfl);refine⟨g',hg',fun z hz=>?_⟩
  replace key:=key z hz
  clear hz;have h1:(j:Int)<(L.length:Int):=by omega
  have h2:IntKind.i64.wrap ((j:Int)+1)=((j+1:Nat):Int):=by rw[bA];omega
  have h4:0≤(j:Int)∧(j:Int)<(L.length:Int):=⟨by omega,h1⟩;have cp:=fun S=>zEC S (L.getD j 0) (hw _ (xK (by omega)));have el:(L.take j).length=j:=by rw[pJ];omega
  rw[ZZ (by omega)]at key;have ap:=fun S' h=>wo.app jC (b:=0) (S:=[.arr (zn (L.take j)) (some g) false,.arr [qc (L.getD j 0)] none false,.arr [rc (L.getD j 0)] (some (some 3)) false]) (S':=S') (id:=0) (j:=2) (L.take j) (L.getD j 0) g hg (by omega) (by omega) true (by decide) rfl rfl h;have ap:=ap _ (by simp only[pF,aA,yF,xG,yP,wo.rrefs];rfl);rw[el]at ap;apply zC;(repeat((conv=>lhs;whnf);simp only[go_sem,simprocAttr,h1,h2,h4,bD,cp,ap,wo.rrefs]));exact key
theorem KV (L:QL) (hl:L.length≤41) (hw : ∀q∈L,ze q 4096):callL Tryz.prog zD 7 [.sl (zO L) false]=some (.sl (zn L) false):=by
 obtain⟨g',hg',key⟩:=zCF L hl hw [.blk 0,.seq 0 15] L.length 0 (by omega) none (.inl rfl);apply FX.retV ok7_ 1000 rfl rfl
 ·(repeat((conv=>lhs;whnf);simp only[go_sem,simprocAttr]));apply key;apply zR;((repeat((conv=>lhs;whnf);simp only[go_sem,simprocAttr]));try rfl)
 ·exact wo.fzV rfl rfl
noncomputable def zCG:FX:=⟨Tryz.f35,zD.of 35,[]⟩
instance ok35_:zCG.ok 35:=FX.mk'
theorem zCH (L:QL) (hl:L.length≤41) (hw : ∀q∈L,ze q 4096) (fs:List Fr) : ∀m j,j+m=L.length→∀g:Option Nat,(g=none∨g=some 3)→∃g':Option Nat,(g'=none∨g'=some 3)∧∀z:PV × zA,zZ 0 zCG 0 fs [(3,.msl 0 0 L.length false),(6,.undef),(7,.undef),(8,.undef),(9,.undef)] [.arr (zO L) (some g') false]=some z→zS 0 zCG 0 116 1 fs [(3,.msl 0 0 j false),(6,.sl (zn L) false),(7,.int .i64 L.length),(8,.int .i64 j)] [.arr (zO (L.take j)) (some g) false]=some z:=by
 intro m
 induction m with
 | zero =>
  intro j hj g hg;refine⟨g,hg,fun z hz=>?_⟩;have h1 : ¬(j:Int)<(L.length:Int):=by omega
  have ej:j=L.length:=by omega
  rw[pZ (by omega),ej];rw[ej]at h1;apply zC;(repeat((conv=>lhs;whnf);simp only[go_sem,simprocAttr,h1]));exact hz
 | succ m ih =>
  intro j hj g hg;obtain⟨g',hg',key⟩:=ih (j+1) (by omega) (some 3) (.inr rfl);refine⟨g',hg',fun z hz=>?_⟩
  replace key:=key z hz
  clear hz;have h1:(j:Int)<(L.length:Int):=by omega
  have h2:IntKind.i64.wrap ((j:Int)+1)=((j+1:Nat):Int):=by rw[bA];omega
  have h4:0≤(j:Int)∧(j:Int)<(L.length:Int):=⟨by omega,h1⟩;have cp:=fun S=>zED S (L.getD j 0) ((hw _ (xK (by omega))).dec.mono (by omega));have el:(L.take j).length=j:=by rw[pJ];omega
  rw[ZZ (by omega)]at key;have ap:=fun S' h=>wS.app uO (b:=0) (S:=[.arr (zO (L.take j)) (some g) false,.arr [rc (L.getD j 0)] none false,.arr [qc (L.getD j 0)] (some (some 3)) false]) (S':=S') (id:=0) (j:=2) (L.take j) (L.getD j 0) g hg (by omega) (by omega) true (by decide) rfl rfl h;have ap:=ap _ (by simp only[pF,aA,yF,xG,yP,wS.rrefs];rfl);rw[el]at ap;apply zC;(repeat((conv=>lhs;whnf);simp only[go_sem,simprocAttr,h1,h2,h4,bD,cp,ap,wS.rrefs]));exact key
theorem zCI (L:QL) (hl:L.length≤41) (hw : ∀q∈L,ze q 4096):callL Tryz.prog zD 35 [.sl (zn L) false]=some (.sl (zO L) false):=by
 obtain⟨g',hg',key⟩:=zCH L hl hw [.blk 0,.seq 0 15] L.length 0 (by omega) none (.inl rfl);apply FX.retV ok35_ 1000 rfl rfl
 ·(repeat((conv=>lhs;whnf);simp only[go_sem,simprocAttr]));apply key;apply zR;((repeat((conv=>lhs;whnf);simp only[go_sem,simprocAttr]));try rfl)
 ·exact wS.fzV rfl rfl
theorem Qe (S:zA) (q:Rat) (hq:ze q 4096):zQ (callL Tryz.prog zD) S 55 [.agg (qc q),.agg (qc q)]=some {v:=.bool true} := zE (by
 have:=VV (zt q) (zt q) (words q.num.natAbs) (words q.den) (words q.num.natAbs) (words q.den) (by have:=hq.1;omega) (by have:=hq.2;omega);rw[pM ⟨rfl,rfl,rfl⟩]at this;exact this) (by simp[vc])
noncomputable def zEE:FX:=⟨Tryz.f34,zD.of 34,[]⟩
instance ok34_:zEE.ok 34:=FX.mk'
theorem Jr (L:QL) (hl:L.length≤41) (hw : ∀q∈L,ze q 4096) : ∀m j,j+m=L.length→∃S',zS 0 zEE 0 116 0 [.blk 0,.seq 0 15] [(0,.sl (zO L) false),(1,.sl (zO L) false),(12,.int .i64 L.length),(13,.int .i64 j)] []=some (.bool true,S'):=by
 intro m
 induction m with
 | zero =>
  intro j hj;have h1 : ¬(j:Int)<(L.length:Int):=by omega
  apply Exists.intro;apply zC;(repeat((conv=>lhs;whnf);simp only[go_sem,simprocAttr,h1]));apply zR;((repeat((conv=>lhs;whnf);simp only[go_sem,simprocAttr]));try rfl)
 | succ m ih =>
  intro j hj;obtain⟨S',key⟩:=ih (j+1) (by omega);have h1:(j:Int)<(L.length:Int):=by omega
  have h2:IntKind.i64.wrap ((j:Int)+1)=((j+1:Nat):Int):=by rw[bA];omega
  have h4:0≤(j:Int)∧(j:Int)<(L.length:Int):=⟨by omega,h1⟩;have sm:=fun S=>Qe S (L.getD j 0) (hw _ (xK (by omega)));refine⟨S',?_⟩;apply zC;(repeat((conv=>lhs;whnf);simp only[go_sem,simprocAttr,h1,h2,h4,bD,sm]));exact key
theorem Js (L:QL) (hl:L.length≤41) (hw : ∀q∈L,ze q 4096):callL Tryz.prog zD 34 [.sl (zO L) false,.sl (zO L) false]=some (.bool true):=by
 obtain⟨S',key⟩:=Jr L hl hw L.length 0 (by omega);apply FX.retB ok34_ 1000 rfl rfl;(repeat((conv=>lhs;whnf);simp only[go_sem,simprocAttr]));exact key
noncomputable def zIH:FX:=⟨Tryz.f9,zD.of 9,[]⟩
instance ok9_:zIH.ok 9:=FX.mk'
theorem zCJ (L:QL) (hl:L.length≤41) (hw : ∀q∈L,ze q 4096):callL Tryz.prog zD 9 [.sl (zO L) false,.sl (zn L) false]=some (.bool true):=by
 have to:=fun S=>zE (S:=S) (zCI L hl hw) (by simp[ul]);have sm:=fun S=>zE (S:=S) (Js L hl hw) (by simp[zW.sl]);apply FX.retB ok9_ 1000 rfl rfl;((repeat((conv=>lhs;whnf);simp only[go_sem,simprocAttr,to,sm]));try rfl)
noncomputable def zCK:FX:=⟨Tryz.f44,zD.of 44,[]⟩
instance ok44_:zCK.ok 44:=FX.mk'
theorem Jt (L:QL) (hL:L.length≤1000) (fs:List Fr) : ∀n,n≤L.length→∀z:PV × zA,zZ 0 zCK 0 fs [(0,.sl (zn L) false),(3,.int .i64 (wP L n)),(16,.undef)] []=some z→zS 0 zCK 0 56 0 fs [(0,.sl (zn L) false),(3,.int .i64 n)] []=some z:=by
 intro n
 induction n with
 | zero =>
  intro _ z hz;unfold wP at hz;apply zC;(repeat((conv=>lhs;whnf);simp only[go_sem,simprocAttr]));exact hz
 | succ n ih =>
  intro hn z hz;have h2:(0:Int)<((n+1:Nat):Int):=by omega
  have h3:IntKind.i64.wrap (((n+1:Nat):Int)-1)=(n:Int):=by rw[bA];omega
  have h4:0≤(n:Int)∧(n:Int)<(L.length:Int):=⟨by omega,by omega⟩;have sg:=zDZ;unfold wP at hz;by_cases h0:L.getD n 0=0
  ·rw[hZ h0]at hz;have g0:=jD.2 h0;have key:=ih (by omega) z hz;apply zC;(repeat((conv=>lhs;whnf);simp only[go_sem,simprocAttr,h2,h3,h4,bD,sg,g0]));exact key
  ·rw[hI h0]at hz;have g0 : ¬kK (L.getD n 0)=0:=fun h=>h0 (jD.1 h);apply zC;(repeat((conv=>lhs;whnf);simp only[go_sem,simprocAttr,h2,h3,h4,bD,sg,g0]));exact hz
theorem XV (L:QL) (hL:L.length≤1000):callL Tryz.prog zD 44 [.sl (zn L) false]=some (.sl (zn (xQ L)) false):=by
 have key:=Jt L hL [.blk 0,.seq 0 15] L.length (bB _);have cut:=fun S=>zBv S L false (wP L L.length) (qz _ _);apply FX.retV ok44_ 1000 rfl rfl
 ·(repeat((conv=>lhs;whnf);simp only[go_sem,simprocAttr]));apply key;apply zR;((repeat((conv=>lhs;whnf);simp only[go_sem,simprocAttr,cut]));try rfl)
 ·exact EncT.fzS _ _
noncomputable def zCL:FX:=⟨Tryz.f22,zD.of 22,[]⟩
instance ok22_:zCL.ok 22:=FX.mk'
theorem KW (L:QL) (x:Rat) (hL:L.length≤9) (hw : ∀q∈L,ze q 2) (hx:ze x 2) (fs:List Fr) : ∀m i,i+m=L.length→∀o w:Rat,ze o (40*i+1)→ze w (2*i+1)→∃W:Rat,∀z:PV × zA,zZ 0 zCL 0 fs [(3,.undef),(4,.mp 1 0 0),(5,.mp 2 0 0),(6,.undef),(11,.undef),(12,.undef),(13,.undef),(14,.undef)] [.arr [rc x] none false,.arr [[.bool false,.sl [] true,.sl [] true]] none false,.arr [rc (evQ x (L.drop i) o w)] none false,.arr [rc W] none false]=some z→zS 0 zCL 0 116 4 fs [(3,.mp 0 0 0),(4,.mp 1 0 0),(5,.mp 2 0 0),(6,.mp 3 0 0),(11,.sl (zn L) false),(12,.int .i64 L.length),(13,.int .i64 i)] [.arr [rc x] none false,.arr [[.bool false,.sl [] true,.sl [] true]] none false,.arr [rc o] none false,.arr [rc w] none false]=some z:=by
 intro m
 induction m with
 | zero =>
  intro i hi o w ho hw';refine⟨w,fun z hz=>?_⟩;have h1 : ¬(i:Int)<(L.length:Int):=by omega
  rw[pA (by omega)]at hz;apply zC;(repeat((conv=>lhs;whnf);simp only[go_sem,simprocAttr,h1]));exact hz
 | succ m ih =>
  intro i hi o w ho hw';have hq:=hw _ (xK (L:=L) (i:=i) (by omega));have hp:=kM hq hw';have hn:ze (o+L.getD i 0*w) (40*(i+1)+1):=(XM ho hp).mono (by omega);have hm2:ze (w*x) (2*(i+1)+1):=(kM hw' hx).mono (by omega);obtain⟨W,key⟩:=ih (i+1) (by omega) _ _ hn hm2;refine⟨W,fun z hz=>?_⟩;rw[ui (by omega)]at hz
  replace key:=key z hz
  have h1:(i:Int)<(L.length:Int):=by omega
  have h2:IntKind.i64.wrap ((i:Int)+1)=((i+1:Nat):Int):=by rw[bA];omega
  have h4:0≤(i:Int)∧(i:Int)<(L.length:Int):=⟨by omega,h1⟩;have m1:=fun S=>V6 S (L.getD i 0) w (hq.mono (by omega)) (hw'.mono (by omega));have m2:=fun S=>V6 S w x (hw'.mono (by omega)) (hx.mono (by omega));have a1:=fun S=>V7 S o (L.getD i 0*w) (ho.mono (by omega)) (hp.mono (by omega));apply zC;(repeat((conv=>lhs;whnf);simp only[go_sem,simprocAttr,h1,h2,h4,bD,m1,m2,a1]));exact key
theorem KX (L:QL) (x:Rat) (hL:L.length≤9) (hw : ∀q∈L,ze q 2) (hx:ze x 2):callL Tryz.prog zD 22 [.sl (zn L) false,.agg (rc x)]=some (.agg (rc (vD x L))):=by
 have z:=V8;have o:=zEv;have key:=fun fs=>KW L x hL hw hx fs L.length 0 (by omega) 0 1 (jB.mono (by omega)) (zGk.mono (by omega));rw[pH,zEq]at key;apply FX.retV ok22_ 1000 rfl rfl
 ·(repeat((conv=>lhs;whnf);simp only[go_sem,simprocAttr,z,o]));apply (key _).choose_spec;apply zR;((repeat((conv=>lhs;whnf);simp only[go_sem,simprocAttr]));try rfl)
 ·rfl
end
end
section
theorem KY {L:QL} {i:Nat} (h:L.length≤i):L.getD i 0=0:=by
 rw[bE,bY h];rfl
section
attribute [local irreducible] Vs.callL Vs.callRL tyi zQ yE zm zV zk zb zK zf zF zT zl zi zJ zL zj yB yO yD zN zh Vs.gc zH
noncomputable def zCM:FX:=⟨Tryz.f24,zD.of 24,[]⟩
instance ok24_:zCM.ok 24:=FX.mk'
theorem Ju (a b:QL) (hL:a.length≤9) (hM:b.length≤9) (ha : ∀q∈a,ze q 2) (hb : ∀q∈b,ze q 2) (fs:List Fr) : ∀m j,j+m=(wQ a b).length→∀g:Option Nat,(g=none∨g=some 3)→∃g':Option Nat,(g'=none∨g'=some 3)∧∀z:PV × zA,zZ 0 zCM 0 fs [(0,.undef),(1,.undef),(5,.msl 0 0 (wQ a b).length false),(6,.undef),(17,.undef)] [.arr (zn (wQ a b)) (some g') false]=some z→zS 0 zCM 0 116 1 fs [(0,.sl (zn a) false),(1,.sl (zn b) false),(5,.msl 0 0 j false),(6,.int .i64 j)] [.arr (zn ((wQ a b).take j)) (some g) false]=some z:=by
 have hlen:=ug a b;intro m
 induction m with
 | zero =>
  intro j hj g hg;refine⟨g,hg,fun z hz=>?_⟩;have h1 : ¬(j:Int)<(a.length:Int):=by omega
  have h2 : ¬(j:Int)<(b.length:Int):=by omega
  have ej:j=(wQ a b).length:=by omega
  rw[pZ (by omega)];rw[←ej]at hz;apply zC;(repeat((conv=>lhs;whnf);simp only[go_sem,simprocAttr,h1,h2]));exact hz
 | succ m ih =>
  intro j hj g hg;obtain⟨g',hg',key⟩:=ih (j+1) (by omega) (some 3) (.inr rfl);refine⟨g',hg',fun z hz=>?_⟩
  replace key:=key z hz
  clear hz;have h2:IntKind.i64.wrap ((j:Int)+1)=((j+1:Nat):Int):=by rw[bA];omega
  have el:((wQ a b).take j).length=j:=by rw[pJ];omega
  rw[ZZ (by omega),XJ]at key;have zr:=V8;have wa:=KT (w:=2) (by omega) ha j;have wb:=KT (w:=2) (by omega) hb j;have ap:=fun (x:Rat) (y:List PV) S' h=>wo.app jC (b:=0) (S:=[.arr (zn ((wQ a b).take j)) (some g) false,.arr [y] none false,.arr [rc x] (some (some 3)) false]) (S':=S') (id:=0) (j:=2) ((wQ a b).take j) x g hg (by omega) (by omega) true (by decide) rfl rfl h;have ap:=fun (x:Rat) (y:List PV) (hy:xa y=[])=>ap x y _ (by simp only[pF,aA,yF,xG,yP,vp,hy,wo.rrefs];rfl);rw[el]at ap;by_cases c1:j<a.length
  ·have h1:(j:Int)<(a.length:Int):=by omega
   have h4:0≤(j:Int)∧(j:Int)<(a.length:Int):=⟨by omega,h1⟩;by_cases c2:j<b.length
   ·have h3:(j:Int)<(b.length:Int):=by omega
    have h5:0≤(j:Int)∧(j:Int)<(b.length:Int):=⟨by omega,h3⟩;have a1:=fun S=>V7 S (a.getD j 0) (b.getD j 0) (wa.mono (by omega)) (wb.mono (by omega));have ap1:=ap (a.getD j 0+b.getD j 0) (rc (a.getD j 0+b.getD j 0)) rfl;apply zC;(repeat((conv=>lhs;whnf);simp only[go_sem,simprocAttr,h1,h2,h3,h4,h5,bD,zr,a1,ap1,wo.rrefs]));exact key
   ·have h3 : ¬(j:Int)<(b.length:Int):=by omega
    rw[KY (L:=b) (by omega),Rat.add_zero]at key;have ap1:=ap (a.getD j 0) (rc (a.getD j 0)) rfl;apply zC;(repeat((conv=>lhs;whnf);simp only[go_sem,simprocAttr,h1,h2,h3,h4,bD,zr,ap1,wo.rrefs]));exact key
  ·have h1 : ¬(j:Int)<(a.length:Int):=by omega
   have c2:j<b.length:=by omega
   have h3:(j:Int)<(b.length:Int):=by omega
   have h5:0≤(j:Int)∧(j:Int)<(b.length:Int):=⟨by omega,h3⟩;have a1:=fun S=>V7 S 0 (b.getD j 0) (jB.mono (by omega)) (wb.mono (by omega));rw[KY (L:=a) (by omega)]at key;have ap1:=ap (0+b.getD j 0) (rc (0+b.getD j 0)) rfl;apply zC;(repeat((conv=>lhs;whnf);simp only[go_sem,simprocAttr,h1,h2,h3,h5,bD,zr,a1,ap1,wo.rrefs]));exact key
theorem Jv (a b:QL) (hL:a.length≤9) (hM:b.length≤9) (ha : ∀q∈a,ze q 2) (hb : ∀q∈b,ze q 2):callL Tryz.prog zD 24 [.sl (zn a) false,.sl (zn b) false]=some (.sl (zn (xQ (wQ a b))) false):=by
 obtain⟨g',hg',key⟩:=Ju a b hL hM ha hb [.blk 0,.seq 0 15] (wQ a b).length 0 (by omega) none (.inl rfl);have tr:=XV (wQ a b) (by rw[ug];omega);have tc:=fun X=>wo.call (S:=.arr (zn (wQ a b)) (some g') false::X) (id:=0) (n:=(wQ a b).length) (ex:=false) tr rfl rfl (by simp);apply FX.retV ok24_ 1000 rfl rfl
 ·(repeat((conv=>lhs;whnf);simp only[go_sem,simprocAttr]));apply key;apply zR;((repeat((conv=>lhs;whnf);simp only[go_sem,simprocAttr,tc]));try rfl)
 ·exact EncT.fzS _ _
noncomputable def XW:FX:=⟨Tryz.f14,zD.of 14,[]⟩
instance ok14_:XW.ok 14:=FX.mk'
theorem KZ (a b:QL) (n:Nat) (hn:n≤100) (g:Option (Option Nat)) (fs:List Fr) : ∀m j,j+m=n→∀z:PV × zA,zZ 0 XW 0 fs [(0,.sl (zn a) false),(1,.sl (zn b) false),(5,.msl 0 0 n true),(19,.undef),(20,.undef),(21,.undef)] [.arr (zn (List.replicate n 0)) g false]=some z→zS 0 XW 0 116 1 fs [(0,.sl (zn a) false),(1,.sl (zn b) false),(5,.msl 0 0 n true),(19,.int .i64 n),(20,.int .i64 j)] [.arr (xR (rc 0) z3 n j) g false]=some z:=by
 intro m
 induction m with
 | zero =>
  intro j hj z hz;have ej:j=n:=by omega
  subst ej;have h1 : ¬(j:Int)<(j:Int):=by omega
  rw[W1,zA6];apply zC;(repeat((conv=>lhs;whnf);simp only[go_sem,simprocAttr,h1]));exact hz
 | succ m ih =>
  intro j hj z hz;have h1:(j:Int)<(n:Int):=by omega
  have h2:IntKind.i64.wrap ((j:Int)+1)=((j+1:Nat):Int):=by rw[bA];omega
  have key:=ih (j+1) (by omega) z hz;have zr:=V8;have ix:=fun X=>jC.idxm (S:=.arr (xR (rc 0) z3 n j) g false::X) (id:=0) (off:=0) (n:=n) (ex:=true) (rows:=xR (rc 0) z3 n j) j rfl (by rw[uj _ _ (by omega)];omega) (Qa rfl rfl) (by omega);have st : ∀X,yr 3 (.arr (xR (rc 0) z3 n j) g false::X) (.mp 0 j 0) (.agg (rc 0))=some (.arr (xR (rc 0) z3 n (j+1)) g false::X):=fun X=>by
   rw[←W0 _ _ (by omega)];exact WZ (S:=.arr (xR (rc 0) z3 n j) g false::X) (id:=0) (sz:=3) rfl (i:=j) (by rw[uj _ _ (by omega)];omega) (KM rfl rfl (by omega) (by omega)) (c:=rc 0) rfl rfl
  apply zC;(repeat((conv=>lhs;whnf);simp only[go_sem,simprocAttr,h1,h2,ix,zr,st]));exact key
theorem K0 (b:QL) (x:Rat) (i n:Nat) (hx:ze x 2) (hb : ∀y∈b,ze y 2) (hL:b.length≤9) (hi:i≤9) (j0:Nat) (hj0:j0≤100) (a':QL) (al:Int) (g:Option (Option Nat)) (fs:List Fr) : ∀m k (l:QL),k+m=b.length→l.length=n→i+b.length≤n→(∀t,i+k≤t→ze (l.getD t 0) j0)→∀z:PV × zA,zZ 0 XW 4 fs [(1,.sl (zn b) false),(5,.msl 0 0 n true),(7,.undef),(8,.undef),(28,.sl (zn a') false),(29,.int .i64 al),(30,.int .i64 i),(35,.undef),(36,.undef),(37,.undef),(38,.undef)] [.arr (zn (vR x l (i+k) (b.drop k))) g false,.arr [rc x] none false]=some z→zS 0 XW 4 62668 2 fs [(1,.sl (zn b) false),(5,.msl 0 0 n true),(7,.int .i64 i),(8,.mp 1 0 0),(28,.sl (zn a') false),(29,.int .i64 al),(30,.int .i64 i),(35,.sl (zn b) false),(36,.int .i64 b.length),(37,.int .i64 k)] [.arr (zn l) g false,.arr [rc x] none false]=some z:=by
 intro m
 induction m with
 | zero =>
  intro k l hk hl hle hw z hz;have h1 : ¬(k:Int)<(b.length:Int):=by omega
  rw[pA (by omega)]at hz;apply zC;(repeat((conv=>lhs;whnf);simp only[go_sem,simprocAttr,h1]));exact hz
 | succ m ih =>
  intro k l hk hl hle hw z hz;have h1:(k:Int)<(b.length:Int):=by omega
  have h2:IntKind.i64.wrap ((k:Int)+1)=((k+1:Nat):Int):=by rw[bA];omega
  have h3:IntKind.i64.wrap ((i:Int)+(k:Int))=((i+k:Nat):Int):=by rw[bA];omega
  have h4:0≤(k:Int)∧(k:Int)<(b.length:Int):=⟨by omega,h1⟩;have hy:=hb _ (xK (L:=b) (i:=k) (by omega));have hk0:=hw (i+k) (bB _);rw[ui (by omega)]at hz;have key:=ih (k+1) (l.set (i+k) (l.getD (i+k) 0+x*b.getD k 0)) (by omega) (by rw[aZ];exact hl) hle (fun t ht=>by
   rw[jE (by omega),hI (by omega)];exact hw t (by omega)) z hz
  have m1:=fun S=>V6 S x (b.getD k 0) (hx.mono (by omega)) (hy.mono (by omega));have a1:=fun S=>V7 S (l.getD (i+k) 0) (x*b.getD k 0) (hk0.mono (by omega)) ((kM hx hy).mono (by omega));have ix:=fun X=>jC.idxm (S:=.arr (zn l) g false::X) (id:=0) (off:=0) (n:=n) (ex:=true) (rows:=zn l) (i+k) rfl (by rw[ZA];omega) (KK _) (by omega);have ld:=fun X=>wo.load (S:=.arr (zn l) g false::X) (id:=0) (i:=i+k) rfl (by omega) 0 (zDV _);have st : ∀X,yr 3 (.arr (zn l) g false::X) (.mp 0 (i+k) 0) (.agg (rc (l.getD (i+k) 0+x*b.getD k 0)))=some (.arr (zn (l.set (i+k) (l.getD (i+k) 0+x*b.getD k 0))) g false::X):=fun X=>wo.store (S:=.arr (zn l) g false::X) (id:=0) rfl (by omega) _ rfl;apply zC;(repeat((conv=>lhs;whnf);simp only[go_sem,simprocAttr,h1,h2,h3,h4,bD,ix,ld,m1,a1,st]));exact key
theorem K3 (a b:QL) (n:Nat) (ha : ∀y∈a,ze y 2) (hb : ∀y∈b,ze y 2) (hL:b.length≤9) (hM:a.length≤9) (hn:a.length+b.length≤n+1) (g:Option (Option Nat)) (fs:List Fr) : ∀m i (l:QL),i+m=a.length→l.length=n→(∀t,ze (l.getD t 0) (5*i+1))→∀z:PV × zA,zZ 0 XW 2 fs [(1,.undef),(5,.msl 0 0 n true),(28,.undef),(29,.undef),(30,.undef),(31,.undef)] [.arr (zn (xY b l i (a.drop i))) g false]=some z→zS 0 XW 2 244 1 fs [(1,.sl (zn b) false),(5,.msl 0 0 n true),(28,.sl (zn a) false),(29,.int .i64 a.length),(30,.int .i64 i)] [.arr (zn l) g false]=some z:=by
 intro m
 induction m with
 | zero =>
  intro i l hi hl hw z hz;have h1 : ¬(i:Int)<(a.length:Int):=by omega
  rw[pA (by omega)]at hz;apply zC;(repeat((conv=>lhs;whnf);simp only[go_sem,simprocAttr,h1]));exact hz
 | succ m ih =>
  intro i l hi hl hw z hz;have h1:(i:Int)<(a.length:Int):=by omega
  have h2:IntKind.i64.wrap ((i:Int)+1)=((i+1:Nat):Int):=by rw[bA];omega
  have h4:0≤(i:Int)∧(i:Int)<(a.length:Int):=⟨by omega,h1⟩;have hx:=ha _ (xK (L:=a) (i:=i) (by omega));rw[ui (by omega)]at hz;have key:=ih (i+1) (vR (a.getD i 0) l i b) (by omega) (by rw[vS];exact hl) (ZC (j:=5*i+1) hx b l i hb (by omega) (fun t _=>(hw t).mono (by omega)) fun t _=>hw t) z hz;have lp:=fun fs=>K0 b (a.getD i 0) i n hx hb hL (by omega) (5*i+1) (by omega) a a.length g fs b.length 0 l (by omega) hl (by omega) (fun t _=>hw t);rw[pH,sC]at lp;apply zC;(repeat((conv=>lhs;whnf);simp only[go_sem,simprocAttr,h1,h2,h4,bD]));refine lp _ _ ?_;apply zR;(repeat((conv=>lhs;whnf);simp only[go_sem,simprocAttr,h1,h2,h4]));exact key
theorem Jw (b l:QL) (i:Nat):xY b l i []=l:=rfl
theorem Zh : ∀(a l:QL) (i:Nat),xY [] l i a=l
 | [],l,i=>rfl
 | x::r,l,i=>Zh r l (i+1)
theorem K4 (n:Nat):xQ (List.replicate n 0)=[]:=by
 have:=Zd [] n;rw[pC]at this;rw[this];rfl
theorem zCN (a b:QL):xQ (xY b (List.replicate (a.length+b.length+1) 0) 0 a)=Zg a b:=by
 unfold Zg;by_cases h0:a=[]
 ·subst h0;rw[hZ (.inl rfl),Jw,K4]
 by_cases h1:b=[]
 ·subst h1;rw[hZ (.inr rfl),Zh,K4]
 rw[hI (by simp[h0,h1]),zBt a b h0 h1]
theorem Jx (a b:QL) (hM:a.length≤9) (hL:b.length≤9) (ha : ∀q∈a,ze q 2) (hb : ∀q∈b,ze q 2):callL Tryz.prog zD 14 [.sl (zn a) false,.sl (zn b) false]=some (.sl (zn (Zg a b)) false):=by
 obtain⟨n,hn⟩ : ∃n,n=a.length+b.length+1:=⟨_,rfl⟩;have w1:IntKind.i64.wrap ((a.length:Int)+(b.length:Int))=(a.length:Int)+b.length:=by rw[bA];omega
 have w2:IntKind.i64.wrap ((a.length:Int)+(b.length:Int)+1)=(n:Int):=by rw[bA];omega
 have mk:=fun id=>jC.make VQ id n (by omega) (by omega);have e0:List.replicate n [PV.bool false,.sl [] true,.sl [] true]=xR (rc 0) z3 n 0:=(XQ _ _ _).symm;rw[e0]at mk;have k0:=fun g fs=>KZ a b n (by omega) g fs n 0 (by omega);have k2:=fun g fs=>K3 a b n ha hb hL hM (by omega) g fs a.length 0 (List.replicate n 0) (by omega) sY (fun t=>by rw[VW];exact jB.mono (by omega));rw[pH]at k2;have ml:(xY b (List.replicate n 0) 0 a).length=n:=by rw[kL,sY]
 have tr:=XV (xY b (List.replicate n 0) 0 a) (by omega);have tc:=fun g X=>wo.call (S:=.arr (zn (xY b (List.replicate n 0) 0 a)) g false::X) (id:=0) (n:=n) (ex:=true) tr rfl ml (by simp);have pr:=zCN a b;rw[←hn]at pr;rw[←pr];apply FX.retV ok14_ 1000 rfl rfl
 ·(repeat((conv=>lhs;whnf);simp only[go_sem,simprocAttr,w1,w2,mk,W2]));apply k0;apply zR;(repeat((conv=>lhs;whnf);simp only[go_sem,simprocAttr]));apply k2;apply zR;((repeat((conv=>lhs;whnf);simp only[go_sem,simprocAttr,tc]));try rfl)
 ·exact EncT.fzS _ _
end
end
end Go.Vs

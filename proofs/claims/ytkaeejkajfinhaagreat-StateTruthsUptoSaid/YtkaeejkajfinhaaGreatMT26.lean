
import Derived.Test.YtkaeejkajfinhaaGreatMT25
set_option linter.unusedVariables false
set_option linter.unusedSimpArgs false
set_option maxRecDepth 100000
namespace Go.Vs
open Go Go.Proofs
section
def zQH (L:List Bd) (I:List Pr) (df:Bool) (S:zB) (id r:Nat) (fv:PV) (res:List PV) (a' c':Rat):Prop:=∀A,vt (S.length+A.length) A=true→∃X,zf Tryz.prog zE (S.set id (.arr [evc L I a' c' df false] none false)++A) fv []=some {v:=.tup [],S:=(S.set id (.arr [evc L I a' c' df false] none false)).set r (.arr [res] none false)++(A++X)} ∧ vt (S.length+A.length+X.length) X=true
theorem zEs {S:zB} {id:Nat} {o:Obj} (h:S[id]? = some o):S.set id o=S:=by
 have:=Jd (o':=o) h
 rwa [List.set_set]at this
theorem zJi (S:zB) {i j:Nat} (h:i≠j) (a b:Obj):(S.set i a).set j b=(S.set j b).set i a:=List.set_comm a b h
theorem XG {S:zB} {i j:Nat} {o o':Obj} (h:S[j]? = some o) (hne:i≠j):(S.set i o')[j]? = some o:=by rw[aE hne];exact h
theorem Zr (f:FuncId) (p q r:Nat):PV.refs (.fn f [] [.mp p 0 0,.mp q 0 0,.mp r 0 0])=[p,q,r]:=rfl
section
attribute [local irreducible] Vs.callL Vs.callRL tyi zO zk zf zQ zW zZ zI zX zA zK zb zV zG zJ zU zs yL zr zL za Vs.gc zH
noncomputable def zQI:FX:=⟨Tryz.f106,zE.of 106,[]⟩
instance ok106_:zQI.ok 106:=FX.mk'
theorem zEt {L:List Bd} {I:List Pr} {g:DV→Bool→Option DV} {w:Node} (kw:xn L I g w) {a c:Rat} {df:Bool} {S:zB} {id p q r:Nat} (hS:ES S id (evc L I a c df false)) (hp:S[p]? = some (.arr [[.mp id 0 0]] none false)) (hq:S[q]? = some (.arr [w.cells] none false)) (hr:S[r]? = some (.arr [zd] none false)) (np:id≠p) (nq:id≠q) (nr':id≠r) {a' c':Rat} {x:DV} (hf:kE 4096 (a',c')) (hc:df=false→c'=0) (h12:df=true→w.has (xD 12)=false) (hx:g (a',c') df=some x):zQH L I df S id r (.fn 106 [] [.mp p 0 0,.mp q 0 0,.mp r 0 0]) (d2 x.1 x.2) a' c':=by
 intro A hA;have h1:=hS.set (V7 L I a' c' df false);have p1:=xA (uD (XG (o':=.arr [evc L I a' c' df false] none false) hp np) A);have q1:=xA (uD (XG (o':=.arr [evc L I a' c' df false] none false) hq nq) A);have r1:=XG (o':=.arr [evc L I a' c' df false] none false) hr nr';have hl:(S.set id (.arr [evc L I a' c' df false] none false)).length=S.length:=aI;have lp:=(bR.1 hp).1;have lq:=(bR.1 hq).1;have lr:=(bR.1 hr).1;generalize S.set id (.arr [evc L I a' c' df false] none false)=S1 at *;have e1:=h1.app (A:=A) (by rw[hl];exact hA);obtain⟨X,c0,l0⟩:=kw.m hf hc h12 hx e1;have st:=fun B=>W0 r1 6 0 (.agg (d2 x.1 x.2)) (by decide) rfl rfl B;change ∀B,yZ 6 (S1++B) (.mp r 0 0) (.agg (d2 x.1 x.2))=some (S1.set r (.arr [d2 x.1 x.2] none false)++B) at st;have hc:callRL Tryz.prog zE 106 [.mp p 0 0,.mp q 0 0,.mp r 0 0] (S1++A)=some (.tup [],S1.set r (.arr [d2 x.1 x.2] none false)++(A++X)):=by
  refine FX.callRL ok106_ 1000 rfl rfl ?_;rw[bS]at c0;((repeat((conv=>lhs;whnf);simp only[go_sem,simprocAttr,p1,q1,c0,st,bS]));try rfl)
 refine⟨X,?_,?_⟩
 ·rw[qc];refine xd (by kernel_rfl) hc (by first | (simp;done) | (simp;omega)) e1.low ?_;simp[xz,yF,yb,wK]
  try omega
 ·rw[bJ,hl]at l0;exact l0
noncomputable def zQJ:FX:=⟨Tryz.f105,zE.of 105,[]⟩
instance ok105_:zQJ.ok 105:=FX.mk'
theorem XH {L:List Bd} {I:List Pr} {g0:DV→Bool→Option DV} (n:Node) (hn:n.ok) {a c:Rat} {df:Bool} {S:zB} {id r:Nat} {c0 res:List PV} (hS:ES S id (evc L I a c df false)) (hr:S[r]? = some (.arr [c0] none false)) (nr':id≠r) (hres:zS [res]=[]) (fv:PV) (hfr : ∀x∈fv.refs,x<S.length) (hf:kE 4096 (a,c)) (hc:df=false→c=0) {y:DV} (hy:if n.kids.length=0 then y=(a,c) else xn L I g0 (n.kids.getD 0 nd0)∧g0 (a,c) df=some y∧(df=true→(n.kids.getD 0 nd0).has (xD 12)=false)) (clo:zQH L I df S id r fv res y.1 y.2) : ∃X,callRL Tryz.prog zE 105 [.mp id 0 0,.agg n.cells,fv] S=some (.tup [],S.set r (.arr [res] none false)++X)∧vt (S.length+X.length) X=true:=by
 obtain⟨N,hN⟩ : ∃N,S.length=N:=⟨_,rfl⟩;have ev:=hS.rows;have lb:vt 0 [.arr [n.cells] none false,.arr [d2 a c] none false]=true:=by simp only[ye,xM,yC (yU _),yC (xC _ _),bX]
 have lz : ∀u v:Rat,vt 0 [.arr [n.cells] none false,.arr [d2 u v] none false]=true:=fun u v=>by simp only[ye,xM,yC (yU _),yC (xC _ _),bX]
 by_cases h0:n.kids.length=0
 ·rw[bA h0]at hy;subst hy;have g0' : ¬(0:Int)<(n.kids.length:Int):=by omega
  obtain⟨X,k1,k2⟩:=clo [.arr [n.cells] none false,.arr [d2 a c] none false] (zAY lb _);rw[zEs hS.at_]at k1;have e2:(S.set r (.arr [res] none false))[id]? = some (.arr [evc L I a c df false] none false):=XG hS.at_ (Ne.symm nr');have st:=fun B=>W0 e2 6 2 (.agg (d2 a c)) (by show 8≤10;decide) rfl rfl B;change ∀B,yZ 6 (S.set r (.arr [res] none false)++B) (.mp id 0 2) (.agg (d2 a c))=some ((S.set r (.arr [res] none false)).set id (.arr [evc L I a c df false] none false)++B) at st;rw[zEs e2]at st;have hN2:(S.set r (.arr [res] none false)).length=N:=by rw[aI,hN]
  refine⟨.arr [n.cells] none false :: .arr [d2 a c] none false::X,?_,?_⟩
  rotate_left
  ·have:=zAY lb (S.length+(Obj.arr [n.cells] none false::Obj.arr [d2 a c] none false::X).length);rw[show Obj.arr [n.cells] none false::Obj.arr [d2 a c] none false::X=[.arr [n.cells] none false,.arr [d2 a c] none false]++X from rfl,xL];rw[yS lb (sH _),yS k2 (by first | (simp;done) | (simp;omega))];rfl
  generalize S.set r (.arr [res] none false)=S2 at *;refine FX.callRL ok105_ 1000 rfl rfl ?_;clear clo hS lb lz e2;unfold d2 evc d2 at *;unfold yB at *;simp only[pO,pF]at k1;((repeat((conv=>lhs;whnf);simp only[go_sem,simprocAttr,g0',ev,k1,st,hN2,yn hN2,hN,yn hN,xB]));try rfl)
 ·rw[hZ h0]at hy;obtain⟨kw,yh,k12⟩:=hy;have i0:=qa (n:=n) (by omega);have g0':(0:Int)<(n.kids.length:Int):=by omega
  obtain⟨X0,c1,l0⟩:=kw.m hf hc k12 yh (hS.flat lb);have st1:=fun B=>W0 hS.at_ 6 2 (.agg (d2 y.1 y.2)) (by show 8≤10;decide) rfl rfl B;change ∀B,yZ 6 (S++B) (.mp id 0 2) (.agg (d2 y.1 y.2))=some (S.set id (.arr [evc L I y.1 y.2 df false] none false)++B) at st1;have lX:vt (S.length+([Obj.arr [n.cells] none false,.arr [d2 a c] none false]++X0).length) ([Obj.arr [n.cells] none false,.arr [d2 a c] none false]++X0)=true:=by
   rw[xL,yS lb (sH _),yS l0 (by first | (simp;done) | (simp;omega))];rfl
  obtain⟨X,k1,k2⟩:=clo _ lX;have e1:(S.set id (.arr [evc L I y.1 y.2 df false] none false))[id]? = some (.arr [evc L I y.1 y.2 df false] none false):=by rw[BJ hS.lt]
  have e2:((S.set id (.arr [evc L I y.1 y.2 df false] none false)).set r (.arr [res] none false))[id]? = some (.arr [evc L I y.1 y.2 df false] none false):=XG e1 (Ne.symm nr');have st:=fun B=>W0 e2 6 2 (.agg (d2 a c)) (by show 8≤10;decide) rfl rfl B;change ∀B,yZ 6 ((S.set id (.arr [evc L I y.1 y.2 df false] none false)).set r (.arr [res] none false)++B) (.mp id 0 2) (.agg (d2 a c))=some (((S.set id (.arr [evc L I y.1 y.2 df false] none false)).set r (.arr [res] none false)).set id (.arr [evc L I a c df false] none false)++B) at st;rw[zJi _ (Ne.symm nr'),Jd hS.at_]at st;have hN2:((S.set id (.arr [evc L I y.1 y.2 df false] none false)).set r (.arr [res] none false)).length=N:=by rw[aI,aI,hN]
  have hN1:(S.set id (.arr [evc L I y.1 y.2 df false] none false)).length=N:=by rw[aI,hN]
  refine⟨[.arr [n.cells] none false,.arr [d2 a c] none false]++(X0++X),?_,?_⟩
  rotate_left
  ·rw[←bS,xL,yS lX (by first | (simp;done) | (simp;omega)),yS k2 (by first | (simp;done) | (simp;omega))];rfl
  generalize (S.set id (.arr [evc L I y.1 y.2 df false] none false)).set r (.arr [res] none false)=S2 at *;generalize S.set id (.arr [evc L I y.1 y.2 df false] none false)=S1 at *;generalize S.set r (.arr [res] none false)=S3 at *;refine FX.callRL ok105_ 1000 rfl rfl ?_;clear clo hS lb lz e2 e1 lX;unfold d2 evc d2 at *;unfold yB at *;simp only[bS,pO,pF]at k1 c1;((repeat((conv=>lhs;whnf);simp only[go_sem,simprocAttr,g0',i0,ev,c1,k1,st1,st,hN1,yn hN1,hN2,yn hN2,hN,yn hN,xB]));try rfl)
end
end
section
section
attribute [local irreducible] Vs.callL Vs.callRL tyi zO zk zf zQ zW zZ zI zX zA zK zb zV zG zJ zU zs yL zr zL za Vs.gc zH
theorem zHF {L:List Bd} {I:List Pr} (h:RC 4096 L I) (sy:Node→DV→Bool→Option DV) (sF : ∀s,Vs.Zq 4096 (sy s)) (sZ : ∀s,kq (sy s)) (n:Node) (hn:n.ok) (ho:n.op=10) (hk:0<n.kids.length→xn L I ((n.kids.getD 0 nd0).ev 4096 L sy) (n.kids.getD 0 nd0)) {w:Node} (hw:kO I n.sym=some w) (kw:xn L I (sy n.sym) w) (w12:w.has (xD 12)=false):xn L I (n.ev 4096 L sy) n:=by
 intro a c df x S id hf hc h12 hx hS;rw[Node.ev_eq]at hx;unfold xf at hx
 repeat rw[hZ (by rw[ho];decide)]at hx
 have ev:=hS.rows;obtain⟨N,hN⟩ : ∃N,S.length=N:=⟨_,rfl⟩;have z:=ve;have his:yO n.op=true:=by rw[ho];rfl
 have e0:=hS.A0 n wr;have bl:xz (S++A0 id n zd).length [.mp id 0 0,.agg n.cells]=true:=by
  have:=e0.lt;simp[xz,yF,yb,wK,uH,Node.refs]at this ⊢;omega
 obtain⟨Xw,w1,w2⟩:=UI e0 h.okI h.len n hn his hw;have cw:=xd (by kernel_rfl) w1 (by simp) e0.low bl;obtain⟨T,hT⟩ : ∃T,T=S++(A0 id n zd++(Xw++[Obj.arr [w.cells] none false,.arr [zd] none false])):=⟨_,rfl⟩;have lw:vt 0 (Xw++[Obj.arr [w.cells] none false,.arr [zd] none false])=true:=by
  simp only[xL,ye,xM,yC (yU _),yC wr,w2,bX]
 have eT:ES T id (evc L I a c df false):=by
  have:=e0.flat lw;rw[bS]at this;rw[hT];exact this
 have lT:T.length=N+(Xw.length+2+1+1+1+1):=by
  rw[hT];simp[kF,hN];omega
 have pT:T[N]? = some (.arr [[.mp id 0 0]] none false):=by
  rw[hT,←hN,bT (bF _),sM];rfl
 have qT:T[N+(Xw.length+1+1+1+1)]? = some (.arr [w.cells] none false):=by
  rw[hT,←hN,bT (by omega),sN]
  show (Xw++[Obj.arr [w.cells] none false,.arr [zd] none false])[Xw.length]? = _
  rw[bT (bF _),sM];rfl
 have rT:T[N+(Xw.length+1+1+1+1+1)]? = some (.arr [zd] none false):=by
  rw[hT,←hN,bT (by omega),sN]
  show (Xw++[Obj.arr [w.cells] none false,.arr [zd] none false])[Xw.length+1]? = _
  rw[bT (by omega),sN];rfl
 have lid:=hS.lt;have sT : ∀o:Obj,T.set (N+(Xw.length+1+1+1+1+1)) o=S++(A0 id n zd++(Xw++[Obj.arr [w.cells] none false,o])):=fun o=>by
  rw[hT,←hN,BG _ _ (by omega),sN]
  congr 1
  show A0 id n zd++(Xw++[Obj.arr [w.cells] none false,.arr [zd] none false]).set (Xw.length+1) o=_
  rw[BG _ _ (by omega),sN];rfl
 obtain⟨y,yf,yc,yx,yk⟩ : ∃y:DV,kE 4096 y∧(df=false→y.2=0)∧sy n.sym y df=some x∧(if n.kids.length=0 then y=(a,c) else xn L I ((n.kids.getD 0 nd0).ev 4096 L sy) (n.kids.getD 0 nd0)∧(n.kids.getD 0 nd0).ev 4096 L sy (a,c) df=some y∧(df=true→(n.kids.getD 0 nd0).has (xD 12)=false)):=by
  by_cases h0:n.kids.length=0
  ·rw[hZ (by omega)]at hx;exact⟨(a,c),hf,hc,hx,by rw[bA h0]⟩
  ·rw[bA h0]at hx;obtain⟨y,yh,hx⟩:=bM.1 hx;have hlt:0<n.kids.length:=by omega
   rw[vq _ _ _ _ _ hlt]at yh;refine⟨y,ka (by omega) sF _ _ _ _ hf yh,fun e=>?_,hx,?_⟩
   ·subst e;exact wO sZ _ _ _ (hc rfl) yh
   ·rw[hZ h0];exact⟨hk hlt,yh,fun e=>uW (h12 e) (zu hlt)⟩
 have clo:=zEt kw eT pT qT rT (by omega) (by omega) (by omega) (a':=y.1) (c':=y.2) yf yc (fun _=>w12) yx;obtain⟨X,k1,k2⟩:=XH n hn eT rT (by omega) (xC _ _) _ (by
  rw[Zr,lT];intro t ht;simp only[sU,SL,or_false]at ht;omega) hf hc yk clo
 have ci:=xd (by kernel_rfl) k1 (by simp) eT.low (by
  simp[xz,yF,yb,wK,uH,Node.refs,Zr,lT];omega)
 rw[sT,hT]at ci;rw[lT]at k2;clear clo k1 w1 kw hk yk eT pT qT rT sT bl;refine⟨A0 id n (d2 x.1 x.2)++(Xw++(.arr [w.cells] none false :: .arr [d2 x.1 x.2] none false::X)),?_,?_⟩
 rotate_left
 ·simp only[xL,ye,yC (yU _),yC (xC _ _),bX,bC];rw[kb (by omega) n (xC _ _),yS w2 (sH _),yS k2 (by simp only[bJ,bL,kF];omega)];rfl
 simp only[wP]at *;refine FX.callRL ok55_ 1000 rfl rfl ?_;clear hT lT lw e0 hS;unfold A0 zd r3 d2 evc d2 at *;unfold yB at *;simp only[bS,pO,pF]at *;((repeat((conv=>lhs;whnf);simp only[go_sem,simprocAttr,ho,z,cw,ci,zn,ev,hN,yn hN,xU,xB]));try rfl)
theorem zHG {L:List Bd} {I:List Pr} (h:RC 4096 L I) (sy:Node→DV→Bool→Option DV) (sF : ∀s,Vs.Zq 4096 (sy s)) (sZ : ∀s,kq (sy s)) (n:Node) (hn:n.ok) (ho:n.op=11) (hk:0<n.kids.length→xn L I ((n.kids.getD 0 nd0).ev 4096 L sy) (n.kids.getD 0 nd0)) {w:Node} (hw:kO I n.sym=some w) (kw:xn L I (sy n.sym) w) (w12:w.has (xD 12)=false):xn L I (n.ev 4096 L sy) n:=by
 intro a c df x S id hf hc h12 hx hS;rw[Node.ev_eq]at hx;unfold xf at hx
 repeat rw[hZ (by rw[ho];decide)]at hx
 have ev:=hS.rows;obtain⟨N,hN⟩ : ∃N,S.length=N:=⟨_,rfl⟩;have z:=ve;have his:yO n.op=true:=by rw[ho];rfl
 have e0:=hS.A0 n wr;have bl:xz (S++A0 id n zd).length [.mp id 0 0,.agg n.cells]=true:=by
  have:=e0.lt;simp[xz,yF,yb,wK,uH,Node.refs]at this ⊢;omega
 obtain⟨Xw,w1,w2⟩:=UI e0 h.okI h.len n hn his hw;have cw:=xd (by kernel_rfl) w1 (by simp) e0.low bl;obtain⟨T,hT⟩ : ∃T,T=S++(A0 id n zd++(Xw++[Obj.arr [w.cells] none false,.arr [zd] none false])):=⟨_,rfl⟩;have lw:vt 0 (Xw++[Obj.arr [w.cells] none false,.arr [zd] none false])=true:=by
  simp only[xL,ye,xM,yC (yU _),yC wr,w2,bX]
 have eT:ES T id (evc L I a c df false):=by
  have:=e0.flat lw;rw[bS]at this;rw[hT];exact this
 have lT:T.length=N+(Xw.length+2+1+1+1+1):=by
  rw[hT];simp[kF,hN];omega
 have pT:T[N]? = some (.arr [[.mp id 0 0]] none false):=by
  rw[hT,←hN,bT (bF _),sM];rfl
 have qT:T[N+(Xw.length+1+1+1+1)]? = some (.arr [w.cells] none false):=by
  rw[hT,←hN,bT (by omega),sN]
  show (Xw++[Obj.arr [w.cells] none false,.arr [zd] none false])[Xw.length]? = _
  rw[bT (bF _),sM];rfl
 have rT:T[N+(Xw.length+1+1+1+1+1)]? = some (.arr [zd] none false):=by
  rw[hT,←hN,bT (by omega),sN]
  show (Xw++[Obj.arr [w.cells] none false,.arr [zd] none false])[Xw.length+1]? = _
  rw[bT (by omega),sN];rfl
 have lid:=hS.lt;have sT : ∀o:Obj,T.set (N+(Xw.length+1+1+1+1+1)) o=S++(A0 id n zd++(Xw++[Obj.arr [w.cells] none false,o])):=fun o=>by
  rw[hT,←hN,BG _ _ (by omega),sN]
  congr 1
  show A0 id n zd++(Xw++[Obj.arr [w.cells] none false,.arr [zd] none false]).set (Xw.length+1) o=_
  rw[BG _ _ (by omega),sN];rfl
 obtain⟨y,yf,yc,yx,yk⟩ : ∃y:DV,kE 4096 y∧(df=false→y.2=0)∧sy n.sym y df=some x∧(if n.kids.length=0 then y=(a,c) else xn L I ((n.kids.getD 0 nd0).ev 4096 L sy) (n.kids.getD 0 nd0)∧(n.kids.getD 0 nd0).ev 4096 L sy (a,c) df=some y∧(df=true→(n.kids.getD 0 nd0).has (xD 12)=false)):=by
  by_cases h0:n.kids.length=0
  ·rw[hZ (by omega)]at hx;exact⟨(a,c),hf,hc,hx,by rw[bA h0]⟩
  ·rw[bA h0]at hx;obtain⟨y,yh,hx⟩:=bM.1 hx;have hlt:0<n.kids.length:=by omega
   rw[vq _ _ _ _ _ hlt]at yh;refine⟨y,ka (by omega) sF _ _ _ _ hf yh,fun e=>?_,hx,?_⟩
   ·subst e;exact wO sZ _ _ _ (hc rfl) yh
   ·rw[hZ h0];exact⟨hk hlt,yh,fun e=>uW (h12 e) (zu hlt)⟩
 have clo:=zEt kw eT pT qT rT (by omega) (by omega) (by omega) (a':=y.1) (c':=y.2) yf yc (fun _=>w12) yx;obtain⟨X,k1,k2⟩:=XH n hn eT rT (by omega) (xC _ _) _ (by
  rw[Zr,lT];intro t ht;simp only[sU,SL,or_false]at ht;omega) hf hc yk clo
 have ci:=xd (by kernel_rfl) k1 (by simp) eT.low (by
  simp[xz,yF,yb,wK,uH,Node.refs,Zr,lT];omega)
 rw[sT,hT]at ci;rw[lT]at k2;clear clo k1 w1 kw hk yk eT pT qT rT sT bl;refine⟨A0 id n (d2 x.1 x.2)++(Xw++(.arr [w.cells] none false :: .arr [d2 x.1 x.2] none false::X)),?_,?_⟩
 rotate_left
 ·simp only[xL,ye,yC (yU _),yC (xC _ _),bX,bC];rw[kb (by omega) n (xC _ _),yS w2 (sH _),yS k2 (by simp only[bJ,bL,kF];omega)];rfl
 simp only[wP]at *;refine FX.callRL ok55_ 1000 rfl rfl ?_;clear hT lT lw e0 hS;unfold A0 zd r3 d2 evc d2 at *;unfold yB at *;simp only[bS,pO,pF]at *;((repeat((conv=>lhs;whnf);simp only[go_sem,simprocAttr,ho,z,cw,ci,zn,ev,hN,yn hN,xU,xB]));try rfl)
end
theorem zUu : ∀n:Node,zm n.op=1→∀b c,n.formed true b c=true→n.has (xD 12)=false:=by
 refine Node.ind' fun n ih hs b c hf=>?_;have ho:=ZP hs;rw[Node.formed_eq]at hf;simp only[bO,pC]at hf;obtain⟨_,h2,h3,h4,_⟩:=hf;have kids:=qI _ _ _ _ _ h4 h3 (jy ho _);have e12:n.op≠12:=fun e=>by
  unfold vI at h2;rw[e]at h2;simp at h2
 rw[Node.has_eq,Node.hass_any,BT,List.any_eq_false];refine⟨by simp[xD,e12],fun k hk=>?_⟩;obtain⟨k1,k2⟩:=kids k hk;simp only[pI]at k2;rw[ih k hk k1 _ _ k2];simp
theorem zTP {n:Node} (ho:n.op=12) {a b c:Bool} (hf:n.formed a b c=true) (h0:0<n.kids.length):(n.kids.getD 0 nd0).has (xD 12)=false:=by
 rw[Node.formed_eq]at hf;simp only[bO,pC]at hf;obtain⟨_,_,h3,h4,_⟩:=hf;obtain⟨k1,k2⟩:=qI _ _ _ _ _ h4 h3 (jy (by omega) _) _ (zu h0);rw[ho]at k2;simp only[decide_true,sO]at k2;exact zUu _ k1 _ _ k2
theorem W1 {L:List Bd} {I:List Pr} (h:RC 4096 L I) (sy:Node→DV→Bool→Option DV) (sF : ∀s,Vs.Zq 4096 (sy s)) (sZ : ∀s,kq (sy s)) : ∀n:Node,n.ok→zm n.op=1→(∃a b c,n.formed a b c=true)→(∀s∈n.syms,∃w,kO I s=some w∧xn L I (sy s) w∧w.has (xD 12)=false)→xn L I (n.ev 4096 L sy) n:=by
 refine Node.ind' fun n ih hn hs hf hsy=>?_;obtain⟨a,b,c,hf⟩:=hf;have tm:=zHx hs hf;have kid : ∀i,i<n.kids.length→xn L I ((n.kids.getD i nd0).ev 4096 L sy) (n.kids.getD i nd0):=by
  intro i hi;have hm:=zu hi;obtain⟨k1,k2⟩:=tm.kids _ hm;exact ih _ hm (hn.kids _ hm) k1 k2 fun s h=>hsy s (qJ hm h)
 obtain⟨o1,o2⟩:=tm.op
 rcases Int.lt_or_le n.op 4 with c4 | c4
 ·by_cases e1:n.op=1
  ·exact zMQ h sy n hn e1 (tm.num e1)
  by_cases e2:n.op=2
  ·exact zMS h sy n hn e2 (tm.nm (.inl e2))
  have e3:n.op=3:=by omega
  exact zHE h sy n hn e3 (tm.nm (.inr e3))
 by_cases e4:n.op=4
 ·have l:=tm.one (.inl e4);exact zMT h sy sF sZ n hn e4 (by omega) (kid 0 (by omega))
 by_cases e12:n.op=12
 ·have l:=tm.one (.inr e12);exact zJg h sy sF sZ n hn e12 (by omega) (kid 0 (by omega)) (zTP e12 hf (by omega))
 by_cases e13:n.op=13
 ·exact zMR h sy n hn e13
 by_cases e10:n.op=10
 ·obtain⟨w,hw,kw,k12⟩:=hsy _ (qd (by rw[e10];rfl));exact zHF h sy sF sZ n hn e10 (kid 0) hw kw k12
 by_cases e11:n.op=11
 ·obtain⟨w,hw,kw,k12⟩:=hsy _ (qd (by rw[e11];rfl));exact zHG h sy sF sZ n hn e11 (kid 0) hw kw k12
 have l:=tm.two (by omega);have k0:=kid 0 (by omega);have k1:=kid 1 (by omega);by_cases e5:n.op=5
 ·exact zMU h sy sF sZ n hn e5 (by omega) k0 (by omega) k1
 by_cases e6:n.op=6
 ·exact zMV h sy sF sZ n hn e6 (by omega) k0 (by omega) k1
 by_cases e7:n.op=7
 ·exact zMW h sy sF sZ n hn e7 (by omega) k0 (by omega) k1
 by_cases e8:n.op=8
 ·obtain⟨d1,d2⟩:=tm.div e8;exact zMX h sy sF sZ n hn e8 (by omega) k0 (by omega) d1 d2
 have e9:n.op=9:=by omega
 exact zMY h sy sF sZ n hn e9 (by omega) k0 (by omega) (tm.pow hn e9)
end
theorem XI : ∀(l:List Node) (s:List Int) (a b c:Bool),Node.formeds l s a b c=true→l.length=s.length→∀k∈l,zm k.op∈s∧k.formed a b c=true
 | [],s,a,b,c,_,_=>by simp
 | n::r,[],a,b,c,h,hl=>by simp at hl
 | n::r,d::s,a,b,c,h,hl=>by
  simp only[Node.formeds,bO,pC,BV,List.tail_cons]at h;obtain⟨h1,h2,h3⟩:=h;intro k hk
  rcases sU.1 hk with rfl | hk
  ·exact⟨by rw[h1];simp,h2⟩
  ·have:=XI r s a b c h3 (by simpa using hl) k hk;exact⟨List.mem_cons_of_mem _ this.1,this.2⟩
theorem zHH {n:Node} (h:yO n.op=true):n.sym.op=n.op:=by
 unfold Node.sym;rw[bA h];rfl
theorem zAZ : ∀ {l:List Node} {s:Node},s∈Node.symss l→∃k∈l,s∈k.syms
 | [],s,h=>by cases h
 | n::r,s,h=>by
  have h':s∈n.syms++Node.symss r:=h
  rcases sB.1 h' with h' | h'
  ·exact⟨n,by simp,h'⟩
  ·obtain⟨k,k1,k2⟩:=zAZ h';exact⟨k,by simp[k1],k2⟩
structure Fm (n:Node):Prop where
 op:(1≤n.op∧n.op≤13)∨(20≤n.op∧n.op≤32)∨n.op=37∨n.op=38
 kids : ∀k∈n.kids,(zm k.op=1∨zm k.op=2)∧∃a b c,k.formed a b c=true
 leaf:n.op=11∨n.op=38→n.kids.length=0
theorem U6 {o:Int} (h:zm o=2):20≤o∧o≤39:=by
 unfold zm at h;by_cases h1:20≤o∧o≤39
 ·exact h1
 ·repeat' split at h
  all_goals omega
theorem zOf {n:Node} (hs:zm n.op=1∨zm n.op=2) {a b c:Bool} (h:n.formed a b c=true) (hm:n.has yN=false):Fm n:=by
 have ho:(1≤n.op∧n.op≤13)∨(20≤n.op∧n.op≤32)∨n.op=37∨n.op=38:=by
  rcases hs with e | e
  ·exact .inl (ZP e)
  ·have:=U6 e;rw[Node.has_eq,BT]at hm;have hm1:=hm.1;unfold yN at hm1;simp only[BT,decide_eq_false_iff_not]at hm1;omega
 rw[Node.formed_eq]at h;simp only[bO,pC]at h;obtain⟨_,_,h3,h4,_⟩:=h;have small : ∀d∈yV n.op n.kids.length,d=1∨d=2:=by
  unfold yV;by_cases c1:n.op=10∨n.op=37
  ·rw[bA c1];intro d hd;exact .inl (BM hd)
  ·rw[hZ c1,hZ (by omega)];unfold zP;have e1 : ¬(n.op=59∨n.op=60):=by omega
   have e2 : ¬(n.op=57∨n.op=58):=by omega
   have e3 : ¬(n.op=35∨n.op=36):=by omega
   simp only[e1,e2,e3,if_false];intro d hd
   repeat' split at hd
   all_goals simp at hd
   all_goals omega
 refine⟨ho,fun k hk=>?_,fun e=>?_⟩
 ·obtain⟨k1,k2⟩:=XI _ _ _ _ _ h4 h3 k hk;have:=small _ k1;exact⟨by omega,_,_,_,k2⟩
 ·rw[h3];unfold yV
  rcases e with e | e <;> rw[e] <;> rfl
theorem Fm.head {n:Node} (h:Fm n) (hs:yO n.op=true):n.head=n.sym:=by
 have ho:=h.op;by_cases c:n.op=10∨n.op=37
 ·exact (X7 c).symm
 ·have e:n.op=11∨n.op=38:=by
   unfold yO at hs;simp only[aU,pC]at hs;omega
  rw[qZ (by omega)];unfold Node.head;rw[hZ (by rw[h.leaf e];simp)]
theorem zEu (I:List Pr) (s:Node):(kO I s).isNone = !known I s:=by
 induction I with
 | nil=>rfl
 | cons p r ih =>
  unfold kO;have e:known (p::r) s=(decide (p.what.cmp s=0)||known r s):=rfl;rw[e];by_cases c:p.what.cmp s=0
  ·rw[bA c,bG c];rfl
  ·rw[hZ c,bH c,ih,bZ]
theorem zA0 (I:List Pr) : ∀n:Node,(zm n.op=1∨zm n.op=2)→(∃a b c,n.formed a b c=true)→n.has yN=false→n.unk I=(n.has (xD 13) || !n.syms.all (known I)):=by
 refine Node.ind' fun n ih hs hf hm=>?_;obtain⟨a,b,c,hf⟩:=hf;have fm:=zOf hs hf hm;have kids : ∀l:List Node,(∀k∈l,k∈n.kids)→Node.unks I l=(Node.hass (xD 13) l || !(Node.symss l).all (known I)):=by
  intro l
  induction l with
  | nil=>intro _;rfl
  | cons k r ihr =>
   intro hl;have h1:=hl k (by simp);obtain⟨k1,k2⟩:=fm.kids k h1;have e:=ih k h1 k1 k2 (uW hm h1)
   show (k.unk I||Node.unks I r)=((k.has (xD 13)||Node.hass (xD 13) r) || !(k.syms++Node.symss r).all (known I))
   rw[e,ihr fun x hx=>hl x (by simp[hx]),List.all_append]
   cases k.has (xD 13) <;> cases Node.hass (xD 13) r <;> cases k.syms.all (known I) <;> cases (Node.symss r).all (known I) <;> rfl
 rw[Node.unk_eq,kids _ fun k hk=>hk,Node.has_eq,Node.syms_eq,List.all_append];have e13:xD 13 n.op=decide (n.op=13):=rfl;rw[e13]
 cases es:yO n.op
 ·rw[hZ (by simp),BK,bC,bB,bZ,Bool.or_assoc]
 ·rw[bA rfl,fm.head es,zEu,HR,BK,bX,bC]
  cases decide (n.op=13) <;> cases Node.hass (xD 13) n.kids <;> cases known I n.sym <;> cases (Node.symss n.kids).all (known I) <;> rfl
theorem zA1 : ∀n:Node,zm n.op=1→(∃a b c,n.formed a b c=true)→∀s∈n.syms,s.op=10∨s.op=11:=by
 refine Node.ind' fun n ih hs hf s h=>?_;obtain⟨a,b,c,hf⟩:=hf;have tm:=zHx hs hf;rw[Node.syms_eq]at h
 rcases sB.1 h with h | h
 ·cases es:yO n.op
  ·rw[es,hZ (by simp)]at h;cases h
  ·rw[es,bA rfl,AA]at h;have e:=zHH es;rw[←h]at e;rw[e];have ho:=tm.op;unfold yO at es;simp only[aU,pC]at es;omega
 ·obtain⟨k,k1,k2⟩:=zAZ h;obtain⟨k3,k4⟩:=tm.kids k k1;exact ih k k1 k3 k4 s k2
theorem Xd {I:List Pr} (hI : ∀p∈I,p.ok) (hg:GoodI I) {s:Node} (hk:known I s=true) : ∃w,kO I s=some w∧w.ok∧w.syms=[]∧w.has (xD 12)=false∧w.has yN=false∧(s.op=10∨s.op=11→zm w.op=1∧w.formed false false false=true)∧(s.op=37∨s.op=38→zm w.op=2∧w.formed false false false=true):=by
 obtain⟨w,h1,p,hp,rfl,hc⟩:=J6 I s hk;have e:=(cmp_eq _ _).1 hc;subst e;exact⟨_,h1,(hI p hp).wth,hg.syms p hp,(hg.plain p hp).1,(hg.plain p hp).2.2,hg.term p hp,hg.form p hp⟩
theorem zMZ {B:Nat} {L:List Bd} {I:List Pr} (h:RC B L I) (hg:GoodI I) (n:Node) (hn:n.ok) (hs:zm n.op=1) (hf : ∃a b c,n.formed a b c=true) (hk:n.syms.all (known I)=true):EvR B L I (val B L I n) n:=by
 refine WZ h _ n hn hs hf fun s hsy=>?_;obtain⟨w,h1,h2,h3,_,_,h4,_⟩:=Xd h.okI hg (pD.1 hk s hsy);obtain⟨t1,t2⟩:=h4 (zA1 n hs hf s hsy);refine⟨w,h1,?_⟩;have e:Y5 B L I s=w.ev B L Un:=by unfold Y5;rw[h1]
 rw[e];exact WZ h Un w h2 t1 ⟨_,_,_,t2⟩ fun s hs=>by rw[h3]at hs;cases hs
theorem zJj {L:List Bd} {I:List Pr} (h:RC 4096 L I) (hg:GoodI I) (n:Node) (hn:n.ok) (hs:zm n.op=1) (hf : ∃a b c,n.formed a b c=true) (hk:n.syms.all (known I)=true):xn L I (val 4096 L I n) n:=by
 refine W1 h _ (zAS (by omega) L I) (J7 4096 L I) n hn hs hf fun s hsy=>?_;obtain⟨w,h1,h2,h3,h12,_,h4,_⟩:=Xd h.okI hg (pD.1 hk s hsy);obtain⟨t1,t2⟩:=h4 (zA1 n hs hf s hsy);refine⟨w,h1,?_,h12⟩;have e:Y5 4096 L I s=w.ev 4096 L Un:=by unfold Y5;rw[h1]
 rw[e];exact W1 h Un (fun _ _ _ _ _ h=>(by cases h)) (fun _ _ _ _ h=>(by cases h)) w h2 t1 ⟨_,_,_,t2⟩ fun s hs=>by rw[h3]at hs;cases hs
def zTQ (o c:Int):Bool:=if o=22 then decide (c=0) else if o=23 then !decide (c=0) else if o=24 then decide (c<0) else if o=25 then decide (c≤0) else if o=26 then decide (0<c) else decide (0≤c)
def zQK (o:Int) (a b:Bool):Bool:=if o=29 then a&&b else if o=30 then a||b else if o=31 then !a||b else a == b
def kc (tv:Node→DV→Bool→Option DV) (sy:Node→DV→Option Bool) (n:Node) (k0 k1:DV→Option Bool) (dot:DV):Option Bool :=
 if n.op=20 then some true
 else if n.op=21 then some false
 else if n.op=28 then (k0 dot).map fun b => !b
 else if 29≤n.op∧n.op≤32 then (k0 dot).bind fun a=>(k1 dot).map fun b=>zQK n.op a b
 else if n.op=37∨n.op=38 then
  if n.kids.length≠0 then (tv (n.kids.getD 0 nd0) dot false).bind fun d=>sy n.sym d else sy n.sym dot
 else (tv (n.kids.getD 0 nd0) dot false).bind fun x=>(tv (n.kids.getD 1 nd0) dot false).map fun y=>zTQ n.op (Xe x.1 y.1)
mutual
def Node.tr (tv:Node→DV→Bool→Option DV) (sy:Node→DV→Option Bool):Node→DV→Option Bool
 | .mk a b c d e f=>kc tv sy (.mk a b c d e f) ((Node.trs tv sy f).getD 0 fun _=>none) ((Node.trs tv sy f).getD 1 fun _=>none)
def Node.trs (tv:Node→DV→Bool→Option DV) (sy:Node→DV→Option Bool):List Node→List (DV→Option Bool)
 | []=>[]
 | n::r=>n.tr tv sy::Node.trs tv sy r
end
def kt (tv:Node→DV→Bool→Option DV) (sy:Node→DV→Option Bool) (l:List Node) (i:Nat):DV→Option Bool:=(Node.trs tv sy l).getD i fun _=>none
theorem Node.tr_eq (tv:Node→DV→Bool→Option DV) (sy:Node→DV→Option Bool) (n:Node):n.tr tv sy=kc tv sy n (kt tv sy n.kids 0) (kt tv sy n.kids 1):=by cases n;rfl
theorem U7 (tv:Node→DV→Bool→Option DV) (sy:Node→DV→Option Bool) : ∀(l:List Node) (i:Nat),i<l.length→kt tv sy l i=(l.getD i nd0).tr tv sy
 | [],i,h=>by simp at h
 | n::r,0,h=>rfl
 | n::r,i+1,h=>U7 tv sy r i (by simpa using h)
theorem zM0 (tv:Node→DV→Bool→Option DV) (sy:Node→DV→Option Bool) : ∀(l:List Node) (i:Nat),l.length≤i→kt tv sy l i=fun _=>none
 | [],i,h=>by simp[kt,Node.trs]
 | n::r,0,h=>by simp at h
 | n::r,i+1,h=>zM0 tv sy r i (by simpa using h)
theorem zIE {tv tw:Node→DV→Bool→Option DV} {sy sz:Node→DV→Option Bool} (ht : ∀n d f x,tv n d f=some x→tw n d f=some x) (hs : ∀s d x,sy s d=some x→sz s d=some x) : ∀n:Node,∀d x,n.tr tv sy d=some x→n.tr tw sz d=some x:=by
 refine Node.ind' fun n ih d x h=>?_;have mono : ∀i d x,kt tv sy n.kids i d=some x→kt tw sz n.kids i d=some x:=by
  intro i d x hx;by_cases hi:i<n.kids.length
  ·rw[U7 _ _ _ _ hi]at hx ⊢;exact ih _ (zu hi) d x hx
  ·rw[zM0 _ _ _ _ (by omega)]at hx;cases hx
 rw[Node.tr_eq]at h ⊢;unfold kc at h ⊢;by_cases c:n.op=20
 ·rw[bA c]at h ⊢;exact h
 rw[hZ c]at h ⊢;clear c;by_cases c:n.op=21
 ·rw[bA c]at h ⊢;exact h
 rw[hZ c]at h ⊢;clear c;by_cases c:n.op=28
 ·rw[bA c]at h ⊢;obtain⟨b,h1,h2⟩:=HB.1 h;exact HB.2 ⟨b,mono 0 _ _ h1,h2⟩
 rw[hZ c]at h ⊢;clear c;by_cases c:29≤n.op∧n.op≤32
 ·rw[bA c]at h ⊢;obtain⟨a,h1,h2⟩:=bM.1 h;obtain⟨b,h3,h4⟩:=HB.1 h2;exact bM.2 ⟨a,mono 0 _ _ h1,HB.2 ⟨b,mono 1 _ _ h3,h4⟩⟩
 rw[hZ c]at h ⊢;clear c;by_cases c:n.op=37∨n.op=38
 ·rw[bA c]at h ⊢;by_cases c2:n.kids.length≠0
  ·rw[bA c2]at h ⊢;obtain⟨a,h1,h2⟩:=bM.1 h;exact bM.2 ⟨a,ht _ _ _ _ h1,hs _ _ _ h2⟩
  ·rw[hZ c2]at h ⊢;exact hs _ _ _ h
 rw[hZ c]at h ⊢;clear c;obtain⟨a,h1,h2⟩:=bM.1 h;obtain⟨b,h3,h4⟩:=HB.1 h2;exact bM.2 ⟨a,ht _ _ _ _ h1,HB.2 ⟨b,ht _ _ _ _ h3,h4⟩⟩
def zM1:Node→DV→Option Bool:=fun _ _=>none
def U8 (B:Nat) (st:List Bd) (I:List Pr) (s:Node):DV→Option Bool:=match kO I s with
 | some w=>w.tr (fun k=>k.ev B st Un) zM1
 | none=>fun _=>none
def tru (B:Nat) (st:List Bd) (I:List Pr) (n:Node):DV→Option Bool:=n.tr (val B st I) (U8 B st I)
theorem zHI {B B':Nat} (hB:B≤B') {st:List Bd} {I:List Pr} (s:Node) (d:DV) (x:Bool) (h:U8 B st I s d=some x):U8 B' st I s d=some x:=by
 unfold U8 at h ⊢
 cases e:kO I s with
 | none=>rw[e]at h;cases h
 | some w=>rw[e]at h;exact zIE (fun n=>zCI hB (fun _ _ _ _ h=>h) n) (fun _ _ _ h=>h) w d x h
theorem zM2 {B B':Nat} (hB:B≤B') {st:List Bd} {I:List Pr} {n:Node} {d:DV} {x:Bool} (h:tru B st I n d=some x):tru B' st I n d=some x:=zIE (fun n d f x h=>zLn hB h) (zHI hB) n d x h
structure Fo (n:Node):Prop where
 op:(20≤n.op∧n.op≤32)∨n.op=37∨n.op=38
 form:28≤n.op∧n.op≤32→∀k∈n.kids,zm k.op=2∧∃a b c,k.formed a b c=true
 term:(22≤n.op∧n.op≤27)∨n.op=37→∀k∈n.kids,zm k.op=1∧∃a b c,k.formed a b c=true
 two:(22≤n.op∧n.op≤27)∨(29≤n.op∧n.op≤32)→n.kids.length=2
 one:n.op=28→n.kids.length=1
 none:n.op=38→n.kids.length=0
theorem zOg {n:Node} (hs:zm n.op=2) {a b c:Bool} (h:n.formed a b c=true) (hm:n.has yN=false):Fo n:=by
 have ho:(20≤n.op∧n.op≤32)∨n.op=37∨n.op=38:=by
  have:=U6 hs;rw[Node.has_eq,BT]at hm;have hm1:=hm.1;unfold yN at hm1;simp only[BT,decide_eq_false_iff_not]at hm1;omega
 rw[Node.formed_eq]at h;simp only[bO,pC]at h;obtain⟨_,_,h3,h4,_⟩:=h;have key:=XI _ _ _ _ _ h4 h3;have ks:n.op≠37→yV n.op n.kids.length=zP n.op:=fun e=>by
  unfold yV;rw[hZ (by omega),hZ (by omega)]
 have k2 : ∀o:Int,29≤o∧o≤32→zP o=[2,2]:=fun o ho=>by
  have:o=29∨o=30∨o=31∨o=32:=by omega
  rcases this with rfl | rfl | rfl | rfl <;> rfl
 have k1 : ∀o:Int,22≤o∧o≤27→zP o=[1,1]:=fun o ho=>by
  have:o=22∨o=23∨o=24∨o=25∨o=26∨o=27:=by omega
  rcases this with rfl | rfl | rfl | rfl | rfl | rfl <;> rfl
 refine⟨ho,fun e k hk=>?_,fun e k hk=>?_,fun e=>?_,fun e=>?_,fun e=>?_⟩
 ·obtain⟨m1,m2⟩:=key k hk;rw[ks (by omega)]at m1;refine⟨?_,_,_,_,m2⟩;by_cases c:n.op=28
  ·rw[c]at m1
   simpa using (show zm k.op∈[2] from m1)
  ·rw[k2 _ (by omega)]at m1
   simpa using m1
 ·obtain⟨m1,m2⟩:=key k hk;refine⟨?_,_,_,_,m2⟩;by_cases c:n.op=37
  ·unfold yV at m1;rw[bA (.inr c)]at m1;exact BM m1
  ·rw[ks c,k1 _ (by omega)]at m1
   simpa using m1
 ·rw[h3,ks (by omega)]
  rcases e with e | e
  ·rw[k1 _ e];rfl
  ·rw[k2 _ e];rfl
 ·rw[h3,ks (by omega),e];rfl
 ·rw[h3,ks (by omega),e];rfl
section
def IsT (r:Option Bool) (y f:Bool):Prop:=match r with
 | some b=>y=b∧f=false
 | none=>f=true
theorem zOA {r1 r2:Option Bool} {y1 y2 f1 f2:Bool} (o:Int) (h1:IsT r1 y1 f1) (h2:IsT r2 y2 f2):IsT (r1.bind fun a=>r2.map fun b=>zQK o a b) (zQK o y1 y2) (f1||f2):=by
 cases r1 with
 | none =>
  have e:f1=true:=h1;rw[e];rfl
 | some a =>
  obtain⟨rfl,rfl⟩:=h1;cases r2 with
  | none =>
   have e:f2=true:=h2;rw[e];rfl
  | some b =>
   obtain⟨rfl,rfl⟩:=h2;exact⟨rfl,rfl⟩
def Yb (B:Nat) (L:List Bd) (I:List Pr) (g:DV→Option Bool) (w:Node):Prop:=∀(a c:Rat),kE B (a,c)→∃y f,callL Tryz.prog zE 52 [.agg w.cells,.sl (ya L) false,.sl (zY I) false,.agg (dc a c B false)]=some (.tup [.bool y,.bool f])∧IsT (g (a,c)) y f
theorem Yb.o {B:Nat} {L:List Bd} {I:List Pr} {g:DV→Option Bool} {w:Node} (h:Yb B L I g w) {a c:Rat} (hf:kE B (a,c)) : ∃y f,(∀S,zO (callL Tryz.prog zE) S 52 [.agg w.cells,.sl (ya L) false,.sl (zY I) false,.agg (dc a c B false)]=some {v:=.tup [.bool y,.bool f]})∧IsT (g (a,c)) y f:=by
 obtain⟨y,f,h1,h2⟩:=h a c hf;exact⟨y,f,fun S=>zF h1 (by simp[Node.plain,zi.sl,um]),h2⟩
theorem zOB (S:zB) (q r:Rat) (hq:wn q 300000) (hr:wn r 300000):zO (callL Tryz.prog zE) S 95 [rrV q,rrV r]=some {v:=.int .i64 (Xe q r)} := zF (zDn q r hq hr) (by simp[vN])
section
attribute [local irreducible] Vs.callL Vs.callRL tyi zO zk zf zQ zW zZ zI zX zA zK zb zV zG zJ zU zs yL zr zL za Vs.gc zH
noncomputable def zTR:FX:=⟨Tryz.f52,zE.of 52,[]⟩
instance ok52_:zTR.ok 52:=FX.mk'
theorem zHJ {B:Nat} {L:List Bd} {I:List Pr} (h:RC B L I) (tv:Node→DV→Bool→Option DV) (sy:Node→DV→Option Bool) (n:Node) (hn:n.ok) (ho:n.op=20):Yb B L I (n.tr tv sy) n:=by
 intro a c hf;rw[Node.tr_eq];unfold kc;rw[bA ho];refine⟨true,false,?_,rfl,rfl⟩;apply FX.callV ok52_ 1000 rfl rfl
 ·unfold dc at *;unfold zg yI at *;((repeat((conv=>lhs;whnf);simp only[go_sem,simprocAttr,ho]));try rfl)
 ·rfl
theorem zEv {B:Nat} {L:List Bd} {I:List Pr} (h:RC B L I) (tv:Node→DV→Bool→Option DV) (sy:Node→DV→Option Bool) (n:Node) (hn:n.ok) (ho:n.op=21):Yb B L I (n.tr tv sy) n:=by
 intro a c hf;rw[Node.tr_eq];unfold kc;rw[hZ (by rw[ho];decide),bA ho];refine⟨false,false,?_,rfl,rfl⟩;apply FX.callV ok52_ 1000 rfl rfl
 ·unfold dc at *;unfold zg yI at *;((repeat((conv=>lhs;whnf);simp only[go_sem,simprocAttr,ho]));try rfl)
 ·rfl
theorem zJk {B:Nat} {L:List Bd} {I:List Pr} (h:RC B L I) (tv:Node→DV→Bool→Option DV) (sy:Node→DV→Option Bool) (n:Node) (hn:n.ok) (ho:n.op=28) (h0:0<n.kids.length) (k0:Yb B L I ((n.kids.getD 0 nd0).tr tv sy) (n.kids.getD 0 nd0)):Yb B L I (n.tr tv sy) n:=by
 intro a c hf;rw[Node.tr_eq];unfold kc;rw[hZ (by rw[ho];decide),hZ (by rw[ho];decide),bA ho];obtain⟨y1,f1,e1,i1⟩:=k0.o hf;rw[U7 _ _ _ _ h0];have x0:=qa h0;refine⟨!y1,f1,?_,?_⟩
 rotate_left
 ·cases hk:(n.kids.getD 0 nd0).tr tv sy (a,c) with
  | none=>rw[hk]at i1;exact i1
  | some b=>rw[hk]at i1;exact⟨by rw[i1.1],i1.2⟩
 apply FX.callV ok52_ 1000 rfl rfl
 ·unfold dc at *;unfold zg yI at *;((repeat((conv=>lhs;whnf);simp only[go_sem,simprocAttr,ho,x0,e1]));try rfl)
 ·rfl
theorem zJl {B:Nat} {L:List Bd} {I:List Pr} (h:RC B L I) (tv:Node→DV→Bool→Option DV) (sy:Node→DV→Option Bool) (n:Node) (hn:n.ok) (ho:29≤n.op∧n.op≤32) (h0:0<n.kids.length) (h1:1<n.kids.length) (k0:Yb B L I ((n.kids.getD 0 nd0).tr tv sy) (n.kids.getD 0 nd0)) (k1:Yb B L I ((n.kids.getD 1 nd0).tr tv sy) (n.kids.getD 1 nd0)):Yb B L I (n.tr tv sy) n:=by
 intro a c hf;rw[Node.tr_eq];unfold kc;rw[hZ (by omega),hZ (by omega),hZ (by omega),bA ho];obtain⟨y1,f1,e1,i1⟩:=k0.o hf;obtain⟨y2,f2,e2,i2⟩:=k1.o hf;rw[U7 _ _ _ _ h0,U7 _ _ _ _ h1];have x0:=qa h0;have x1:=V6 h1;refine⟨_,_,?_,zOA n.op i1 i2⟩;have ho':n.op=29∨n.op=30∨n.op=31∨n.op=32:=by omega
 rcases ho' with e | e | e | e <;> rw[e] <;> clear i1 i2 ho <;> cases y1 <;> cases f1 <;> (apply FX.callV ok52_ 1000 rfl rfl;unfold dc at *;unfold zg yI at *;((repeat((conv=>lhs;whnf);simp only[go_sem,simprocAttr,e,x0,x1,e1,e2]));try rfl))
theorem zJm {B:Nat} {L:List Bd} {I:List Pr} (h:RC B L I) (tv:Node→DV→Bool→Option DV) (sy:Node→DV→Option Bool) (n:Node) (hn:n.ok) (ho:22≤n.op∧n.op≤27) (h0:0<n.kids.length) (h1:1<n.kids.length) (k0:EvR B L I (tv (n.kids.getD 0 nd0)) (n.kids.getD 0 nd0)) (k1:EvR B L I (tv (n.kids.getD 1 nd0)) (n.kids.getD 1 nd0)):Yb B L I (n.tr tv sy) n:=by
 intro a c hf;rw[Node.tr_eq];unfold kc;rw[hZ (by omega),hZ (by omega),hZ (by omega),hZ (by omega),hZ (by omega)];obtain⟨v1,d1,b1,f1,e1,i1⟩:=k0.o false hf;obtain⟨v2,d2,b2,f2,e2,i2⟩:=k1.o false hf;have x0:=qa h0;have x1:=V6 h1;have ho':n.op=22∨n.op=23∨n.op=24∨n.op=25∨n.op=26∨n.op=27:=by omega
 cases hx:tv (n.kids.getD 0 nd0) (a,c) false with
 | none =>
  rw[hx]at i1;have ef:f1=true:=i1;subst ef;refine⟨false,true,?_,rfl⟩
  rcases ho' with e | e | e | e | e | e <;> (apply FX.callV ok52_ 1000 rfl rfl;unfold dc at *;unfold zg yI at *;((repeat((conv=>lhs;whnf);simp only[go_sem,simprocAttr,e,x0,x1,e1,e2]));try rfl))
 | some x =>
  rw[hx]at i1;obtain⟨rfl,rfl,rfl,rfl,g1,g2⟩:=i1
  cases hy:tv (n.kids.getD 1 nd0) (a,c) false with
  | none =>
   rw[hy]at i2;have ef:f2=true:=i2;subst ef;refine⟨false,true,?_,rfl⟩
   rcases ho' with e | e | e | e | e | e <;> (apply FX.callV ok52_ 1000 rfl rfl;unfold dc at *;unfold zg yI at *;((repeat((conv=>lhs;whnf);simp only[go_sem,simprocAttr,e,x0,x1,e1,e2]));try rfl))
  | some y =>
   rw[hy]at i2;obtain⟨rfl,rfl,rfl,rfl,g3,g4⟩:=i2;have cm:=fun S=>zOB S x.1 y.1 (Y6 h.b2 g1) (Y6 h.b2 g3);refine⟨zTQ n.op (Xe x.1 y.1),false,?_,rfl,rfl⟩;generalize Xe x.1 y.1=q at *
   rcases ho' with e | e | e | e | e | e <;> rw[e] <;> (apply FX.callV ok52_ 1000 rfl rfl;unfold dc at *;unfold rrV rrL zg yI at *;((repeat((conv=>lhs;whnf);simp only[go_sem,simprocAttr,e,x0,x1,e1,e2,cm]));try rfl))
theorem zJn {B:Nat} {L:List Bd} {I:List Pr} (h:RC B L I) (tv:Node→DV→Bool→Option DV) (sy:Node→DV→Option Bool) (n:Node) (hn:n.ok) (ho:n.op=37∨n.op=38) (hh:n.head=n.sym) (hk:0<n.kids.length→EvR B L I (tv (n.kids.getD 0 nd0)) (n.kids.getD 0 nd0)) {w:Node} (hw:kO I n.sym=some w) (kw:Yb B L I (sy n.sym) w):Yb B L I (n.tr tv sy) n:=by
 intro a c hf;rw[Node.tr_eq];unfold kc;rw[hZ (by omega),hZ (by omega),hZ (by omega),hZ (by omega),bA ho];have hM:=fun S=>Xa S I h.okI h.len n hn;rw[hh,hw]at hM;unfold U5 at hM;by_cases h0:0<n.kids.length
 ·rw[bA (by omega)];have x0:=qa h0;have y0:(0:Int)<(n.kids.length:Int):=by omega
  obtain⟨v1,d1,b1,f1,e1,i1⟩:=(hk h0).o false hf
  cases ex:tv (n.kids.getD 0 nd0) (a,c) false with
  | none =>
   rw[ex]at i1;have ef:f1=true:=i1;subst ef;refine⟨false,true,?_,rfl⟩
   rcases ho with e | e <;> (apply FX.callV ok52_ 1000 rfl rfl;unfold dc at *;unfold zg yI at *;((repeat((conv=>lhs;whnf);simp only[go_sem,simprocAttr,e,x0,hM,e1,zn]));try rfl))
  | some x =>
   rw[ex]at i1;obtain⟨rfl,rfl,rfl,rfl,g1,g2⟩:=i1;rw[bI];obtain⟨y,f,e2,i2⟩:=kw.o (a:=x.1) (c:=x.2) ⟨g1,g2⟩;refine⟨y,f,?_,i2⟩
   rcases ho with e | e <;> (apply FX.callV ok52_ 1000 rfl rfl;unfold dc at *;unfold zg yI at *;((repeat((conv=>lhs;whnf);simp only[go_sem,simprocAttr,e,x0,hM,e1,e2,zn]));try rfl))
 ·rw[hZ (by omega)];have y0 : ¬(0:Int)<(n.kids.length:Int):=by omega
  obtain⟨y,f,e2,i2⟩:=kw.o hf;refine⟨y,f,?_,i2⟩
  rcases ho with e | e <;> (apply FX.callV ok52_ 1000 rfl rfl;unfold dc at *;unfold zg yI at *;((repeat((conv=>lhs;whnf);simp only[go_sem,simprocAttr,e,y0,hM,e2,zn]));try rfl))
end
theorem U9 {B:Nat} {L:List Bd} {I:List Pr} (h:RC B L I) (tv:Node→DV→Bool→Option DV) (sy:Node→DV→Option Bool) : ∀n:Node,n.ok→zm n.op=2→(∃a b c,n.formed a b c=true)→n.has yN=false→(∀k:Node,k.ok→zm k.op=1→(∃a b c,k.formed a b c=true)→(∀s∈k.syms,s∈n.syms)→EvR B L I (tv k) k)→(∀s∈n.syms,s.op=37∨s.op=38→∃w,kO I s=some w∧Yb B L I (sy s) w)→Yb B L I (n.tr tv sy) n:=by
 refine Node.ind' fun n ih hn hs hf hm hev hsy=>?_;obtain⟨a,b,c,hf⟩:=hf;have fo:=zOg hs hf hm;have ho:=fo.op;have kf:28≤n.op∧n.op≤32→∀i,i<n.kids.length→Yb B L I ((n.kids.getD i nd0).tr tv sy) (n.kids.getD i nd0):=by
  intro e i hi;have hmem:=zu hi;obtain⟨k1,k2⟩:=fo.form e _ hmem;exact ih _ hmem (hn.kids _ hmem) k1 k2 (uW hm hmem) (fun k g1 g2 g3 g4=>hev k g1 g2 g3 fun s hx=>qJ hmem (g4 s hx)) (fun s hx=>hsy s (qJ hmem hx))
 have kt:(22≤n.op∧n.op≤27)∨n.op=37→∀i,i<n.kids.length→EvR B L I (tv (n.kids.getD i nd0)) (n.kids.getD i nd0):=by
  intro e i hi;have hmem:=zu hi;obtain⟨k1,k2⟩:=fo.term e _ hmem;exact hev _ (hn.kids _ hmem) k1 k2 fun s hx=>qJ hmem hx
 by_cases e1:n.op=20
 ·exact zHJ h tv sy n hn e1
 by_cases e2:n.op=21
 ·exact zEv h tv sy n hn e2
 by_cases e3:n.op=28
 ·have l:=fo.one e3;exact zJk h tv sy n hn e3 (by omega) (kf (by omega) 0 (by omega))
 by_cases e4:29≤n.op∧n.op≤32
 ·have l:=fo.two (.inr e4);exact zJl h tv sy n hn e4 (by omega) (by omega) (kf (by omega) 0 (by omega)) (kf (by omega) 1 (by omega))
 by_cases e5:22≤n.op∧n.op≤27
 ·have l:=fo.two (.inl e5);exact zJm h tv sy n hn e5 (by omega) (by omega) (kt (by omega) 0 (by omega)) (kt (by omega) 1 (by omega))
 have e6:n.op=37∨n.op=38:=by omega
 have es:yO n.op=true:=by rcases e6 with e | e <;> rw[e] <;> rfl
 obtain⟨w,hw,kw⟩:=hsy _ (qd es) (by rw[zHH es];exact e6);refine zJn h tv sy n hn e6 ((zOf (.inr hs) hf hm).head es) (fun h0=>?_) hw kw
 rcases e6 with e | e
 ·exact kt (.inr e) 0 h0
 ·have:=fo.none e;omega
end
section
def jV (L:List Bd) (I:List Pr) (g:DV→Option Bool) (w:Node):Prop:=∀(a:Rat) (x:Bool) (S:zB) (id:Nat),kE 4096 (a,0)→g (a,0)=some x→ES S id (evc L I a 0 false false)→∃X,callRL Tryz.prog zE 72 [.mp id 0 0,.agg w.cells] S=some (.bool x,S++X)∧vt (S.length+X.length) X=true
theorem jV.m {L:List Bd} {I:List Pr} {g:DV→Option Bool} {w:Node} (h:jV L I g w) {a:Rat} {x:Bool} {S:zB} {id:Nat} (h1:kE 4096 (a,0)) (h4:g (a,0)=some x) (h5:ES S id (evc L I a 0 false false)) : ∃X,zk Tryz.prog zE S 72 [.mp id 0 0,.agg w.cells]=some {v:=.bool x,S:=S++X} ∧ vt (S.length+X.length) X=true:=by
 obtain⟨X,k1,k2⟩:=h a x S id h1 h4 h5;refine⟨X,xd (by kernel_rfl) k1 (by rw[bJ];omega) h5.low ?_,k2⟩;have:=h5.lt;simp[xz,yF,yb,wK,uH,Node.refs,this]
def F0 (id:Nat) (n:Node):zB:=[.arr [[.mp id 0 0]] none false,.arr [n.cells] none false]
theorem W2 {id N:Nat} (h:id<N) (n:Node):vt N (F0 id n)=true:=by
 unfold F0;simp only[ye,xM,yC (yU _),bX];simp[yg,yF,yb,wK,wA,h]
theorem ES.F0 {S:zB} {id:Nat} {c:List PV} (h:ES S id c) (n:Node):ES (S++Vs.F0 id n) id c:=h.app (W2 (by have:=h.lt;omega) n)
theorem W3 (id:Nat) (n:Node):(F0 id n).length=2:=rfl
theorem zQL (S:zB) (q r:Rat) (hq:wH q 4096) (hr:wH r 4096):zO (callL Tryz.prog zE) S 68 [xT q,xT r]=some {v:=.int .i64 (Xe q r)} := zF (zBK q r (hq.mono (by omega)) (hr.mono (by omega))) (by simp[wU])
section
attribute [local irreducible] Vs.callL Vs.callRL tyi zO zk zf zQ zW zZ zI zX zA zK zb zV zG zJ zU zs yL zr zL za Vs.gc zH
noncomputable def zTS:FX:=⟨Tryz.f72,zE.of 72,[]⟩
instance ok72_:zTS.ok 72:=FX.mk'
theorem zJo {L:List Bd} {I:List Pr} (h:RC 4096 L I) (tv:Node→DV→Bool→Option DV) (sy:Node→DV→Option Bool) (n:Node) (hn:n.ok) (ho:n.op=20):jV L I (n.tr tv sy) n:=by
 intro a x S id hf hx hS;rw[Node.tr_eq]at hx;unfold kc at hx;rw[bA ho]at hx;obtain rfl:=Option.some.inj hx;obtain⟨N,hN⟩ : ∃N,S.length=N:=⟨_,rfl⟩;refine⟨F0 id n,?_,W2 (by have:=hS.lt;omega) n⟩;refine FX.callRL ok72_ 1000 rfl rfl ?_;unfold F0;((repeat((conv=>lhs;whnf);simp only[go_sem,simprocAttr,ho,hN,yn hN,xU,xB]));try rfl)
theorem zHK {L:List Bd} {I:List Pr} (h:RC 4096 L I) (tv:Node→DV→Bool→Option DV) (sy:Node→DV→Option Bool) (n:Node) (hn:n.ok) (ho:n.op=21):jV L I (n.tr tv sy) n:=by
 intro a x S id hf hx hS;rw[Node.tr_eq]at hx;unfold kc at hx;rw[hZ (by rw[ho];decide),bA ho]at hx;obtain rfl:=Option.some.inj hx;obtain⟨N,hN⟩ : ∃N,S.length=N:=⟨_,rfl⟩;refine⟨F0 id n,?_,W2 (by have:=hS.lt;omega) n⟩;refine FX.callRL ok72_ 1000 rfl rfl ?_;unfold F0;((repeat((conv=>lhs;whnf);simp only[go_sem,simprocAttr,ho,hN,yn hN,xU,xB]));try rfl)
theorem zM3 {L:List Bd} {I:List Pr} (h:RC 4096 L I) (tv:Node→DV→Bool→Option DV) (sy:Node→DV→Option Bool) (n:Node) (hn:n.ok) (ho:n.op=28) (h0:0<n.kids.length) (k0:jV L I ((n.kids.getD 0 nd0).tr tv sy) (n.kids.getD 0 nd0)):jV L I (n.tr tv sy) n:=by
 intro a x S id hf hx hS;rw[Node.tr_eq]at hx;unfold kc at hx;rw[hZ (by rw[ho];decide),hZ (by rw[ho];decide),bA ho]at hx;obtain⟨b,hb,rfl⟩:=HB.1 hx;rw[U7 _ _ _ _ h0]at hb;obtain⟨N,hN⟩ : ∃N,S.length=N:=⟨_,rfl⟩;have i0:=qa h0;obtain⟨X0,c0,l0⟩:=k0.m hf hb (hS.F0 n);refine⟨F0 id n++X0,?_,?_⟩
 rotate_left
 ·rw[xL,W2 (by have:=hS.lt;omega) n,yS l0 (by simp only[bJ,W3];omega)];rfl
 refine FX.callRL ok72_ 1000 rfl rfl ?_;unfold F0 at *;simp only[bS,pO,pF]at *;((repeat((conv=>lhs;whnf);simp only[go_sem,simprocAttr,ho,i0,c0,hN,yn hN,xU,xB]));try rfl)
theorem zM4 {L:List Bd} {I:List Pr} (h:RC 4096 L I) (tv:Node→DV→Bool→Option DV) (sy:Node→DV→Option Bool) (n:Node) (hn:n.ok) (ho:29≤n.op∧n.op≤32) (h0:0<n.kids.length) (h1:1<n.kids.length) (k0:jV L I ((n.kids.getD 0 nd0).tr tv sy) (n.kids.getD 0 nd0)) (k1:jV L I ((n.kids.getD 1 nd0).tr tv sy) (n.kids.getD 1 nd0)):jV L I (n.tr tv sy) n:=by
 intro a x S id hf hx hS;rw[Node.tr_eq]at hx;unfold kc at hx;rw[hZ (by omega),hZ (by omega),hZ (by omega),bA ho]at hx;obtain⟨y,hy,hx⟩:=bM.1 hx;obtain⟨b,hb,rfl⟩:=HB.1 hx;rw[U7 _ _ _ _ h0]at hy;rw[U7 _ _ _ _ h1]at hb;obtain⟨N,hN⟩ : ∃N,S.length=N:=⟨_,rfl⟩;have i0:=qa h0;have i1:=V6 h1;obtain⟨X0,c0,l0⟩:=k0.m hf hy (hS.F0 n);obtain⟨X1,c1,l1⟩:=k1.m hf hb ((hS.F0 n).app l0);refine⟨F0 id n++(X0++X1),?_,?_⟩
 rotate_left
 ·rw[xL,xL,W2 (by have:=hS.lt;omega) n,yS l0 (by simp only[bJ,W3];omega),yS l1 (by simp only[bJ,W3];omega)];rfl
 have ho':n.op=29∨n.op=30∨n.op=31∨n.op=32:=by omega
 unfold F0 at *;simp only[bS,pO,pF]at *;clear l0 l1 hy hb hx
 rcases ho' with e | e | e | e <;> rw[e] <;> cases y <;> (refine FX.callRL ok72_ 1000 rfl rfl ?_;((repeat((conv=>lhs;whnf);simp only[go_sem,simprocAttr,e,i0,i1,c0,c1,hN,yn hN,xU,xB]));try rfl))
end
end
section
theorem zTT:(tyi Tryz.prog 140).d=.array 6 4:=by kernel_rfl
theorem zOC:(tyi Tryz.prog 140).zero=some [.bool false,.bool false,.bool false,.bool false,.bool false,.bool false]:=by kernel_rfl
theorem zEw:(tyi Tryz.prog 4).size=1:=by kernel_rfl
theorem zA2:(tyi Tryz.prog 4).known=true:=by kernel_rfl
theorem zOD:(tyi Tryz.prog 4).isAgg=false:=by kernel_rfl
theorem zQM:(tyi Tryz.prog 4).zero=some [.bool false]:=by kernel_rfl
@[go_sem] theorem zQN (n:Nat):zU (tyi Tryz.prog 4) n=some {v:=.mp n 0 0,new:=some ([[.bool false]],none)} := nr (by
 unfold zU;rw[zQM];rfl)
@[go_sem] theorem zTU (a b c d e f:Bool):zV Tryz.prog 140 [(0,.bool a),(1,.bool b),(2,.bool c),(3,.bool d),(4,.bool e),(5,.bool f)]=some (.agg [.bool a,.bool b,.bool c,.bool d,.bool e,.bool f]):=nr (by
 unfold zV;rw[zTT];dsimp only;rw[zOC,zEw,zA2];rfl)
@[go_sem] theorem zTV (l:List PV) (i:Int):za Tryz.prog 140 (.agg l) (.int .i64 i)=if 0≤i∧i<6 then l[i.toNat]? else none:=nr (by
 unfold za;rw[zTT];dsimp only;rw[zEw,zA2,zOD];simp[uq])
section
attribute [local irreducible] Vs.callL Vs.callRL tyi zO zk zf zQ zW zZ zI zX zA zK zb zV zG zJ zU zs yL zr zL za Vs.gc zH
theorem zM5 {L:List Bd} {I:List Pr} (h:RC 4096 L I) (tv:Node→DV→Bool→Option DV) (tF : ∀k,Vs.Zq 4096 (tv k)) (tZ : ∀k,kq (tv k)) (sy:Node→DV→Option Bool) (n:Node) (hn:n.ok) (ho:22≤n.op∧n.op≤27) (h0:0<n.kids.length) (h1:1<n.kids.length) (k0:xn L I (tv (n.kids.getD 0 nd0)) (n.kids.getD 0 nd0)) (k1:xn L I (tv (n.kids.getD 1 nd0)) (n.kids.getD 1 nd0)):jV L I (n.tr tv sy) n:=by
 intro a x S id hf hx hS;rw[Node.tr_eq]at hx;unfold kc at hx;rw[hZ (by omega),hZ (by omega),hZ (by omega),hZ (by omega),hZ (by omega)]at hx;obtain⟨y,hy,hx⟩:=bM.1 hx;obtain⟨w,hw,rfl⟩:=HB.1 hx;obtain⟨N,hN⟩ : ∃N,S.length=N:=⟨_,rfl⟩;have i0:=qa h0;have i1:=V6 h1;obtain⟨X0,c0,l0⟩:=k0.m hf (fun _=>rfl) (fun e=>by cases e) hy (hS.F0 n);obtain⟨X1,c1,l1⟩:=k1.m hf (fun _=>rfl) (fun e=>by cases e) hw (((hS.F0 n).app l0).flat (jq y.1 y.2));have yf:=tF _ _ _ _ hf hy;have wf:=tF _ _ _ _ hf hw;have cm:=fun S=>zQL S y.1 w.1 yf.1 wf.1;refine⟨F0 id n++(X0++(.arr [d2 y.1 y.2] none false::(X1++[.arr [d2 w.1 w.2] none false]))),?_,?_⟩
 rotate_left
 ·simp only[xL,ye,xM,yC (xC _ _),bX,bC];rw[W2 (by have:=hS.lt;omega) n,yS l0 (by simp only[bJ,bL,bV,W3];omega),yS l1 (by simp only[bJ,bL,bV,W3];omega)];rfl
 have ho':n.op=22∨n.op=23∨n.op=24∨n.op=25∨n.op=26∨n.op=27:=by omega
 clear l0 l1 hy hw hx yf wf;generalize Xe y.1 w.1=q at *;simp only[wP]at *;unfold F0 d2 at *;unfold yB at *;simp only[bS,pO,pF]at *;have w0:IntKind.i64.wrap 0=0:=by decide
 have w1:IntKind.i64.wrap 1=1:=by decide
 have w2:IntKind.i64.wrap 2=2:=by decide
 have w3:IntKind.i64.wrap 3=3:=by decide
 have w4:IntKind.i64.wrap 4=4:=by decide
 have w5:IntKind.i64.wrap 5=5:=by decide
 rcases ho' with e | e | e | e | e | e <;> rw[e] <;> (refine FX.callRL ok72_ 1000 rfl rfl ?_;((repeat((conv=>lhs;whnf);simp only[go_sem,simprocAttr,e,i0,i1,c0,c1,cm,w0,w1,w2,w3,w4,w5,hN,yn hN,xU,xB]));try rfl))
noncomputable def zQO:FX:=⟨Tryz.f119,zE.of 119,[]⟩
instance ok119_:zQO.ok 119:=FX.mk'
theorem zM6 {L:List Bd} {I:List Pr} {g:DV→Option Bool} {w:Node} (kw:jV L I g w) {a:Rat} {S:zB} {id p q r:Nat} (hS:ES S id (evc L I a 0 false false)) (hp:S[p]? = some (.arr [[.mp id 0 0]] none false)) (hq:S[q]? = some (.arr [w.cells] none false)) (hr:S[r]? = some (.arr [[.bool false]] none false)) (np:id≠p) (nq:id≠q) (nr':id≠r) {a':Rat} {x:Bool} (hf:kE 4096 (a',0)) (hx:g (a',0)=some x):zQH L I false S id r (.fn 119 [] [.mp p 0 0,.mp q 0 0,.mp r 0 0]) [.bool x] a' 0:=by
 intro A hA;have h1:=hS.set (V7 L I a' 0 false false);have p1:=xA (uD (XG (o':=.arr [evc L I a' 0 false false] none false) hp np) A);have q1:=xA (uD (XG (o':=.arr [evc L I a' 0 false false] none false) hq nq) A);have r1:=XG (o':=.arr [evc L I a' 0 false false] none false) hr nr';have hl:(S.set id (.arr [evc L I a' 0 false false] none false)).length=S.length:=aI;have lp:=(bR.1 hp).1;have lq:=(bR.1 hq).1;have lr:=(bR.1 hr).1;generalize S.set id (.arr [evc L I a' 0 false false] none false)=S1 at *;have e1:=h1.app (A:=A) (by rw[hl];exact hA);obtain⟨X,c0,l0⟩:=kw.m hf hx e1;have st:=fun B=>W0 r1 1 0 (.bool x) (by decide) rfl rfl B;change ∀B,yZ 1 (S1++B) (.mp r 0 0) (.bool x)=some (S1.set r (.arr [[.bool x]] none false)++B) at st;have hc:callRL Tryz.prog zE 119 [.mp p 0 0,.mp q 0 0,.mp r 0 0] (S1++A)=some (.tup [],S1.set r (.arr [[.bool x]] none false)++(A++X)):=by
  refine FX.callRL ok119_ 1000 rfl rfl ?_;rw[bS]at c0;((repeat((conv=>lhs;whnf);simp only[go_sem,simprocAttr,p1,q1,c0,st,bS]));try rfl)
 refine⟨X,?_,?_⟩
 ·rw[qc];refine xd (by kernel_rfl) hc (by first | (simp;done) | (simp;omega)) e1.low ?_;simp[xz,yF,yb,wK]
  try omega
 ·rw[bJ,hl]at l0;exact l0
theorem zM7 {L:List Bd} {I:List Pr} (h:RC 4096 L I) (tv:Node→DV→Bool→Option DV) (tF : ∀k,Vs.Zq 4096 (tv k)) (tZ : ∀k,kq (tv k)) (sy:Node→DV→Option Bool) (n:Node) (hn:n.ok) (ho:n.op=37∨n.op=38) (hk:0<n.kids.length→xn L I (tv (n.kids.getD 0 nd0)) (n.kids.getD 0 nd0)) {w:Node} (hw:kO I n.sym=some w) (kw:jV L I (sy n.sym) w):jV L I (n.tr tv sy) n:=by
 intro a x S id hf hx hS;rw[Node.tr_eq]at hx;unfold kc at hx;rw[hZ (by omega),hZ (by omega),hZ (by omega),hZ (by omega),bA ho]at hx;have ev:=hS.rows;obtain⟨N,hN⟩ : ∃N,S.length=N:=⟨_,rfl⟩;have his:yO n.op=true:=by rcases ho with e | e <;> rw[e] <;> rfl
 have e0:=hS.F0 n;have bl:xz (S++F0 id n).length [.mp id 0 0,.agg n.cells]=true:=by
  have:=e0.lt;simp[xz,yF,yb,wK,uH,Node.refs]at this ⊢;omega
 obtain⟨Xw,w1,w2⟩:=UI e0 h.okI h.len n hn his hw;have cw:=xd (by kernel_rfl) w1 (by simp) e0.low bl;obtain⟨T,hT⟩ : ∃T,T=S++(F0 id n++(Xw++[Obj.arr [w.cells] none false,.arr [[.bool false]] none false])):=⟨_,rfl⟩;have lw:vt 0 (Xw++[Obj.arr [w.cells] none false,.arr [[.bool false]] none false])=true:=by
  simp only[xL,ye,xM,yC (yU _),yC (show zS [[PV.bool false]]=[] from rfl),w2,bX]
 have eT:ES T id (evc L I a 0 false false):=by
  have:=e0.flat lw;rw[bS]at this;rw[hT];exact this
 have lT:T.length=N+(Xw.length+2+1+1):=by
  rw[hT];simp[W3,hN];omega
 have pT:T[N]? = some (.arr [[.mp id 0 0]] none false):=by
  rw[hT,←hN,bT (bF _),sM];rfl
 have qT:T[N+(Xw.length+1+1)]? = some (.arr [w.cells] none false):=by
  rw[hT,←hN,bT (by omega),sN]
  show (Xw++[Obj.arr [w.cells] none false,.arr [[.bool false]] none false])[Xw.length]? = _
  rw[bT (bF _),sM];rfl
 have rT:T[N+(Xw.length+1+1+1)]? = some (.arr [[.bool false]] none false):=by
  rw[hT,←hN,bT (by omega),sN]
  show (Xw++[Obj.arr [w.cells] none false,.arr [[.bool false]] none false])[Xw.length+1]? = _
  rw[bT (by omega),sN];rfl
 have lid:=hS.lt;have sT : ∀o:Obj,T.set (N+(Xw.length+1+1+1)) o=S++(F0 id n++(Xw++[Obj.arr [w.cells] none false,o])):=fun o=>by
  rw[hT,←hN,BG _ _ (by omega),sN]
  congr 1
  show F0 id n++(Xw++[Obj.arr [w.cells] none false,.arr [[.bool false]] none false]).set (Xw.length+1) o=_
  rw[BG _ _ (by omega),sN];rfl
 obtain⟨y,yf,yx,yk⟩ : ∃y:Rat,kE 4096 (y,0)∧sy n.sym (y,0)=some x∧(if n.kids.length=0 then ((y,0):DV)=(a,0) else xn L I (tv (n.kids.getD 0 nd0)) (n.kids.getD 0 nd0)∧tv (n.kids.getD 0 nd0) (a,0) false=some (y,0)∧(false=true→(n.kids.getD 0 nd0).has (xD 12)=false)):=by
  by_cases h0:n.kids.length=0
  ·rw[hZ (by omega)]at hx;exact⟨a,hf,hx,by rw[bA h0]⟩
  ·rw[bA h0]at hx;obtain⟨y,yh,hx⟩:=bM.1 hx;have hlt:0<n.kids.length:=by omega
   have y0:=tZ _ (a,0) _ rfl yh;have yf:=tF _ _ _ _ hf yh;obtain⟨y1,y2⟩:=y;have y0':y2=0:=y0;subst y0';refine⟨y1,yf,hx,?_⟩;rw[hZ h0];exact⟨hk hlt,yh,fun e=>by cases e⟩
 have clo:=zM6 kw eT pT qT rT (by omega) (by omega) (by omega) (a':=y) yf yx;obtain⟨X,k1,k2⟩:=XH (y:=(y,0)) n hn eT rT (by omega) (show zS [[PV.bool x]]=[] from rfl) _ (by
  rw[Zr,lT];intro t ht;simp only[sU,SL,or_false]at ht;omega) hf (fun _=>rfl) yk clo
 have ci:=xd (by kernel_rfl) k1 (by simp) eT.low (by
  simp[xz,yF,yb,wK,uH,Node.refs,Zr,lT];omega)
 rw[sT,hT]at ci;rw[lT]at k2;clear clo k1 w1 kw hk yk eT pT qT rT sT bl;refine⟨F0 id n++(Xw++(.arr [w.cells] none false :: .arr [[.bool x]] none false::X)),?_,?_⟩
 rotate_left
 ·simp only[xL,ye,yC (yU _),yC (show zS [[PV.bool x]]=[] from rfl),bX,bC];rw[W2 (by omega) n,yS w2 (sH _),yS k2 (by simp only[bJ,bL,W3];omega)];rfl
 clear hT lT lw e0 hS;unfold F0 at *;simp only[bS,pO,pF]at *
 rcases ho with e | e <;> (refine FX.callRL ok72_ 1000 rfl rfl ?_;((repeat((conv=>lhs;whnf);simp only[go_sem,simprocAttr,e,cw,ci,zn,ev,hN,yn hN,xU,xB]));try rfl))
end
theorem Je {L:List Bd} {I:List Pr} (h:RC 4096 L I) (tv:Node→DV→Bool→Option DV) (tF : ∀k,Vs.Zq 4096 (tv k)) (tZ : ∀k,kq (tv k)) (sy:Node→DV→Option Bool) : ∀n:Node,n.ok→zm n.op=2→(∃a b c,n.formed a b c=true)→n.has yN=false→(∀k:Node,k.ok→zm k.op=1→(∃a b c,k.formed a b c=true)→(∀s∈k.syms,s∈n.syms)→xn L I (tv k) k)→(∀s∈n.syms,s.op=37∨s.op=38→∃w,kO I s=some w∧jV L I (sy s) w)→jV L I (n.tr tv sy) n:=by
 refine Node.ind' fun n ih hn hs hf hm hev hsy=>?_;obtain⟨a,b,c,hf⟩:=hf;have fo:=zOg hs hf hm;have ho:=fo.op;have kf:28≤n.op∧n.op≤32→∀i,i<n.kids.length→jV L I ((n.kids.getD i nd0).tr tv sy) (n.kids.getD i nd0):=by
  intro e i hi;have hmem:=zu hi;obtain⟨k1,k2⟩:=fo.form e _ hmem;exact ih _ hmem (hn.kids _ hmem) k1 k2 (uW hm hmem) (fun k g1 g2 g3 g4=>hev k g1 g2 g3 fun s hx=>qJ hmem (g4 s hx)) (fun s hx=>hsy s (qJ hmem hx))
 have kt:(22≤n.op∧n.op≤27)∨n.op=37→∀i,i<n.kids.length→xn L I (tv (n.kids.getD i nd0)) (n.kids.getD i nd0):=by
  intro e i hi;have hmem:=zu hi;obtain⟨k1,k2⟩:=fo.term e _ hmem;exact hev _ (hn.kids _ hmem) k1 k2 fun s hx=>qJ hmem hx
 by_cases e1:n.op=20
 ·exact zJo h tv sy n hn e1
 by_cases e2:n.op=21
 ·exact zHK h tv sy n hn e2
 by_cases e3:n.op=28
 ·have l:=fo.one e3;exact zM3 h tv sy n hn e3 (by omega) (kf (by omega) 0 (by omega))
 by_cases e4:29≤n.op∧n.op≤32
 ·have l:=fo.two (.inr e4);exact zM4 h tv sy n hn e4 (by omega) (by omega) (kf (by omega) 0 (by omega)) (kf (by omega) 1 (by omega))
 by_cases e5:22≤n.op∧n.op≤27
 ·have l:=fo.two (.inl e5);exact zM5 h tv tF tZ sy n hn e5 (by omega) (by omega) (kt (by omega) 0 (by omega)) (kt (by omega) 1 (by omega))
 have e6:n.op=37∨n.op=38:=by omega
 have es:yO n.op=true:=by rcases e6 with e | e <;> rw[e] <;> rfl
 obtain⟨w,hw,kw⟩:=hsy _ (qd es) (by rw[zHH es];exact e6);refine zM7 h tv tF tZ sy n hn e6 (fun h0=>?_) hw kw
 rcases e6 with e | e
 ·exact kt (.inr e) 0 h0
 ·have:=fo.none e;omega
end
section
structure Light (L:List Bd) (I:List Pr) (n:Node):Prop where
 okL:WT L
 lenL:L.length≤100
 okI : ∀p∈I,p.ok
 len:I.length≤60
 cnt : ∀p∈I,p.wth.count≤1000∧p.what.count≤1000
 okn:n.ok
 cn:n.count≤1000
def XJ:List Int:=[33,34,35,36,39]
def XK (L:List Bd) (I:List Pr) (n:Node) (w:Int):Int :=
 if n.check w≠0 then n.check w else if Y9 L=false then 3 else if jn I≠0 then jn I else if n.has (xu XJ)=true then 111 else Jb I n
section
attribute [local irreducible] Vs.callL Vs.callRL tyi zO zk zf zQ zW zZ zI zX zA zK zb zV zG zJ zU zs yL zr zL za Vs.gc zH
noncomputable def zTW:FX:=⟨Tryz.f53,zE.of 53,[]⟩
instance ok53_:zTW.ok 53:=FX.mk'
theorem zHL {L:List Bd} {I:List Pr} {n:Node} (h:Light L I n) (w:Int):callL Tryz.prog zE 53 [.agg n.cells,.int .i64 w,.sl (ya L) false,.sl (zY I) false]=some (.int .i64 (XK L I n w)):=by
 have tc:=fun S s=>jO S n h.okn s;have sv:=fun S=>zJE S L h.okL (by have:=h.lenL;unfold maxLen;omega);have sc:=fun S=>zJ3 S I h.okI h.len h.cnt;have u:=Z0 (S:=[.arr [n.cells] none false,.arr [[PV.int .i64 33],[.int .i64 34],[.int .i64 35],[.int .i64 36],[.int .i64 39]] (some (some 1)) false]) (id:=1) (ops:=XJ) (k:=5) (ex:=true) n h.okn (by decide) rfl rfl;have kn:=fun S=>zF (S:=S) (zHA I h.okI h.len n h.okn (by have:=h.cn;omega)) (by simp[Node.plain,zi.sl]);unfold XK;by_cases c1:n.check w=0
 case neg =>
  rw[bA c1];apply FX.callV ok53_ 1000 rfl rfl
  ·((repeat((conv=>lhs;whnf);simp only[go_sem,simprocAttr,tc,c1]));try rfl)
  ·rfl
 rw[hZ (by simpa using c1)]
 cases c2:Y9 L
 case false =>
  rw[c2]at sv;rw[bA rfl];apply FX.callV ok53_ 1000 rfl rfl
  ·((repeat((conv=>lhs;whnf);simp only[go_sem,simprocAttr,tc,c1,sv]));try rfl)
  ·rfl
 rw[c2]at sv;rw[hZ (by simp)];by_cases c3:jn I=0
 case neg =>
  rw[bA c3];apply FX.callV ok53_ 1000 rfl rfl
  ·((repeat((conv=>lhs;whnf);simp only[go_sem,simprocAttr,tc,c1,sv,sc,c3]));try rfl)
  ·rfl
 rw[hZ (by simpa using c3)]
 cases c4:n.has (xu XJ)
 ·rw[c4]at u;rw[hZ (by simp)];apply FX.callV ok53_ 1000 rfl rfl
  ·((repeat((conv=>lhs;whnf);simp only[go_sem,simprocAttr,tc,c1,sv,sc,c3,u,kn]));try rfl)
  ·rfl
 ·rw[c4]at u;rw[bA rfl];apply FX.callV ok53_ 1000 rfl rfl
  ·((repeat((conv=>lhs;whnf);simp only[go_sem,simprocAttr,tc,c1,sv,sc,c3,u]));try rfl)
  ·rfl
theorem zIF (S:zB) {L:List Bd} {I:List Pr} {n:Node} (h:Light L I n) (w:Int):zO (callL Tryz.prog zE) S 53 [.agg n.cells,.int .i64 w,.sl (ya L) false,.sl (zY I) false]=some {v:=.int .i64 (XK L I n w)} := zF (zHL h w) (by simp[Node.plain,zi.int,zi.sl,Zj])
end
end
section
theorem Light.big {L:List Bd} {I:List Pr} {n:Node} (h:Light L I n):n.count≤1000000000:=by have:=h.cn;omega
theorem Light.llen {L:List Bd} {I:List Pr} {n:Node} (h:Light L I n):L.length≤maxLen:=by have:=h.lenL;unfold maxLen;omega
theorem zTX {B:Nat} (h:1≤B):kD B (0,0)=dc 0 0 B false:=bA (by rw[uK.2 (ul h)];rfl)
theorem zz {B:Nat} (h:1≤B):kE B (0,0):=⟨ul h,ul h⟩
section
attribute [local irreducible] Vs.callL Vs.callRL tyi zO zk zf zQ zW zZ zI zX zA zK zb zV zG zJ zU zs yL zr zL za Vs.gc zH
noncomputable def zTY:FX:=⟨Tryz.f13,zE.of 13,[]⟩
instance ok13_:zTY.ok 13:=FX.mk'
end
end
section
theorem zJp (n:Node):n.has (xu XJ)=n.has yN:=by
 congr 1
 funext o
 simp[xu,XJ,yN,Bool.or_assoc]
theorem zHM {I:List Pr} {n:Node} (hs:zm n.op=1∨zm n.op=2) (hf : ∃a b c,n.formed a b c=true) (hm:n.has yN=false):Jb I n=if n.unk I=true then 110 else 0:=by
 unfold Jb;rw[zA0 I n hs hf hm,zHq]
 cases n.has (xD 13) <;> cases n.syms.all (known I) <;> rfl
theorem V9 {I:List Pr} (h:jn I≠0):jn I=3:=by
 unfold jn at *
 split at h
 ·exact absurd rfl h
 ·rename_i c;rw[hZ c]
section
attribute [local irreducible] Vs.callL Vs.callRL tyi zO zk zf zQ zW zZ zI zX zA zK zb zV zG zJ zU zs yL zr zL za Vs.gc zH
end
theorem zOh {B:Nat} {L:List Bd} {I:List Pr} {n:Node} (h:Light L I n) (h1:1≤B) (h2:B≤4096) (hv:Y9 L=true):RC B L I:=⟨h1,h2,h.okL,hv,h.okI,h.len⟩
end
end Go.Vs

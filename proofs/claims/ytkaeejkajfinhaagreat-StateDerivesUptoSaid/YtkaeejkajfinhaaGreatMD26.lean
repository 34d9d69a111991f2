
import Derived.Test.YtkaeejkajfinhaaGreatMD25
set_option linter.unusedVariables false
set_option linter.unusedSimpArgs false
set_option maxRecDepth 100000
namespace Go.Vs
open Go Go.Proofs
section
def zTI (L:List Bd) (I:List Pr) (df:Bool) (S:zB) (id r:Nat) (fv:PV) (res:List PV) (a' c':Rat):Prop:=∀A,ua (S.length+A.length) A=true→∃X,zg Tryz.prog zD (S.set id (.arr [evc L I a' c' df false] none false)++A) fv []=some {v:=.tup [],S:=(S.set id (.arr [evc L I a' c' df false] none false)).set r (.arr [res] none false)++(A++X)} ∧ ua (S.length+A.length+X.length) X=true
theorem zFR {S:zB} {id:Nat} {o:Obj} (h:S[id]? = some o):S.set id o=S:=by
 have:=Jq (o':=o) h
 rwa [List.set_set]at this
theorem zKD (S:zB) {i j:Nat} (h:i≠j) (a b:Obj):(S.set i a).set j b=(S.set j b).set i a:=List.set_comm a b h
theorem Jr {S:zB} {i j:Nat} {o o':Obj} (h:S[j]? = some o) (hne:i≠j):(S.set i o')[j]? = some o:=by rw[aL hne];exact h
theorem Ve (f:FuncId) (p q r:Nat):PV.refs (.fn f [] [.mp p 0 0,.mp q 0 0,.mp r 0 0])=[p,q,r]:=rfl
section
attribute [local irreducible] Vs.callL Vs.callRL tyi zO zn zg zR zY za zI zZ zA zK ze zX zG zJ zW zr yJ zq zL zf Vs.gc zH
noncomputable def zQD:FX:=⟨Tryz.f106,zD.of 106,[]⟩
instance ok106_:zQD.ok 106:=FX.mk'
theorem zFS {L:List Bd} {I:List Pr} {g:DV→Bool→Option DV} {w:Node} (kw:wI L I g w) {a c:Rat} {df:Bool} {S:zB} {id p q r:Nat} (hS:ES S id (evc L I a c df false)) (hp:S[p]? = some (.arr [[.mp id 0 0]] none false)) (hq:S[q]? = some (.arr [w.cells] none false)) (hr:S[r]? = some (.arr [zd] none false)) (np:id≠p) (nq:id≠q) (nr':id≠r) {a' c':Rat} {x:DV} (hf:jj 4096 (a',c')) (hc:df=false→c'=0) (h12:df=true→w.has (ys 12)=false) (hx:g (a',c') df=some x):zTI L I df S id r (.fn 106 [] [.mp p 0 0,.mp q 0 0,.mp r 0 0]) (d2 x.1 x.2) a' c':=by
 intro A hA;have h1:=hS.set (Jo L I a' c' df false);have p1:=xH (ut (Jr (o':=.arr [evc L I a' c' df false] none false) hp np) A);have q1:=xH (ut (Jr (o':=.arr [evc L I a' c' df false] none false) hq nq) A);have r1:=Jr (o':=.arr [evc L I a' c' df false] none false) hr nr';have hl:(S.set id (.arr [evc L I a' c' df false] none false)).length=S.length:=aY;have lp:=(bS.1 hp).1;have lq:=(bS.1 hq).1;have lr:=(bS.1 hr).1;generalize S.set id (.arr [evc L I a' c' df false] none false)=S1 at *;have e1:=h1.app (A:=A) (by rw[hl];exact hA);obtain⟨X,c0,l0⟩:=kw.m hf hc h12 hx e1;have st:=fun B=>UP r1 6 0 (.agg (d2 x.1 x.2)) (by decide) rfl rfl B;change ∀B,yW 6 (S1++B) (.mp r 0 0) (.agg (d2 x.1 x.2))=some (S1.set r (.arr [d2 x.1 x.2] none false)++B) at st;have hc:callRL Tryz.prog zD 106 [.mp p 0 0,.mp q 0 0,.mp r 0 0] (S1++A)=some (.tup [],S1.set r (.arr [d2 x.1 x.2] none false)++(A++X)):=by
  refine FX.callRL ok106_ 1000 rfl rfl ?_;rw[pB]at c0;((repeat((conv=>lhs;whnf);simp only[go_sem,simprocAttr,p1,q1,c0,st,pB]));try rfl)
 refine⟨X,?_,?_⟩
 ·rw[Zz];refine wL (by kernel_rfl) hc (by first | (simp;done) | (simp;omega)) e1.low ?_;simp[wj,yR,yy,vc]
  try omega
 ·rw[bN,hl]at l0;exact l0
noncomputable def zQE:FX:=⟨Tryz.f105,zD.of 105,[]⟩
instance ok105_:zQE.ok 105:=FX.mk'
theorem Uf {L:List Bd} {I:List Pr} {g0:DV→Bool→Option DV} (n:Node) (hn:n.ok) {a c:Rat} {df:Bool} {S:zB} {id r:Nat} {c0 res:List PV} (hS:ES S id (evc L I a c df false)) (hr:S[r]? = some (.arr [c0] none false)) (nr':id≠r) (hres:zV [res]=[]) (fv:PV) (hfr : ∀x∈fv.refs,x<S.length) (hf:jj 4096 (a,c)) (hc:df=false→c=0) {y:DV} (hy:if n.kids.length=0 then y=(a,c) else wI L I g0 (n.kids.getD 0 nd0)∧g0 (a,c) df=some y∧(df=true→(n.kids.getD 0 nd0).has (ys 12)=false)) (clo:zTI L I df S id r fv res y.1 y.2) : ∃X,callRL Tryz.prog zD 105 [.mp id 0 0,.agg n.cells,fv] S=some (.tup [],S.set r (.arr [res] none false)++X)∧ua (S.length+X.length) X=true:=by
 obtain⟨N,hN⟩ : ∃N,S.length=N:=⟨_,rfl⟩;have ev:=hS.rows;have lb:ua 0 [.arr [n.cells] none false,.arr [d2 a c] none false]=true:=by simp only[xB,xh,yH (yZ _),yH (xD _ _),pD]
 have lz : ∀u v:Rat,ua 0 [.arr [n.cells] none false,.arr [d2 u v] none false]=true:=fun u v=>by simp only[xB,xh,yH (yZ _),yH (xD _ _),pD]
 by_cases h0:n.kids.length=0
 ·rw[bA h0]at hy;subst hy;have g0' : ¬(0:Int)<(n.kids.length:Int):=by omega
  obtain⟨X,k1,k2⟩:=clo [.arr [n.cells] none false,.arr [d2 a c] none false] (zAl lb _);rw[zFR hS.at_]at k1;have e2:(S.set r (.arr [res] none false))[id]? = some (.arr [evc L I a c df false] none false):=Jr hS.at_ (Ne.symm nr');have st:=fun B=>UP e2 6 2 (.agg (d2 a c)) (by show 8≤10;decide) rfl rfl B;change ∀B,yW 6 (S.set r (.arr [res] none false)++B) (.mp id 0 2) (.agg (d2 a c))=some ((S.set r (.arr [res] none false)).set id (.arr [evc L I a c df false] none false)++B) at st;rw[zFR e2]at st;have hN2:(S.set r (.arr [res] none false)).length=N:=by rw[aY,hN]
  refine⟨.arr [n.cells] none false :: .arr [d2 a c] none false::X,?_,?_⟩
  rotate_left
  ·have:=zAl lb (S.length+(Obj.arr [n.cells] none false::Obj.arr [d2 a c] none false::X).length);rw[show Obj.arr [n.cells] none false::Obj.arr [d2 a c] none false::X=[.arr [n.cells] none false,.arr [d2 a c] none false]++X from rfl,wE];rw[yp lb (sN _),yp k2 (by first | (simp;done) | (simp;omega))];rfl
  generalize S.set r (.arr [res] none false)=S2 at *;refine FX.callRL ok105_ 1000 rfl rfl ?_;clear clo hS lb lz e2;unfold d2 evc d2 at *;unfold yD at *;simp only[sB,pG]at k1;((repeat((conv=>lhs;whnf);simp only[go_sem,simprocAttr,g0',ev,k1,st,hN2,xK hN2,hN,xK hN,xX]));try rfl)
 ·rw[hZ h0]at hy;obtain⟨kw,yh,k12⟩:=hy;have i0:=XR (n:=n) (by omega);have g0':(0:Int)<(n.kids.length:Int):=by omega
  obtain⟨X0,c1,l0⟩:=kw.m hf hc k12 yh (hS.flat lb);have st1:=fun B=>UP hS.at_ 6 2 (.agg (d2 y.1 y.2)) (by show 8≤10;decide) rfl rfl B;change ∀B,yW 6 (S++B) (.mp id 0 2) (.agg (d2 y.1 y.2))=some (S.set id (.arr [evc L I y.1 y.2 df false] none false)++B) at st1;have lX:ua (S.length+([Obj.arr [n.cells] none false,.arr [d2 a c] none false]++X0).length) ([Obj.arr [n.cells] none false,.arr [d2 a c] none false]++X0)=true:=by
   rw[wE,yp lb (sN _),yp l0 (by first | (simp;done) | (simp;omega))];rfl
  obtain⟨X,k1,k2⟩:=clo _ lX;have e1:(S.set id (.arr [evc L I y.1 y.2 df false] none false))[id]? = some (.arr [evc L I y.1 y.2 df false] none false):=by rw[BO hS.lt]
  have e2:((S.set id (.arr [evc L I y.1 y.2 df false] none false)).set r (.arr [res] none false))[id]? = some (.arr [evc L I y.1 y.2 df false] none false):=Jr e1 (Ne.symm nr');have st:=fun B=>UP e2 6 2 (.agg (d2 a c)) (by show 8≤10;decide) rfl rfl B;change ∀B,yW 6 ((S.set id (.arr [evc L I y.1 y.2 df false] none false)).set r (.arr [res] none false)++B) (.mp id 0 2) (.agg (d2 a c))=some (((S.set id (.arr [evc L I y.1 y.2 df false] none false)).set r (.arr [res] none false)).set id (.arr [evc L I a c df false] none false)++B) at st;rw[zKD _ (Ne.symm nr'),Jq hS.at_]at st;have hN2:((S.set id (.arr [evc L I y.1 y.2 df false] none false)).set r (.arr [res] none false)).length=N:=by rw[aY,aY,hN]
  have hN1:(S.set id (.arr [evc L I y.1 y.2 df false] none false)).length=N:=by rw[aY,hN]
  refine⟨[.arr [n.cells] none false,.arr [d2 a c] none false]++(X0++X),?_,?_⟩
  rotate_left
  ·rw[←pB,wE,yp lX (by first | (simp;done) | (simp;omega)),yp k2 (by first | (simp;done) | (simp;omega))];rfl
  generalize (S.set id (.arr [evc L I y.1 y.2 df false] none false)).set r (.arr [res] none false)=S2 at *;generalize S.set id (.arr [evc L I y.1 y.2 df false] none false)=S1 at *;generalize S.set r (.arr [res] none false)=S3 at *;refine FX.callRL ok105_ 1000 rfl rfl ?_;clear clo hS lb lz e2 e1 lX;unfold d2 evc d2 at *;unfold yD at *;simp only[pB,sB,pG]at k1 c1;((repeat((conv=>lhs;whnf);simp only[go_sem,simprocAttr,g0',i0,ev,c1,k1,st1,st,hN1,xK hN1,hN2,xK hN2,hN,xK hN,xX]));try rfl)
end
end
section
section
attribute [local irreducible] Vs.callL Vs.callRL tyi zO zn zg zR zY za zI zZ zA zK ze zX zG zJ zW zr yJ zq zL zf Vs.gc zH
theorem zH8 {L:List Bd} {I:List Pr} (h:RC 4096 L I) (sy:Node→DV→Bool→Option DV) (sF : ∀s,Vs.W2 4096 (sy s)) (sZ : ∀s,ZE (sy s)) (n:Node) (hn:n.ok) (ho:n.op=10) (hk:0<n.kids.length→wI L I ((n.kids.getD 0 nd0).ev 4096 L sy) (n.kids.getD 0 nd0)) {w:Node} (hw:jc I n.sym=some w) (kw:wI L I (sy n.sym) w) (w12:w.has (ys 12)=false):wI L I (n.ev 4096 L sy) n:=by
 intro a c df x S id hf hc h12 hx hS;rw[Node.ev_eq]at hx;unfold xe at hx
 repeat rw[hZ (by rw[ho];decide)]at hx
 have ev:=hS.rows;obtain⟨N,hN⟩ : ∃N,S.length=N:=⟨_,rfl⟩;have z:=vl;have his:yP n.op=true:=by rw[ho];rfl
 have e0:=hS.A0 n ww;have bl:wj (S++A0 id n zd).length [.mp id 0 0,.agg n.cells]=true:=by
  have:=e0.lt;simp[wj,yR,yy,vc,jN,Node.refs]at this ⊢;omega
 obtain⟨Xw,w1,w2⟩:=zAk e0 h.okI h.len n hn his hw;have cw:=wL (by kernel_rfl) w1 (by simp) e0.low bl;obtain⟨T,hT⟩ : ∃T,T=S++(A0 id n zd++(Xw++[Obj.arr [w.cells] none false,.arr [zd] none false])):=⟨_,rfl⟩;have lw:ua 0 (Xw++[Obj.arr [w.cells] none false,.arr [zd] none false])=true:=by
  simp only[wE,xB,xh,yH (yZ _),yH ww,w2,pD]
 have eT:ES T id (evc L I a c df false):=by
  have:=e0.flat lw;rw[pB]at this;rw[hT];exact this
 have lT:T.length=N+(Xw.length+2+1+1+1+1):=by
  rw[hT];simp[kL,hN];omega
 have pT:T[N]? = some (.arr [[.mp id 0 0]] none false):=by
  rw[hT,←hN,pA (bF _),aB];rfl
 have qT:T[N+(Xw.length+1+1+1+1)]? = some (.arr [w.cells] none false):=by
  rw[hT,←hN,pA (by omega),aN]
  show (Xw++[Obj.arr [w.cells] none false,.arr [zd] none false])[Xw.length]? = _
  rw[pA (bF _),aB];rfl
 have rT:T[N+(Xw.length+1+1+1+1+1)]? = some (.arr [zd] none false):=by
  rw[hT,←hN,pA (by omega),aN]
  show (Xw++[Obj.arr [w.cells] none false,.arr [zd] none false])[Xw.length+1]? = _
  rw[pA (by omega),aN];rfl
 have lid:=hS.lt;have sT : ∀o:Obj,T.set (N+(Xw.length+1+1+1+1+1)) o=S++(A0 id n zd++(Xw++[Obj.arr [w.cells] none false,o])):=fun o=>by
  rw[hT,←hN,PI _ _ (by omega),aN]
  congr 1
  show A0 id n zd++(Xw++[Obj.arr [w.cells] none false,.arr [zd] none false]).set (Xw.length+1) o=_
  rw[PI _ _ (by omega),aN];rfl
 obtain⟨y,yf,yc,yx,yk⟩ : ∃y:DV,jj 4096 y∧(df=false→y.2=0)∧sy n.sym y df=some x∧(if n.kids.length=0 then y=(a,c) else wI L I ((n.kids.getD 0 nd0).ev 4096 L sy) (n.kids.getD 0 nd0)∧(n.kids.getD 0 nd0).ev 4096 L sy (a,c) df=some y∧(df=true→(n.kids.getD 0 nd0).has (ys 12)=false)):=by
  by_cases h0:n.kids.length=0
  ·rw[hZ (by omega)]at hx;exact⟨(a,c),hf,hc,hx,by rw[bA h0]⟩
  ·rw[bA h0]at hx;obtain⟨y,yh,hx⟩:=bJ.1 hx;have hlt:0<n.kids.length:=by omega
   rw[uB _ _ _ _ _ hlt]at yh;refine⟨y,uz (by omega) sF _ _ _ _ hf yh,fun e=>?_,hx,?_⟩
   ·subst e;exact wv sZ _ _ _ (hc rfl) yh
   ·rw[hZ h0];exact⟨hk hlt,yh,fun e=>ud (h12 e) (yA hlt)⟩
 have clo:=zFS kw eT pT qT rT (by omega) (by omega) (by omega) (a':=y.1) (c':=y.2) yf yc (fun _=>w12) yx;obtain⟨X,k1,k2⟩:=Uf n hn eT rT (by omega) (xD _ _) _ (by
  rw[Ve,lT];intro t ht;simp only[aF,AA,or_false]at ht;omega) hf hc yk clo
 have ci:=wL (by kernel_rfl) k1 (by simp) eT.low (by
  simp[wj,yR,yy,vc,jN,Node.refs,Ve,lT];omega)
 rw[sT,hT]at ci;rw[lT]at k2;clear clo k1 w1 kw hk yk eT pT qT rT sT bl;refine⟨A0 id n (d2 x.1 x.2)++(Xw++(.arr [w.cells] none false :: .arr [d2 x.1 x.2] none false::X)),?_,?_⟩
 rotate_left
 ·simp only[wE,xB,yH (yZ _),yH (xD _ _),pD,bC];rw[jB (by omega) n (xD _ _),yp w2 (sN _),yp k2 (by simp only[bN,bL,kL];omega)];rfl
 simp only[wX]at *;refine FX.callRL ok55_ 1000 rfl rfl ?_;clear hT lT lw e0 hS;unfold A0 zd r3 d2 evc d2 at *;unfold yD at *;simp only[pB,sB,pG]at *;((repeat((conv=>lhs;whnf);simp only[go_sem,simprocAttr,ho,z,cw,ci,zj,ev,hN,xK hN,wO,xX]));try rfl)
theorem zH9 {L:List Bd} {I:List Pr} (h:RC 4096 L I) (sy:Node→DV→Bool→Option DV) (sF : ∀s,Vs.W2 4096 (sy s)) (sZ : ∀s,ZE (sy s)) (n:Node) (hn:n.ok) (ho:n.op=11) (hk:0<n.kids.length→wI L I ((n.kids.getD 0 nd0).ev 4096 L sy) (n.kids.getD 0 nd0)) {w:Node} (hw:jc I n.sym=some w) (kw:wI L I (sy n.sym) w) (w12:w.has (ys 12)=false):wI L I (n.ev 4096 L sy) n:=by
 intro a c df x S id hf hc h12 hx hS;rw[Node.ev_eq]at hx;unfold xe at hx
 repeat rw[hZ (by rw[ho];decide)]at hx
 have ev:=hS.rows;obtain⟨N,hN⟩ : ∃N,S.length=N:=⟨_,rfl⟩;have z:=vl;have his:yP n.op=true:=by rw[ho];rfl
 have e0:=hS.A0 n ww;have bl:wj (S++A0 id n zd).length [.mp id 0 0,.agg n.cells]=true:=by
  have:=e0.lt;simp[wj,yR,yy,vc,jN,Node.refs]at this ⊢;omega
 obtain⟨Xw,w1,w2⟩:=zAk e0 h.okI h.len n hn his hw;have cw:=wL (by kernel_rfl) w1 (by simp) e0.low bl;obtain⟨T,hT⟩ : ∃T,T=S++(A0 id n zd++(Xw++[Obj.arr [w.cells] none false,.arr [zd] none false])):=⟨_,rfl⟩;have lw:ua 0 (Xw++[Obj.arr [w.cells] none false,.arr [zd] none false])=true:=by
  simp only[wE,xB,xh,yH (yZ _),yH ww,w2,pD]
 have eT:ES T id (evc L I a c df false):=by
  have:=e0.flat lw;rw[pB]at this;rw[hT];exact this
 have lT:T.length=N+(Xw.length+2+1+1+1+1):=by
  rw[hT];simp[kL,hN];omega
 have pT:T[N]? = some (.arr [[.mp id 0 0]] none false):=by
  rw[hT,←hN,pA (bF _),aB];rfl
 have qT:T[N+(Xw.length+1+1+1+1)]? = some (.arr [w.cells] none false):=by
  rw[hT,←hN,pA (by omega),aN]
  show (Xw++[Obj.arr [w.cells] none false,.arr [zd] none false])[Xw.length]? = _
  rw[pA (bF _),aB];rfl
 have rT:T[N+(Xw.length+1+1+1+1+1)]? = some (.arr [zd] none false):=by
  rw[hT,←hN,pA (by omega),aN]
  show (Xw++[Obj.arr [w.cells] none false,.arr [zd] none false])[Xw.length+1]? = _
  rw[pA (by omega),aN];rfl
 have lid:=hS.lt;have sT : ∀o:Obj,T.set (N+(Xw.length+1+1+1+1+1)) o=S++(A0 id n zd++(Xw++[Obj.arr [w.cells] none false,o])):=fun o=>by
  rw[hT,←hN,PI _ _ (by omega),aN]
  congr 1
  show A0 id n zd++(Xw++[Obj.arr [w.cells] none false,.arr [zd] none false]).set (Xw.length+1) o=_
  rw[PI _ _ (by omega),aN];rfl
 obtain⟨y,yf,yc,yx,yk⟩ : ∃y:DV,jj 4096 y∧(df=false→y.2=0)∧sy n.sym y df=some x∧(if n.kids.length=0 then y=(a,c) else wI L I ((n.kids.getD 0 nd0).ev 4096 L sy) (n.kids.getD 0 nd0)∧(n.kids.getD 0 nd0).ev 4096 L sy (a,c) df=some y∧(df=true→(n.kids.getD 0 nd0).has (ys 12)=false)):=by
  by_cases h0:n.kids.length=0
  ·rw[hZ (by omega)]at hx;exact⟨(a,c),hf,hc,hx,by rw[bA h0]⟩
  ·rw[bA h0]at hx;obtain⟨y,yh,hx⟩:=bJ.1 hx;have hlt:0<n.kids.length:=by omega
   rw[uB _ _ _ _ _ hlt]at yh;refine⟨y,uz (by omega) sF _ _ _ _ hf yh,fun e=>?_,hx,?_⟩
   ·subst e;exact wv sZ _ _ _ (hc rfl) yh
   ·rw[hZ h0];exact⟨hk hlt,yh,fun e=>ud (h12 e) (yA hlt)⟩
 have clo:=zFS kw eT pT qT rT (by omega) (by omega) (by omega) (a':=y.1) (c':=y.2) yf yc (fun _=>w12) yx;obtain⟨X,k1,k2⟩:=Uf n hn eT rT (by omega) (xD _ _) _ (by
  rw[Ve,lT];intro t ht;simp only[aF,AA,or_false]at ht;omega) hf hc yk clo
 have ci:=wL (by kernel_rfl) k1 (by simp) eT.low (by
  simp[wj,yR,yy,vc,jN,Node.refs,Ve,lT];omega)
 rw[sT,hT]at ci;rw[lT]at k2;clear clo k1 w1 kw hk yk eT pT qT rT sT bl;refine⟨A0 id n (d2 x.1 x.2)++(Xw++(.arr [w.cells] none false :: .arr [d2 x.1 x.2] none false::X)),?_,?_⟩
 rotate_left
 ·simp only[wE,xB,yH (yZ _),yH (xD _ _),pD,bC];rw[jB (by omega) n (xD _ _),yp w2 (sN _),yp k2 (by simp only[bN,bL,kL];omega)];rfl
 simp only[wX]at *;refine FX.callRL ok55_ 1000 rfl rfl ?_;clear hT lT lw e0 hS;unfold A0 zd r3 d2 evc d2 at *;unfold yD at *;simp only[pB,sB,pG]at *;((repeat((conv=>lhs;whnf);simp only[go_sem,simprocAttr,ho,z,cw,ci,zj,ev,hN,xK hN,wO,xX]));try rfl)
end
theorem zQF : ∀n:Node,zv n.op=1→∀b c,n.formed true b c=true→n.has (ys 12)=false:=by
 refine Node.ind' fun n ih hs b c hf=>?_;have ho:=Z4 hs;rw[Node.formed_eq]at hf;simp only[bP,bR]at hf;obtain⟨_,h2,h3,h4,_⟩:=hf;have kids:=qV _ _ _ _ _ h4 h3 (qN ho _);have e12:n.op≠12:=fun e=>by
  unfold wU at h2;rw[e]at h2;simp at h2
 rw[Node.has_eq,Node.hass_any,BY,List.any_eq_false];refine⟨by simp[ys,e12],fun k hk=>?_⟩;obtain⟨k1,k2⟩:=kids k hk;simp only[pI]at k2;rw[ih k hk k1 _ _ k2];simp
theorem zTJ {n:Node} (ho:n.op=12) {a b c:Bool} (hf:n.formed a b c=true) (h0:0<n.kids.length):(n.kids.getD 0 nd0).has (ys 12)=false:=by
 rw[Node.formed_eq]at hf;simp only[bP,bR]at hf;obtain⟨_,_,h3,h4,_⟩:=hf;obtain⟨k1,k2⟩:=qV _ _ _ _ _ h4 h3 (qN (by omega) _) _ (yA h0);rw[ho]at k2;simp only[decide_true,sU]at k2;exact zQF _ k1 _ _ k2
theorem Js {L:List Bd} {I:List Pr} (h:RC 4096 L I) (sy:Node→DV→Bool→Option DV) (sF : ∀s,Vs.W2 4096 (sy s)) (sZ : ∀s,ZE (sy s)) : ∀n:Node,n.ok→zv n.op=1→(∃a b c,n.formed a b c=true)→(∀s∈n.syms,∃w,jc I s=some w∧wI L I (sy s) w∧w.has (ys 12)=false)→wI L I (n.ev 4096 L sy) n:=by
 refine Node.ind' fun n ih hn hs hf hsy=>?_;obtain⟨a,b,c,hf⟩:=hf;have tm:=zIY hs hf;have kid : ∀i,i<n.kids.length→wI L I ((n.kids.getD i nd0).ev 4096 L sy) (n.kids.getD i nd0):=by
  intro i hi;have hm:=yA hi;obtain⟨k1,k2⟩:=tm.kids _ hm;exact ih _ hm (hn.kids _ hm) k1 k2 fun s h=>hsy s (zFO hm h)
 obtain⟨o1,o2⟩:=tm.op
 rcases Int.lt_or_le n.op 4 with c4 | c4
 ·by_cases e1:n.op=1
  ·exact zM2 h sy n hn e1 (tm.num e1)
  by_cases e2:n.op=2
  ·exact zM4 h sy n hn e2 (tm.nm (.inl e2))
  have e3:n.op=3:=by omega
  exact zH7 h sy n hn e3 (tm.nm (.inr e3))
 by_cases e4:n.op=4
 ·have l:=tm.one (.inl e4);exact zM5 h sy sF sZ n hn e4 (by omega) (kid 0 (by omega))
 by_cases e12:n.op=12
 ·have l:=tm.one (.inr e12);exact zKB h sy sF sZ n hn e12 (by omega) (kid 0 (by omega)) (zTJ e12 hf (by omega))
 by_cases e13:n.op=13
 ·exact zM3 h sy n hn e13
 by_cases e10:n.op=10
 ·obtain⟨w,hw,kw,k12⟩:=hsy _ (Xi (by rw[e10];rfl));exact zH8 h sy sF sZ n hn e10 (kid 0) hw kw k12
 by_cases e11:n.op=11
 ·obtain⟨w,hw,kw,k12⟩:=hsy _ (Xi (by rw[e11];rfl));exact zH9 h sy sF sZ n hn e11 (kid 0) hw kw k12
 have l:=tm.two (by omega);have k0:=kid 0 (by omega);have k1:=kid 1 (by omega);by_cases e5:n.op=5
 ·exact zM6 h sy sF sZ n hn e5 (by omega) k0 (by omega) k1
 by_cases e6:n.op=6
 ·exact zM7 h sy sF sZ n hn e6 (by omega) k0 (by omega) k1
 by_cases e7:n.op=7
 ·exact zM8 h sy sF sZ n hn e7 (by omega) k0 (by omega) k1
 by_cases e8:n.op=8
 ·obtain⟨d1,d2⟩:=tm.div e8;exact zM9 h sy sF sZ n hn e8 (by omega) k0 (by omega) d1 d2
 have e9:n.op=9:=by omega
 exact zMa h sy sF sZ n hn e9 (by omega) k0 (by omega) (tm.pow hn e9)
end
theorem Ug : ∀(l:List Node) (s:List Int) (a b c:Bool),Node.formeds l s a b c=true→l.length=s.length→∀k∈l,zv k.op∈s∧k.formed a b c=true
 | [],s,a,b,c,_,_=>by simp
 | n::r,[],a,b,c,h,hl=>by simp at hl
 | n::r,d::s,a,b,c,h,hl=>by
  simp only[Node.formeds,bP,bR,PA,List.tail_cons]at h;obtain⟨h1,h2,h3⟩:=h;intro k hk
  rcases aF.1 hk with rfl | hk
  ·exact⟨by rw[h1];simp,h2⟩
  ·have:=Ug r s a b c h3 (by simpa using hl) k hk;exact⟨List.mem_cons_of_mem _ this.1,this.2⟩
theorem zQG {n:Node} (h:yP n.op=true):n.sym.op=n.op:=by
 unfold Node.sym;rw[bA h];rfl
theorem zAm : ∀ {l:List Node} {s:Node},s∈Node.symss l→∃k∈l,s∈k.syms
 | [],s,h=>by cases h
 | n::r,s,h=>by
  have h':s∈n.syms++Node.symss r:=h
  rcases sG.1 h' with h' | h'
  ·exact⟨n,by simp,h'⟩
  ·obtain⟨k,k1,k2⟩:=zAm h';exact⟨k,by simp[k1],k2⟩
structure Fm (n:Node):Prop where
 op:(1≤n.op∧n.op≤13)∨(20≤n.op∧n.op≤32)∨n.op=37∨n.op=38
 kids : ∀k∈n.kids,(zv k.op=1∨zv k.op=2)∧∃a b c,k.formed a b c=true
 leaf:n.op=11∨n.op=38→n.kids.length=0
theorem zFT {o:Int} (h:zv o=2):20≤o∧o≤39:=by
 unfold zv at h;by_cases h1:20≤o∧o≤39
 ·exact h1
 ·repeat' split at h
  all_goals omega
theorem zTK {n:Node} (hs:zv n.op=1∨zv n.op=2) {a b c:Bool} (h:n.formed a b c=true) (hm:n.has yi=false):Fm n:=by
 have ho:(1≤n.op∧n.op≤13)∨(20≤n.op∧n.op≤32)∨n.op=37∨n.op=38:=by
  rcases hs with e | e
  ·exact .inl (Z4 e)
  ·have:=zFT e;rw[Node.has_eq,BY]at hm;have hm1:=hm.1;unfold yi at hm1;simp only[BY,decide_eq_false_iff_not]at hm1;omega
 rw[Node.formed_eq]at h;simp only[bP,bR]at h;obtain⟨_,_,h3,h4,_⟩:=h;have small : ∀d∈yU n.op n.kids.length,d=1∨d=2:=by
  unfold yU;by_cases c1:n.op=10∨n.op=37
  ·rw[bA c1];intro d hd;exact .inl (PD hd)
  ·rw[hZ c1,hZ (by omega)];unfold zP;have e1 : ¬(n.op=59∨n.op=60):=by omega
   have e2 : ¬(n.op=57∨n.op=58):=by omega
   have e3 : ¬(n.op=35∨n.op=36):=by omega
   simp only[e1,e2,e3,if_false];intro d hd
   repeat' split at hd
   all_goals simp at hd
   all_goals omega
 refine⟨ho,fun k hk=>?_,fun e=>?_⟩
 ·obtain⟨k1,k2⟩:=Ug _ _ _ _ _ h4 h3 k hk;have:=small _ k1;exact⟨by omega,_,_,_,k2⟩
 ·rw[h3];unfold yU
  rcases e with e | e <;> rw[e] <;> rfl
theorem Fm.head {n:Node} (h:Fm n) (hs:yP n.op=true):n.head=n.sym:=by
 have ho:=h.op;by_cases c:n.op=10∨n.op=37
 ·exact (Xc c).symm
 ·have e:n.op=11∨n.op=38:=by
   unfold yP at hs;simp only[HD,bR]at hs;omega
  rw[qp (by omega)];unfold Node.head;rw[hZ (by rw[h.leaf e];simp)]
theorem zFU (I:List Pr) (s:Node):(jc I s).isNone = !known I s:=by
 induction I with
 | nil=>rfl
 | cons p r ih =>
  unfold jc;have e:known (p::r) s=(decide (p.what.cmp s=0)||known r s):=rfl;rw[e];by_cases c:p.what.cmp s=0
  ·rw[bA c,bH c];rfl
  ·rw[hZ c,bI c,ih,bX]
theorem zAn (I:List Pr) : ∀n:Node,(zv n.op=1∨zv n.op=2)→(∃a b c,n.formed a b c=true)→n.has yi=false→n.unk I=(n.has (ys 13) || !n.syms.all (known I)):=by
 refine Node.ind' fun n ih hs hf hm=>?_;obtain⟨a,b,c,hf⟩:=hf;have fm:=zTK hs hf hm;have kids : ∀l:List Node,(∀k∈l,k∈n.kids)→Node.unks I l=(Node.hass (ys 13) l || !(Node.symss l).all (known I)):=by
  intro l
  induction l with
  | nil=>intro _;rfl
  | cons k r ihr =>
   intro hl;have h1:=hl k (by simp);obtain⟨k1,k2⟩:=fm.kids k h1;have e:=ih k h1 k1 k2 (ud hm h1)
   show (k.unk I||Node.unks I r)=((k.has (ys 13)||Node.hass (ys 13) r) || !(k.syms++Node.symss r).all (known I))
   rw[e,ihr fun x hx=>hl x (by simp[hx]),List.all_append]
   cases k.has (ys 13) <;> cases Node.hass (ys 13) r <;> cases k.syms.all (known I) <;> cases (Node.symss r).all (known I) <;> rfl
 rw[Node.unk_eq,kids _ fun k hk=>hk,Node.has_eq,Node.syms_eq,List.all_append];have e13:ys 13 n.op=decide (n.op=13):=rfl;rw[e13]
 cases es:yP n.op
 ·rw[hZ (by simp),BP,bC,bB,bX,Bool.or_assoc]
 ·rw[bA rfl,fm.head es,zFU,HY,BP,pD,bC]
  cases decide (n.op=13) <;> cases Node.hass (ys 13) n.kids <;> cases known I n.sym <;> cases (Node.symss n.kids).all (known I) <;> rfl
theorem zAo : ∀n:Node,zv n.op=1→(∃a b c,n.formed a b c=true)→∀s∈n.syms,s.op=10∨s.op=11:=by
 refine Node.ind' fun n ih hs hf s h=>?_;obtain⟨a,b,c,hf⟩:=hf;have tm:=zIY hs hf;rw[Node.syms_eq]at h
 rcases sG.1 h with h | h
 ·cases es:yP n.op
  ·rw[es,hZ (by simp)]at h;cases h
  ·rw[es,bA rfl,AC]at h;have e:=zQG es;rw[←h]at e;rw[e];have ho:=tm.op;unfold yP at es;simp only[HD,bR]at es;omega
 ·obtain⟨k,k1,k2⟩:=zAm h;obtain⟨k3,k4⟩:=tm.kids k k1;exact ih k k1 k3 k4 s k2
theorem zAp {I:List Pr} (hI : ∀p∈I,p.ok) (hg:GoodI I) {s:Node} (hk:known I s=true) : ∃w,jc I s=some w∧w.ok∧w.syms=[]∧w.has (ys 12)=false∧w.has yi=false∧(s.op=10∨s.op=11→zv w.op=1∧w.formed false false false=true)∧(s.op=37∨s.op=38→zv w.op=2∧w.formed false false false=true):=by
 obtain⟨w,h1,p,hp,rfl,hc⟩:=Jh I s hk;have e:=(cmp_eq _ _).1 hc;subst e;exact⟨_,h1,(hI p hp).wth,hg.syms p hp,(hg.plain p hp).1,(hg.plain p hp).2.2,hg.term p hp,hg.form p hp⟩
theorem zFV {B:Nat} {L:List Bd} {I:List Pr} (h:RC B L I) (hg:GoodI I) (n:Node) (hn:n.ok) (hs:zv n.op=1) (hf : ∃a b c,n.formed a b c=true) (hk:n.syms.all (known I)=true):EvR B L I (val B L I n) n:=by
 refine Jm h _ n hn hs hf fun s hsy=>?_;obtain⟨w,h1,h2,h3,_,_,h4,_⟩:=zAp h.okI hg (pH.1 hk s hsy);obtain⟨t1,t2⟩:=h4 (zAo n hs hf s hsy);refine⟨w,h1,?_⟩;have e:Z5 B L I s=w.ev B L zMB:=by unfold Z5;rw[h1]
 rw[e];exact Jm h zMB w h2 t1 ⟨_,_,_,t2⟩ fun s hs=>by rw[h3]at hs;cases hs
theorem zKE {L:List Bd} {I:List Pr} (h:RC 4096 L I) (hg:GoodI I) (n:Node) (hn:n.ok) (hs:zv n.op=1) (hf : ∃a b c,n.formed a b c=true) (hk:n.syms.all (known I)=true):wI L I (val 4096 L I n) n:=by
 refine Js h _ (YG (by omega) L I) (zHU 4096 L I) n hn hs hf fun s hsy=>?_;obtain⟨w,h1,h2,h3,h12,_,h4,_⟩:=zAp h.okI hg (pH.1 hk s hsy);obtain⟨t1,t2⟩:=h4 (zAo n hs hf s hsy);refine⟨w,h1,?_,h12⟩;have e:Z5 4096 L I s=w.ev 4096 L zMB:=by unfold Z5;rw[h1]
 rw[e];exact Js h zMB (fun _ _ _ _ _ h=>(by cases h)) (fun _ _ _ _ h=>(by cases h)) w h2 t1 ⟨_,_,_,t2⟩ fun s hs=>by rw[h3]at hs;cases hs
section
structure Light (L:List Bd) (I:List Pr) (n:Node):Prop where
 okL:WZ L
 lenL:L.length≤100
 okI : ∀p∈I,p.ok
 len:I.length≤60
 cnt : ∀p∈I,p.wth.count≤1000∧p.what.count≤1000
 okn:n.ok
 cn:n.count≤1000
def XS:List Int:=[33,34,35,36,39]
def UQ (L:List Bd) (I:List Pr) (n:Node) (w:Int):Int :=
 if n.check w≠0 then n.check w else if Yk L=false then 3 else if qZ I≠0 then qZ I else if n.has (xw XS)=true then 111 else Jn I n
section
attribute [local irreducible] Vs.callL Vs.callRL tyi zO zn zg zR zY za zI zZ zA zK ze zX zG zJ zW zr yJ zq zL zf Vs.gc zH
noncomputable def zTL:FX:=⟨Tryz.f53,zD.of 53,[]⟩
instance ok53_:zTL.ok 53:=FX.mk'
theorem zHa {L:List Bd} {I:List Pr} {n:Node} (h:Light L I n) (w:Int):callL Tryz.prog zD 53 [.agg n.cells,.int .i64 w,.sl (yC L) false,.sl (zS I) false]=some (.int .i64 (UQ L I n w)):=by
 have tc:=fun S s=>jX S n h.okn s;have sv:=fun S=>zJZ S L h.okL (by have:=h.lenL;unfold maxLen;omega);have sc:=fun S=>zJo S I h.okI h.len h.cnt;have u:=Zg (S:=[.arr [n.cells] none false,.arr [[PV.int .i64 33],[.int .i64 34],[.int .i64 35],[.int .i64 36],[.int .i64 39]] (some (some 1)) false]) (id:=1) (ops:=XS) (k:=5) (ex:=true) n h.okn (by decide) rfl rfl;have kn:=fun S=>zF (S:=S) (zH3 I h.okI h.len n h.okn (by have:=h.cn;omega)) (by simp[Node.plain,zh.sl]);unfold UQ;by_cases c1:n.check w=0
 case neg =>
  rw[bA c1];apply FX.callV ok53_ 1000 rfl rfl
  ·((repeat((conv=>lhs;whnf);simp only[go_sem,simprocAttr,tc,c1]));try rfl)
  ·rfl
 rw[hZ (by simpa using c1)]
 cases c2:Yk L
 case false =>
  rw[c2]at sv;rw[bA rfl];apply FX.callV ok53_ 1000 rfl rfl
  ·((repeat((conv=>lhs;whnf);simp only[go_sem,simprocAttr,tc,c1,sv]));try rfl)
  ·rfl
 rw[c2]at sv;rw[hZ (by simp)];by_cases c3:qZ I=0
 case neg =>
  rw[bA c3];apply FX.callV ok53_ 1000 rfl rfl
  ·((repeat((conv=>lhs;whnf);simp only[go_sem,simprocAttr,tc,c1,sv,sc,c3]));try rfl)
  ·rfl
 rw[hZ (by simpa using c3)]
 cases c4:n.has (xw XS)
 ·rw[c4]at u;rw[hZ (by simp)];apply FX.callV ok53_ 1000 rfl rfl
  ·((repeat((conv=>lhs;whnf);simp only[go_sem,simprocAttr,tc,c1,sv,sc,c3,u,kn]));try rfl)
  ·rfl
 ·rw[c4]at u;rw[bA rfl];apply FX.callV ok53_ 1000 rfl rfl
  ·((repeat((conv=>lhs;whnf);simp only[go_sem,simprocAttr,tc,c1,sv,sc,c3,u]));try rfl)
  ·rfl
theorem zOH (S:zB) {L:List Bd} {I:List Pr} {n:Node} (h:Light L I n) (w:Int):zO (callL Tryz.prog zD) S 53 [.agg n.cells,.int .i64 w,.sl (yC L) false,.sl (zS I) false]=some {v:=.int .i64 (UQ L I n w)} := zF (zHa h w) (by simp[Node.plain,zh.int,zh.sl,Zy])
def qc (c:List PV) (e:Int):PV:=.tup [.agg c,.int .i64 e]
noncomputable def zTM:FX:=⟨Tryz.f14,zD.of 14,[]⟩
instance ok14_:zTM.ok 14:=FX.mk'
theorem Qb {L:List Bd} {I:List Pr} {n:Node} (h:Light L I n) (hr:UQ L I n 1=0) {g:DV→Bool→Option DV} (k:wI L I g n) {x:DV} (hx:g (0,0) false=some x) (hf:jj 4096 x):callL Tryz.prog zD 14 [.agg n.cells,.sl (yC L) false,.sl (zS I) false]=some (qc (r3 x.1) 0):=by
 have rd:=fun S=>zOH S h 1;rw[hr]at rd;have z:=vl;have fi:=fun S=>zCe S x.1;rw[vz.2 hf.1]at fi;have z0:=uC (B:=4096) (by omega);have lw:ua 3 [.arr [n.cells] none false,.arr [[.bool false,.sl [] true,.sl [] true]] none false,.arr [evc L I 0 0 false false] none false]=true:=by
  simp only[xB,xh,yH (yZ _),yH (Jo _ _ _ _ _ _),yH (show zV [[PV.bool false,.sl [] true,.sl [] true]]=[] from rfl),pD]
 have eS:ES [.arr [n.cells] none false,.arr [[.bool false,.sl [] true,.sl [] true]] none false,.arr [evc L I 0 0 false false] none false] 2 (evc L I 0 0 false false):=⟨rfl,lw⟩;obtain⟨X,c0,l0⟩:=k.m ⟨z0,z0⟩ (fun _=>rfl) (fun e=>by cases e) hx eS;clear eS lw;simp only[wX]at *;apply FX.callV ok14_ 1000 rfl rfl
 ·unfold d2 evc d2 at *;unfold yD at *;simp only[pB,sB,pG]at c0;((repeat((conv=>lhs;whnf);simp only[go_sem,simprocAttr,rd,z,c0,fi,wO,xX]));try rfl)
 ·rfl
end
end
section
theorem Light.big {L:List Bd} {I:List Pr} {n:Node} (h:Light L I n):n.count≤1000000000:=by have:=h.cn;omega
theorem Light.llen {L:List Bd} {I:List Pr} {n:Node} (h:Light L I n):L.length≤maxLen:=by have:=h.lenL;unfold maxLen;omega
def jg (L:List Bd) (I:List Pr) (n:Node) (w:Int):Int :=
 if n.check w≠0 then n.check w else if Yk L=false then 3 else if qa I≠0 then 3 else if n.unk I=true then 110 else 0
theorem zQH {B:Nat} (h:1≤B):kK B (0,0)=dc 0 0 B false:=bA (by rw[vz.2 (uC h)];rfl)
theorem zz {B:Nat} (h:1≤B):jj B (0,0):=⟨uC h,uC h⟩
section
attribute [local irreducible] Vs.callL Vs.callRL tyi zO zn zg zR zY za zI zZ zA zK ze zX zG zJ zW zr yJ zq zL zf Vs.gc zH
noncomputable def zTN:FX:=⟨Tryz.f15,zD.of 15,[]⟩
instance ok15_:zTN.ok 15:=FX.mk'
theorem Uu {L:List Bd} {I:List Pr} {n:Node} (h:Light L I n) (hr:jg L I n 1≠0):callL Tryz.prog zD 15 [.agg n.cells,.sl (yC L) false,.sl (zS I) false]=some (qc rvE.cells (jg L I n 1)):=by
 have tc:=fun S=>qU S n h.okn h.big 1;have sv:=fun S=>X9 S L h.okL h.llen;have sc:=fun S=>V4 S I h.okI h.len h.cnt;have un:=fun S=>Xg S I h.okI h.len n h.okn;unfold jg at *;by_cases c1:n.check 1=0
 case neg =>
  rw[bA c1];apply FX.callV ok15_ 1000 rfl rfl
  ·((repeat((conv=>lhs;whnf);simp only[go_sem,simprocAttr,tc,c1]));try rfl)
  ·rfl
 rw[hZ (by simpa using c1)]at hr ⊢
 cases c2:Yk L
 case false =>
  rw[c2]at sv;rw[bA rfl];apply FX.callV ok15_ 1000 rfl rfl
  ·((repeat((conv=>lhs;whnf);simp only[go_sem,simprocAttr,tc,c1,sv]));try rfl)
  ·rfl
 rw[c2]at sv hr;rw[hZ (by simp)]at hr ⊢;by_cases c3:qa I=0
 case neg =>
  rw[bA c3];apply FX.callV ok15_ 1000 rfl rfl
  ·((repeat((conv=>lhs;whnf);simp only[go_sem,simprocAttr,tc,c1,sv,sc,c3]));try rfl)
  ·rfl
 rw[hZ (by simpa using c3)]at hr ⊢
 cases c4:n.unk I
 ·rw[c4,hZ (by simp)]at hr;exact absurd rfl hr
 ·rw[c4]at un;rw[bA rfl];apply FX.callV ok15_ 1000 rfl rfl
  ·((repeat((conv=>lhs;whnf);simp only[go_sem,simprocAttr,tc,c1,sv,sc,c3,un]));try rfl)
  ·rfl
theorem jF {L:List Bd} {I:List Pr} {n:Node} {w:Int} (h:jg L I n w=0):n.check w=0∧Yk L=true∧qa I=0∧n.unk I=false:=by
 unfold jg at h;by_cases c1:n.check w=0
 case neg=>rw[bA c1]at h;exact absurd h c1
 rw[hZ (by simpa using c1)]at h
 cases c2:Yk L
 ·rw[c2,bA rfl]at h;cases h
 rw[c2,hZ (by simp)]at h;by_cases c3:qa I=0
 case neg=>rw[bA c3]at h;cases h
 rw[hZ (by simpa using c3)]at h
 cases c4:n.unk I
 ·exact⟨c1,rfl,c3,rfl⟩
 ·rw[c4,bA rfl]at h;cases h
theorem Jt {L:List Bd} {I:List Pr} {n:Node} (h:Light L I n) (hr:jg L I n 1=0) {g:DV→Bool→Option DV} (k:EvR 4096 L I g n) {x:DV} (hx:g (0,0) false=some x):callL Tryz.prog zD 15 [.agg n.cells,.sl (yC L) false,.sl (zS I) false]=some (qc (r3 x.1) 0):=by
 obtain⟨c1,c2,c3,c4⟩:=jF hr;have tc:=fun S=>qU S n h.okn h.big 1;have sv:=fun S=>X9 S L h.okL h.llen;have sc:=fun S=>V4 S I h.okI h.len h.cnt;have un:=fun S=>Xg S I h.okI h.len n h.okn;rw[c2]at sv;rw[c4]at un;have rz:=XP;have z0:=zz (B:=4096) (by omega);have pl:=fun S=>jd S 0 4096 (z0.1.dec.mono (by omega));rw[zQH (by omega)]at pl;obtain⟨v,d,b,f,e,his⟩:=k.o false z0;rw[hx]at his;obtain⟨rfl,rfl,rfl,rfl,fx⟩:=his;have to:=fun S=>zHV S x.1 (fx.1.dec.mono (by omega));rw[show ((4096:Nat):Int)=4096 from rfl]at pl e;unfold qc;apply FX.callV ok15_ 1000 rfl rfl
 ·unfold xY ku at *;unfold dc at *;unfold rrV rrL zu yN at *;((repeat((conv=>lhs;whnf);simp only[go_sem,simprocAttr,tc,c1,sv,sc,c3,un,rz,pl,e,to]));try rfl)
 ·rfl
noncomputable def zTO:FX:=⟨Tryz.f13,zD.of 13,[]⟩
instance ok13_:zTO.ok 13:=FX.mk'
theorem zCf {L:List Bd} {I:List Pr} {n:Node} (h:Light L I n) (hs:zv n.op=1) (hr:jg L I n 1=0) (hm:n.has yi=false) {g:DV→Bool→Option DV} (k:EvR 200 L I g n):callL Tryz.prog zD 13 [.agg n.cells,.sl (yC L) false,.sl (zS I) false]=some (.bool (g (0,0) false).isNone):=by
 obtain⟨c1,c2,c3,c4⟩:=jF hr;have so:=fun S=>yY S n.op;rw[hs]at so;have tc:=fun S=>qU S n h.okn h.big 1;have sv:=fun S=>X9 S L h.okL h.llen;have sc:=fun S=>V4 S I h.okI h.len h.cnt;have un:=fun S=>Xg S I h.okI h.len n h.okn;have mo:=fun S=>VX S n h.okn;rw[c2]at sv;rw[c4]at un;rw[hm]at mo;have rz:=XP;have z0:=zz (B:=200) (by omega);have pl:=fun S=>jd S 0 200 (z0.1.dec.mono (by omega));rw[zQH (by omega)]at pl;obtain⟨v,d,b,f,e,his⟩:=k.o false z0;have ef:f=(g (0,0) false).isNone:=by
  cases hx:g (0,0) false with
  | none=>rw[hx]at his;exact his
  | some x=>rw[hx]at his;exact his.2.2.2.1
 rw[←ef];rw[show ((200:Nat):Int)=200 from rfl]at pl e;apply FX.callB2 ok13_ 1000 rfl rfl;unfold dc at *;unfold rrV rrL zu yN at *;((repeat((conv=>lhs;whnf);simp only[go_sem,simprocAttr,so,tc,c1,sv,sc,c3,un,mo,rz,pl,e]));try rfl)
end
end
section
theorem zKF (n:Node):n.has (xw XS)=n.has yi:=by
 congr 1
 funext o
 simp[xw,XS,yi,Bool.or_assoc]
theorem zHb {I:List Pr} {n:Node} (hs:zv n.op=1∨zv n.op=2) (hf : ∃a b c,n.formed a b c=true) (hm:n.has yi=false):Jn I n=if n.unk I=true then 110 else 0:=by
 unfold Jn;rw[zAn I n hs hf hm,zIR]
 cases n.has (ys 13) <;> cases n.syms.all (known I) <;> rfl
theorem zCg {I:List Pr} (h:qZ I≠0):qZ I=3:=by
 unfold qZ at *
 split at h
 ·exact absurd rfl h
 ·rename_i c;rw[hZ c]
theorem zHc (L:List Bd) (I:List Pr) (n:Node):UQ L I n 1=jg L I n 1:=by
 unfold UQ jg;by_cases c1:n.check 1=0
 case neg=>rw[bA c1,bA c1]
 have e1 : ¬(n.check 1≠0):=by simpa using c1
 rw[hZ e1,hZ e1];obtain⟨_,f1,f2⟩:=uu c1;have hm:=ZB n _ _ _ f2 f1;rw[zHb (.inl f1) ⟨_,_,_,f2⟩ hm,zKF,hm,←zFC];by_cases c3:qZ I=0
 ·rw[c3];simp
 ·rw[zCg c3];simp
section
attribute [local irreducible] Vs.callL Vs.callRL tyi zO zn zg zR zY za zI zZ zA zK ze zX zG zJ zW zr yJ zq zL zf Vs.gc zH
end
theorem zMb {B:Nat} {L:List Bd} {I:List Pr} {n:Node} (h:Light L I n) (h1:1≤B) (h2:B≤4096) (hv:Yk L=true):RC B L I:=⟨h1,h2,h.okL,hv,h.okI,h.len⟩
end
section
def qF (o:Int) (k:Node):Node:=.mk o ⟨#[]⟩ false [] [] [k]
def jk (o:Int) (k m:Node):Node:=.mk o ⟨#[]⟩ false [] [] [k,m]
theorem zOh {q r:Rat} {j:Nat} (hq:wB q j) (hr:wB r j):wB (q+r) (2*j+1):=by
 rw[vA];have hX:(words (q.num.natAbs*r.den)).length≤2*j:=by have:=uW hq.1 hr.2;omega
 have hY:(words (r.num.natAbs*q.den)).length≤2*j:=by have:=uW hr.1 hq.2;omega
 have hD:(words (q.den*r.den)).length≤2*j:=by have:=uW hq.2 hr.2;omega
 generalize q.num.natAbs*r.den=X at *;generalize r.num.natAbs*q.den=Y at *;have hd:=PH q.den_nz r.den_nz;generalize q.den*r.den=D at *;generalize yT q=b;generalize yT r=c;have hN:(sg b X+sg c Y).natAbs≤X+Y:=by
  have:=Int.natAbs_add_le (sg b X) (sg c Y)
  rwa [jx,jx]at this
 have hS:=zAY hX hY;have hS':=bO (vM hN) hS;unfold wB;rw[Ks hd,Kt hd];exact⟨bO (vM (HV _ _)) hS',bO (vM (HV _ _)) (by show (words D).length≤_;omega)⟩
section
variable {B:Nat} {st:List Bd} {sy:Node→DV→Bool→Option DV}
theorem ZG (k:Node) (d:DV) (f:Bool):(qF 12 k).ev B st sy d f=(k.ev B st sy d true).bind fun x=>kJ B (x.2,0):=by rw[Node.ev_eq];rfl
theorem zCh (k m:Node) (d:DV) (f:Bool):(jk 5 k m).ev B st sy d f=(k.ev B st sy d f).bind fun x=>(m.ev B st sy d f).bind fun y=>kJ B (Y8 x y):=by rw[Node.ev_eq];rfl
theorem KJ (k m:Node) (d:DV) (f:Bool):(jk 7 k m).ev B st sy d f=(k.ev B st sy d f).bind fun x=>(m.ev B st sy d f).bind fun y=>kJ B (xg x y):=by rw[Node.ev_eq];rfl
end
theorem zAq {B:Nat} {a a':DV} (ha:a.1=a'.1) : ∀ {k:Nat} {o o' x y:DV},o.1=o'.1→Q9 B a k o=some x→Q9 B a' k o'=some y→x.1=y.1
 | 0,o,o',x,y,ho,h,h'=>by cases h;cases h';exact ho
 | k+1,o,o',x,y,ho,h,h'=>by
  obtain⟨z,h1,h2⟩:=bJ.1 h;obtain⟨z',h1',h2'⟩:=bJ.1 h';obtain⟨rfl,_⟩:=zT.1 h1;obtain⟨rfl,_⟩:=zT.1 h1';exact zAq ha (show o.1*a.1=o'.1*a'.1 by rw[ho,ha]) h2 h2'
def zFW (g:DV→Bool→Option DV):Prop:=∀(d d' x y:DV) (f f':Bool),d.1=d'.1→g d f=some x→g d' f'=some y→x.1=y.1
theorem zCi {B:Nat} {st:List Bd} {sy:Node→DV→Bool→Option DV} (hs : ∀s,zFW (sy s)) : ∀n:Node,n.has (ys 12)=false→zFW (n.ev B st sy):=by
 refine Node.ind' fun n ih h12 d d' x y f f' hd h h'=>?_;have m0:zFW (kv B st sy n.kids 0):=UL _ _ (fun _ _ _ _ _ _ _ h=>(by cases h)) fun k hk=>ih k hk (ud h12 hk);have m1:zFW (kv B st sy n.kids 1):=UL _ _ (fun _ _ _ _ _ _ _ h=>(by cases h)) fun k hk=>ih k hk (ud h12 hk);have e12:n.op≠12:=by
  rw[Node.has_eq,BY]at h12
  simpa [ys] using h12.1
 rw[Node.ev_eq]at h h';unfold xe at h h';by_cases c:n.op=1
 ·rw[bA c]at h h';rw[(zT.1 h).1,(zT.1 h').1]
 rw[hZ c]at h h';clear c;by_cases c:n.op=2
 ·rw[bA c]at h h';rw[(zT.1 h).1,(zT.1 h').1]
 rw[hZ c]at h h';clear c;by_cases c:n.op=3
 ·rw[bA c]at h h';rw[(zT.1 h).1,(zT.1 h').1]
 rw[hZ c]at h h';clear c;by_cases c:n.op=4
 ·rw[bA c]at h h';obtain⟨x1,h1,h2⟩:=bJ.1 h;obtain⟨y1,h1',h2'⟩:=bJ.1 h';rw[(zT.1 h2).1,(zT.1 h2').1]
  show -1*x1.1 = -1*y1.1
  rw[m0 _ _ _ _ _ _ hd h1 h1']
 rw[hZ c]at h h';clear c;by_cases c:n.op=5
 ·rw[bA c]at h h';obtain⟨x1,h1,h⟩:=bJ.1 h;obtain⟨x2,h2,h3⟩:=bJ.1 h;obtain⟨y1,h1',h'⟩:=bJ.1 h';obtain⟨y2,h2',h3'⟩:=bJ.1 h';rw[(zT.1 h3).1,(zT.1 h3').1]
  show x1.1+x2.1=y1.1+y2.1
  rw[m0 _ _ _ _ _ _ hd h1 h1',m1 _ _ _ _ _ _ hd h2 h2']
 rw[hZ c]at h h';clear c;by_cases c:n.op=6
 ·rw[bA c]at h h';obtain⟨x1,h1,h⟩:=bJ.1 h;obtain⟨x2,h2,h3⟩:=bJ.1 h;obtain⟨y1,h1',h'⟩:=bJ.1 h';obtain⟨y2,h2',h3'⟩:=bJ.1 h';rw[(zT.1 h3).1,(zT.1 h3').1]
  show x1.1 + -1*x2.1=y1.1 + -1*y2.1
  rw[m0 _ _ _ _ _ _ hd h1 h1',m1 _ _ _ _ _ _ hd h2 h2']
 rw[hZ c]at h h';clear c;by_cases c:n.op=7
 ·rw[bA c]at h h';obtain⟨x1,h1,h⟩:=bJ.1 h;obtain⟨x2,h2,h3⟩:=bJ.1 h;obtain⟨y1,h1',h'⟩:=bJ.1 h';obtain⟨y2,h2',h3'⟩:=bJ.1 h';rw[(zT.1 h3).1,(zT.1 h3').1]
  show x1.1*x2.1=y1.1*y2.1
  rw[m0 _ _ _ _ _ _ hd h1 h1',m1 _ _ _ _ _ _ hd h2 h2']
 rw[hZ c]at h h';clear c;by_cases c:n.op=8
 ·rw[bA c]at h h';obtain⟨x1,h1,h⟩:=bJ.1 h;obtain⟨x2,h2,h3⟩:=bJ.1 h;obtain⟨y1,h1',h'⟩:=bJ.1 h';obtain⟨y2,h2',h3'⟩:=bJ.1 h';rw[(zT.1 h3).1,(zT.1 h3').1]
  show x1.1*x2.1=y1.1*y2.1
  rw[(zT.1 h1).1,(zT.1 h1').1,m0 _ _ _ _ _ _ hd h2 h2']
 rw[hZ c]at h h';clear c;by_cases c:n.op=9
 ·rw[bA c]at h h';obtain⟨x1,h1,h2⟩:=bJ.1 h;obtain⟨y1,h1',h2'⟩:=bJ.1 h';exact zAq (m0 _ _ _ _ _ _ hd h1 h1') rfl h2 h2'
 rw[hZ c]at h h';clear c;rw[hZ e12]at h h';by_cases c:n.op=13
 ·rw[bA c]at h h'
  cases h;cases h';exact hd
 rw[hZ c]at h h';clear c;by_cases c:n.kids.length≠0
 ·rw[bA c]at h h';obtain⟨x1,h1,h2⟩:=bJ.1 h;obtain⟨y1,h1',h2'⟩:=bJ.1 h';exact hs _ _ _ _ _ _ _ (m0 _ _ _ _ _ _ hd h1 h1') h2 h2'
 rw[hZ c]at h h';clear c;exact hs _ _ _ _ _ _ _ hd h h'
theorem zFX : ∀ {I:List Pr} {s w:Node},jc I s=some w→∃p∈I,p.wth=w
 | [],s,w,h=>by cases h
 | p::r,s,w,h=>by
  unfold jc at h;by_cases c:p.what.cmp s=0
  ·rw[bA c]at h;cases h;exact⟨p,by simp,rfl⟩
  ·rw[hZ c]at h;obtain⟨q,h1,h2⟩:=zFX h;exact⟨q,by simp[h1],h2⟩
theorem Ju {B:Nat} {st:List Bd} {I:List Pr} (hg:GoodI I) (s:Node):zFW (Z5 B st I s):=by
 unfold Z5
 cases e:jc I s with
 | none=>exact fun _ _ _ _ _ _ _ h=>(by cases h)
 | some w =>
  obtain⟨p,hp,rfl⟩:=zFX e;exact zCi (fun _ _ _ _ _ _ _ _ h=>(by cases h)) _ (hg.plain p hp).1
section
variable {st:List Bd} {I:List Pr}
theorem zMc (hg:GoodI I) {a b:Node} (ha:a.has (ys 12)=false) (hb:b.has (ys 12)=false) {p q:DV} (hp:val 200 st I (qF 12 (jk 7 a b)) (0,0) false=some p) (hq:val 200 st I (jk 5 (jk 7 (qF 12 a) b) (jk 7 a (qF 12 b))) (0,0) false=some q):p.1=q.1:=by
 unfold val at hp hq;rw[ZG,KJ]at hp;obtain⟨x,hx,hp⟩:=bJ.1 hp;obtain⟨xa,h1,hx⟩:=bJ.1 hx;obtain⟨xb,h2,hx⟩:=bJ.1 hx;rw[zCh,KJ,KJ,ZG,ZG,h1,h2]at hq;obtain⟨u,hu,hq⟩:=bJ.1 hq;obtain⟨v,hv,hq⟩:=bJ.1 hq;rw[bG]at hu;obtain⟨da,k1,hu⟩:=bJ.1 hu;obtain⟨yb,k2,hu⟩:=bJ.1 hu;obtain⟨ya,k3,hv⟩:=bJ.1 hv;rw[bG]at hv;obtain⟨db,k4,hv⟩:=bJ.1 hv;rw[(zT.1 hp).1,(zT.1 hx).1,(zT.1 hq).1,(zT.1 hu).1,(zT.1 hv).1,(zT.1 k1).1,(zT.1 k4).1];have e1:xa.1=ya.1:=zCi (Ju hg) a ha _ _ _ _ _ _ rfl h1 k3;have e2:xb.1=yb.1:=zCi (Ju hg) b hb _ _ _ _ _ _ rfl h2 k2
 show xa.2*xb.1+xa.1*xb.2=xa.2*yb.1+ya.1*xb.2
 rw[e1,e2]
theorem zMd {a b:Node} {p:DV} (hp:val 200 st I (qF 12 (jk 7 a b)) (0,0) false=some p) : ∃x:Rat,val 4096 st I (qF 12 (jk 5 a b)) (0,0) false=some (x,0)∧val 4096 st I (jk 5 (qF 12 a) (qF 12 b)) (0,0) false=some (x,0)∧wB x 4096:=by
 unfold val at hp;rw[ZG,KJ]at hp;obtain⟨x,hx,hp⟩:=bJ.1 hp;obtain⟨xa,h1,hx⟩:=bJ.1 hx;obtain⟨xb,h2,hx⟩:=bJ.1 hx;have z:=uC (B:=200) (by omega);have fa:=uz (by omega) (YG (by omega) st I) a _ _ _ ⟨z,z⟩ h1;have fb:=uz (by omega) (YG (by omega) st I) b _ _ _ ⟨z,z⟩ h2;have z':=uC (B:=4096) (by omega);have s1:wB (xa.1+xb.1) 4096:=(zOh fa.1 fb.1).mono (by omega);have s2:wB (xa.2+xb.2) 4096:=(zOh fa.2 fb.2).mono (by omega);have g1:=KI (show 200≤4096 by omega) (W3 (st:=st) (I:=I) (show 200≤4096 by omega)) a _ _ _ h1;have g2:=KI (show 200≤4096 by omega) (W3 (st:=st) (I:=I) (show 200≤4096 by omega)) b _ _ _ h2;refine⟨xa.2+xb.2,?_,?_,s2⟩
 ·unfold val;rw[ZG,zCh,g1,bG,g2,bG,zT.2 ⟨rfl,s1,s2⟩,bG];exact zT.2 ⟨rfl,s2,z'⟩
 ·unfold val;rw[zCh,ZG,ZG,g1,g2,bG,bG,zT.2 ⟨rfl,fa.2.mono (by omega),z'⟩,bG,zT.2 ⟨rfl,fb.2.mono (by omega),z'⟩,bG]
  show kJ 4096 (xa.2+xb.2,(0:Rat)+0)=_
  rw[Rat.add_zero];exact zT.2 ⟨rfl,s2,z'⟩
end
end
section
theorem Jv {o:Int} (h1:o≠1) (h2:yS o=false):uq o ⟨#[]⟩ false [] []=true:=by
 unfold uq;rw[hZ h1,h2];simp[yd]
theorem qq (k:Node) (a b c:Bool):(qF 12 k).formed a b c=(!(a||c)&&(decide (zv k.op=1)&&k.formed true b c)):=by
 rw[Node.formed_eq];have e:(qF 12 k).op=12∧(qF 12 k).name=⟨#[]⟩∧(qF 12 k).neg=false∧(qF 12 k).num=[]∧(qF 12 k).den=[]∧(qF 12 k).kids=[k]:=⟨rfl,rfl,rfl,rfl,rfl,rfl⟩;rw[e.1,e.2.1,e.2.2.1,e.2.2.2.1,e.2.2.2.2.1,e.2.2.2.2.2,Jv (by decide) (by decide)];have e1:wU 12 ⟨#[]⟩ [k] a b c = !(a||c):=rfl;have e2:yU 12 [k].length=[1]:=rfl;have e3:xF 12 [k]=true:=rfl;rw[e1,e2,e3];simp[Node.formeds]
theorem W7 (o:Int) (ho:o=5∨o=7) (k m:Node) (a b c:Bool):(jk o k m).formed a b c=((decide (zv k.op=1)&&k.formed a b c)&&(decide (zv m.op=1)&&m.formed a b c)):=by
 rw[Node.formed_eq];have e:(jk o k m).op=o∧(jk o k m).name=⟨#[]⟩∧(jk o k m).neg=false∧(jk o k m).num=[]∧(jk o k m).den=[]∧(jk o k m).kids=[k,m]:=⟨rfl,rfl,rfl,rfl,rfl,rfl⟩;rw[e.1,e.2.1,e.2.2.1,e.2.2.2.1,e.2.2.2.2.1,e.2.2.2.2.2];have h1:uq o ⟨#[]⟩ false [] []=true:=by rcases ho with rfl | rfl <;> exact Jv (by decide) (by decide)
 have e1:wU o ⟨#[]⟩ [k,m] a b c=true:=by rcases ho with rfl | rfl <;> rfl
 have e2:yU o [k,m].length=[1,1]:=by rcases ho with rfl | rfl <;> rfl
 have e3:xF o [k,m]=true:=by rcases ho with rfl | rfl <;> rfl
 have e4:decide (o=12)=false∧decide (o=39)=false∧decide (o=54)=false:=by rcases ho with rfl | rfl <;> decide
 rw[h1,e1,e2,e3,e4.1,e4.2.1,e4.2.2];simp[Node.formeds,Bool.and_assoc]
theorem KK (I:List Pr) (k:Node):(qF 12 k).unk I=k.unk I:=by
 rw[Node.unk_eq]
 show (false||((false&&_)||(k.unk I||false)))=k.unk I
 simp
theorem zCj (I:List Pr) (o:Int) (ho:o=5∨o=7) (k m:Node):(jk o k m).unk I=(k.unk I||m.unk I):=by
 rw[Node.unk_eq]
 rcases ho with rfl | rfl
 ·show (false||((false&&_)||(k.unk I||(m.unk I||false))))=_
  simp
 ·show (false||((false&&_)||(k.unk I||(m.unk I||false))))=_
  simp
theorem qG (o:Int) (k:Node):(qF o k).count=k.count+1:=rfl
theorem qs (o:Int) (k m:Node):(jk o k m).count=k.count+m.count+1:=rfl
theorem Xj (o:Int) (k:Node):(qF o k).depth=k.depth+1:=by show max k.depth 0+1=_;omega
theorem UR (o:Int) (k m:Node):(jk o k m).depth=max k.depth m.depth+1:=by show max k.depth (max m.depth 0)+1=_;omega
theorem zMe:(RV.mk false [] []).ok:=⟨fun d h=>(by cases h),fun d h=>(by cases h),by decide,by decide⟩
theorem US {o:Int} (ho : -9223372036854775808≤o∧o≤9223372036854775807) {k:Node} (h:k.ok):(qF o k).ok:=⟨ho,by decide,zMe,(by show 1≤maxLen;decide),h,trivial⟩
theorem UT {o:Int} (ho : -9223372036854775808≤o∧o≤9223372036854775807) {k m:Node} (h:k.ok) (h':m.ok):(jk o k m).ok:=⟨ho,by decide,zMe,(by show 2≤maxLen;decide),h,h',trivial⟩
theorem zAr {n:Node} (hs:zv n.op=1) (h1:n.small=true) (h2:n.formed false false false=true):n.check 1=0:=by
 unfold Node.check;rw[hZ (by omega),hZ (by rw[h1];simp),hZ (by simpa using hs),hZ (by rw[h2];simp)]
theorem zI4 {L:List Bd} {I:List Pr} {n:Node} (h1:n.check 1=0) (h2:Yk L=true) (h3:qa I=0) (h4:n.unk I=false):jg L I n 1=0:=by
 unfold jg;rw[hZ (by simpa using h1),hZ (by rw[h2];simp),hZ (by simpa using h3),hZ (by rw[h4];simp)]
theorem W8 {I:List Pr} {n:Node} (hs:zv n.op=1) (hf : ∃a b c,n.formed a b c=true) (hu:n.unk I=false):n.syms.all (known I)=true:=by
 obtain⟨a,b,c,hf⟩:=hf;have:=zAn I n (.inl hs) ⟨_,_,_,hf⟩ (ZB n _ _ _ hf hs);rw[hu]at this
 cases hx:n.syms.all (known I)
 ·rw[hx]at this;simp at this
 ·rfl
def nP (a b:Node):Node:=qF 12 (jk 7 a b)
def nQ (a b:Node):Node:=jk 5 (jk 7 (qF 12 a) b) (jk 7 a (qF 12 b))
def nS (a b:Node):Node:=qF 12 (jk 5 a b)
def nY (a b:Node):Node:=jk 5 (qF 12 a) (qF 12 b)
theorem zTP {L:List Bd} {I:List Pr} {a b:Node} (ca:a.count≤150) (cb:b.count≤150) (hP:jg L I (nP a b) 1=0):(a.has (ys 12)=false∧b.has (ys 12)=false)∧jg L I (nS a b) 1=0∧jg L I (nY a b) 1=0:=by
 obtain⟨c1,c2,c3,c4⟩:=jF hP;obtain⟨s1,_,f1⟩:=uu c1;unfold nP at *;rw[qq,W7 7 (.inr rfl)]at f1;simp only[bP,bR]at f1;obtain⟨_,_,⟨sa,fa⟩,sb,fb⟩:=f1;rw[KK,zCj I 7 (.inr rfl),BY]at c4;unfold Node.small at s1;rw[bP,bR,bR,Xj,UR]at s1;refine⟨⟨zQF a sa _ _ fa,zQF b sb _ _ fb⟩,zI4 (zAr rfl ?_ ?_) c2 c3 ?_,zI4 (zAr rfl ?_ ?_) c2 c3 ?_⟩
 ·unfold nS Node.small;rw[bP,bR,bR,Xj,UR,qG,qs];omega
 ·unfold nS;rw[qq,W7 5 (.inl rfl),sa,sb,fa,fb];rfl
 ·unfold nS;rw[KK,zCj I 5 (.inl rfl),c4.1,c4.2];rfl
 ·unfold nY Node.small;rw[bP,bR,bR,UR,Xj,Xj,qs,qG,qG];omega
 ·unfold nY;rw[W7 5 (.inl rfl),qq,qq,sa,sb,fa,fb];rfl
 ·unfold nY;rw[zCj I 5 (.inl rfl),KK,KK,c4.1,c4.2];rfl
section
attribute [local irreducible] Vs.callL Vs.callRL tyi zO zn zg zR zY za zI zZ zA zK ze zX zG zJ zW zr yJ zq zL zf Vs.gc zH
theorem Uv {L:List Bd} {I:List Pr} {n:Node} (h:Light L I n) (hr:jg L I n 1=0) {g:DV→Bool→Option DV} (k:EvR 4096 L I g n) (hx:g (0,0) false=none):callL Tryz.prog zD 15 [.agg n.cells,.sl (yC L) false,.sl (zS I) false]=some (qc rvE.cells 2):=by
 obtain⟨c1,c2,c3,c4⟩:=jF hr;have tc:=fun S=>qU S n h.okn h.big 1;have sv:=fun S=>X9 S L h.okL h.llen;have sc:=fun S=>V4 S I h.okI h.len h.cnt;have un:=fun S=>Xg S I h.okI h.len n h.okn;rw[c2]at sv;rw[c4]at un;have rz:=XP;have z0:=zz (B:=4096) (by omega);have pl:=fun S=>jd S 0 4096 (z0.1.dec.mono (by omega));rw[zQH (by omega)]at pl;obtain⟨v,d,b,f,e,his⟩:=k.o false z0;rw[hx]at his;have ef:f=true:=his;subst ef;rw[show ((4096:Nat):Int)=4096 from rfl]at pl e;unfold qc;apply FX.callV ok15_ 1000 rfl rfl
 ·unfold dc at *;unfold rrV rrL zu yN at *;((repeat((conv=>lhs;whnf);simp only[go_sem,simprocAttr,tc,c1,sv,sc,c3,un,rz,pl,e]));try rfl)
 ·rfl
end
theorem Yi {L:List Bd} {I:List Pr} {n:Node} (h:Light L I n) : ∃(v:RV) (e:Int),callL Tryz.prog zD 15 [.agg n.cells,.sl (yC L) false,.sl (zS I) false]=some (qc v.cells e)∧(e=0→jg L I n 1=0):=by
 by_cases c:jg L I n 1=0
 ·obtain⟨c1,c2,c3,c4⟩:=jF c;obtain⟨_,f1,f2⟩:=uu c1;have kR:=zFV (zMb h (B:=4096) (by omega) (by omega) c2) (Vc c3) n h.okn f1 ⟨_,_,_,f2⟩ (W8 f1 ⟨_,_,_,f2⟩ c4)
  cases hx:val 4096 L I n (0,0) false with
  | none=>exact⟨rvE,2,Uv h c kR hx,fun e=>by cases e⟩
  | some x=>exact⟨⟨yT x.1,words x.1.num.natAbs,words x.1.den⟩,0,Jt h c kR hx,fun _=>c⟩
 ·exact⟨rvE,_,Uu h c,fun e=>absurd e c⟩
theorem WE {L:List Bd} {I:List Pr} {n:Node} (h:Light L I n) (c:jg L I n 1=0):callL Tryz.prog zD 13 [.agg n.cells,.sl (yC L) false,.sl (zS I) false]=some (.bool (val 200 L I n (0,0) false).isNone):=by
 obtain⟨c1,c2,c3,c4⟩:=jF c;obtain⟨_,f1,f2⟩:=uu c1;exact zCf h f1 c (ZB n _ _ _ f2 f1) (zFV (zMb h (B:=200) (by omega) (by omega) c2) (Vc c3) n h.okn f1 ⟨_,_,_,f2⟩ (W8 f1 ⟨_,_,_,f2⟩ c4))
theorem ji {L:List Bd} {I:List Pr} {n:Node} (h:Light L I n) (c:jg L I n 1=0) {x:DV} (hx:val 4096 L I n (0,0) false=some x):callL Tryz.prog zD 14 [.agg n.cells,.sl (yC L) false,.sl (zS I) false]=some (qc (r3 x.1) 0):=by
 obtain⟨c1,c2,c3,c4⟩:=jF c;obtain⟨_,f1,f2⟩:=uu c1;have fx:=uz (by omega) (YG (by omega) L I) n _ _ _ (zz (by omega)) hx;exact Qb h (by rw[zHc];exact c) (zKE (zMb h (by omega) (by omega) c2) (Vc c3) n h.okn f1 ⟨_,_,_,f2⟩ (W8 f1 ⟨_,_,_,f2⟩ c4)) hx fx
end
end Go.Vs

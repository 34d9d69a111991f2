
import Derived.Test.YtkaeejkajfinhaaGreatMV25
set_option linter.unusedVariables false
set_option linter.unusedSimpArgs false
set_option maxRecDepth 100000
namespace Go.Vs
open Go Go.Proofs
section
def zST (L:List Bd) (I:List Pr) (df:Bool) (S:zB) (id r:Nat) (fv:PV) (res:List PV) (a' c':Rat):Prop:=∀A,uO (S.length+A.length) A=true→∃X,zf Tryz.prog zE (S.set id (.arr [evc L I a' c' df false] none false)++A) fv []=some {v:=.tup [],S:=(S.set id (.arr [evc L I a' c' df false] none false)).set r (.arr [res] none false)++(A++X)} ∧ uO (S.length+A.length+X.length) X=true
theorem zEa {S:zB} {id:Nat} {o:Obj} (h:S[id]? = some o):S.set id o=S:=by
 have:=JP (o':=o) h
 rwa [List.set_set]at this
theorem zJV (S:zB) {i j:Nat} (h:i≠j) (a b:Obj):(S.set i a).set j b=(S.set j b).set i a:=List.set_comm a b h
theorem JQ {S:zB} {i j:Nat} {o o':Obj} (h:S[j]? = some o) (hne:i≠j):(S.set i o')[j]? = some o:=by rw[aD hne];exact h
theorem VN (f:FuncId) (p q r:Nat):PV.refs (.fn f [] [.mp p 0 0,.mp q 0 0,.mp r 0 0])=[p,q,r]:=rfl
section
attribute [local irreducible] Vs.callL Vs.callRL tyi zO zl zf zR zW za zI zY zA zK zb zV zG zJ zU zn yI zm zL ze Vs.gc zH
noncomputable def zPQ:FX:=⟨Tryz.f106,zE.of 106,[]⟩
instance ok106_:zPQ.ok 106:=FX.mk'
theorem zEb {L:List Bd} {I:List Pr} {g:DV→Bool→Option DV} {w:Node} (kw:wA L I g w) {a c:Rat} {df:Bool} {S:zB} {id p q r:Nat} (hS:ES S id (evc L I a c df false)) (hp:S[p]? = some (.arr [[.mp id 0 0]] none false)) (hq:S[q]? = some (.arr [w.cells] none false)) (hr:S[r]? = some (.arr [zd] none false)) (np:id≠p) (nq:id≠q) (nr':id≠r) {a' c':Rat} {x:DV} (hf:jN 4096 (a',c')) (hc:df=false→c'=0) (h12:df=true→w.has (yy 12)=false) (hx:g (a',c') df=some x):zST L I df S id r (.fn 106 [] [.mp p 0 0,.mp q 0 0,.mp r 0 0]) (d2 x.1 x.2) a' c':=by
 intro A hA;have h1:=hS.set (JN L I a' c' df false);have p1:=xE (ue (JQ (o':=.arr [evc L I a' c' df false] none false) hp np) A);have q1:=xE (ue (JQ (o':=.arr [evc L I a' c' df false] none false) hq nq) A);have r1:=JQ (o':=.arr [evc L I a' c' df false] none false) hr nr';have hl:(S.set id (.arr [evc L I a' c' df false] none false)).length=S.length:=aP;have lp:=(bR.1 hp).1;have lq:=(bR.1 hq).1;have lr:=(bR.1 hr).1;generalize S.set id (.arr [evc L I a' c' df false] none false)=S1 at *;have e1:=h1.app (A:=A) (by rw[hl];exact hA);obtain⟨X,c0,l0⟩:=kw.m hf hc h12 hx e1;have st:=fun B=>Vn r1 6 0 (.agg (d2 x.1 x.2)) (by decide) rfl rfl B;change ∀B,yV 6 (S1++B) (.mp r 0 0) (.agg (d2 x.1 x.2))=some (S1.set r (.arr [d2 x.1 x.2] none false)++B) at st;have hc:callRL Tryz.prog zE 106 [.mp p 0 0,.mp q 0 0,.mp r 0 0] (S1++A)=some (.tup [],S1.set r (.arr [d2 x.1 x.2] none false)++(A++X)):=by
  refine FX.callRL ok106_ 1000 rfl rfl ?_;rw[pB]at c0;((repeat((conv=>lhs;whnf);simp only[go_sem,simprocAttr,p1,q1,c0,st,pB]));try rfl)
 refine⟨X,?_,?_⟩
 ·rw[Za];refine wC (by kernel_rfl) hc (by first | (simp;done) | (simp;omega)) e1.low ?_;simp[wU,yQ,yt,vM]
  try omega
 ·rw[bM,hl]at l0;exact l0
noncomputable def zPR:FX:=⟨Tryz.f105,zE.of 105,[]⟩
instance ok105_:zPR.ok 105:=FX.mk'
theorem UK {L:List Bd} {I:List Pr} {g0:DV→Bool→Option DV} (n:Node) (hn:n.ok) {a c:Rat} {df:Bool} {S:zB} {id r:Nat} {c0 res:List PV} (hS:ES S id (evc L I a c df false)) (hr:S[r]? = some (.arr [c0] none false)) (nr':id≠r) (hres:zT [res]=[]) (fv:PV) (hfr : ∀x∈fv.refs,x<S.length) (hf:jN 4096 (a,c)) (hc:df=false→c=0) {y:DV} (hy:if n.kids.length=0 then y=(a,c) else wA L I g0 (n.kids.getD 0 nd0)∧g0 (a,c) df=some y∧(df=true→(n.kids.getD 0 nd0).has (yy 12)=false)) (clo:zST L I df S id r fv res y.1 y.2) : ∃X,callRL Tryz.prog zE 105 [.mp id 0 0,.agg n.cells,fv] S=some (.tup [],S.set r (.arr [res] none false)++X)∧uO (S.length+X.length) X=true:=by
 obtain⟨N,hN⟩ : ∃N,S.length=N:=⟨_,rfl⟩;have ev:=hS.rows;have lb:uO 0 [.arr [n.cells] none false,.arr [d2 a c] none false]=true:=by simp only[yv,xZ,yG (yZ _),yG (xB _ _),pD]
 have lz : ∀u v:Rat,uO 0 [.arr [n.cells] none false,.arr [d2 u v] none false]=true:=fun u v=>by simp only[yv,xZ,yG (yZ _),yG (xB _ _),pD]
 by_cases h0:n.kids.length=0
 ·rw[bA h0]at hy;subst hy;have g0' : ¬(0:Int)<(n.kids.length:Int):=by omega
  obtain⟨X,k1,k2⟩:=clo [.arr [n.cells] none false,.arr [d2 a c] none false] (zAD lb _);rw[zEa hS.at_]at k1;have e2:(S.set r (.arr [res] none false))[id]? = some (.arr [evc L I a c df false] none false):=JQ hS.at_ (Ne.symm nr');have st:=fun B=>Vn e2 6 2 (.agg (d2 a c)) (by show 8≤10;decide) rfl rfl B;change ∀B,yV 6 (S.set r (.arr [res] none false)++B) (.mp id 0 2) (.agg (d2 a c))=some ((S.set r (.arr [res] none false)).set id (.arr [evc L I a c df false] none false)++B) at st;rw[zEa e2]at st;have hN2:(S.set r (.arr [res] none false)).length=N:=by rw[aP,hN]
  refine⟨.arr [n.cells] none false :: .arr [d2 a c] none false::X,?_,?_⟩
  rotate_left
  ·have:=zAD lb (S.length+(Obj.arr [n.cells] none false::Obj.arr [d2 a c] none false::X).length);rw[show Obj.arr [n.cells] none false::Obj.arr [d2 a c] none false::X=[.arr [n.cells] none false,.arr [d2 a c] none false]++X from rfl,xw];rw[ym lb (sJ _),ym k2 (by first | (simp;done) | (simp;omega))];rfl
  generalize S.set r (.arr [res] none false)=S2 at *;refine FX.callRL ok105_ 1000 rfl rfl ?_;clear clo hS lb lz e2;unfold d2 evc d2 at *;unfold yC at *;simp only[pX,pG]at k1;((repeat((conv=>lhs;whnf);simp only[go_sem,simprocAttr,g0',ev,k1,st,hN2,xI hN2,hN,xI hN,xT]));try rfl)
 ·rw[hZ h0]at hy;obtain⟨kw,yh,k12⟩:=hy;have i0:=Yt (n:=n) (by omega);have g0':(0:Int)<(n.kids.length:Int):=by omega
  obtain⟨X0,c1,l0⟩:=kw.m hf hc k12 yh (hS.flat lb);have st1:=fun B=>Vn hS.at_ 6 2 (.agg (d2 y.1 y.2)) (by show 8≤10;decide) rfl rfl B;change ∀B,yV 6 (S++B) (.mp id 0 2) (.agg (d2 y.1 y.2))=some (S.set id (.arr [evc L I y.1 y.2 df false] none false)++B) at st1;have lX:uO (S.length+([Obj.arr [n.cells] none false,.arr [d2 a c] none false]++X0).length) ([Obj.arr [n.cells] none false,.arr [d2 a c] none false]++X0)=true:=by
   rw[xw,ym lb (sJ _),ym l0 (by first | (simp;done) | (simp;omega))];rfl
  obtain⟨X,k1,k2⟩:=clo _ lX;have e1:(S.set id (.arr [evc L I y.1 y.2 df false] none false))[id]? = some (.arr [evc L I y.1 y.2 df false] none false):=by rw[BG hS.lt]
  have e2:((S.set id (.arr [evc L I y.1 y.2 df false] none false)).set r (.arr [res] none false))[id]? = some (.arr [evc L I y.1 y.2 df false] none false):=JQ e1 (Ne.symm nr');have st:=fun B=>Vn e2 6 2 (.agg (d2 a c)) (by show 8≤10;decide) rfl rfl B;change ∀B,yV 6 ((S.set id (.arr [evc L I y.1 y.2 df false] none false)).set r (.arr [res] none false)++B) (.mp id 0 2) (.agg (d2 a c))=some (((S.set id (.arr [evc L I y.1 y.2 df false] none false)).set r (.arr [res] none false)).set id (.arr [evc L I a c df false] none false)++B) at st;rw[zJV _ (Ne.symm nr'),JP hS.at_]at st;have hN2:((S.set id (.arr [evc L I y.1 y.2 df false] none false)).set r (.arr [res] none false)).length=N:=by rw[aP,aP,hN]
  have hN1:(S.set id (.arr [evc L I y.1 y.2 df false] none false)).length=N:=by rw[aP,hN]
  refine⟨[.arr [n.cells] none false,.arr [d2 a c] none false]++(X0++X),?_,?_⟩
  rotate_left
  ·rw[←pB,xw,ym lX (by first | (simp;done) | (simp;omega)),ym k2 (by first | (simp;done) | (simp;omega))];rfl
  generalize (S.set id (.arr [evc L I y.1 y.2 df false] none false)).set r (.arr [res] none false)=S2 at *;generalize S.set id (.arr [evc L I y.1 y.2 df false] none false)=S1 at *;generalize S.set r (.arr [res] none false)=S3 at *;refine FX.callRL ok105_ 1000 rfl rfl ?_;clear clo hS lb lz e2 e1 lX;unfold d2 evc d2 at *;unfold yC at *;simp only[pB,pX,pG]at k1 c1;((repeat((conv=>lhs;whnf);simp only[go_sem,simprocAttr,g0',i0,ev,c1,k1,st1,st,hN1,xI hN1,hN2,xI hN2,hN,xI hN,xT]));try rfl)
end
end
section
section
attribute [local irreducible] Vs.callL Vs.callRL tyi zO zl zf zR zW za zI zY zA zK zb zV zG zJ zU zn yI zm zL ze Vs.gc zH
theorem zGp {L:List Bd} {I:List Pr} (h:RC 4096 L I) (sy:Node→DV→Bool→Option DV) (sF : ∀s,Vs.WG 4096 (sy s)) (sZ : ∀s,qd (sy s)) (n:Node) (hn:n.ok) (ho:n.op=10) (hk:0<n.kids.length→wA L I ((n.kids.getD 0 nd0).ev 4096 L sy) (n.kids.getD 0 nd0)) {w:Node} (hw:qA I n.sym=some w) (kw:wA L I (sy n.sym) w) (w12:w.has (yy 12)=false):wA L I (n.ev 4096 L sy) n:=by
 intro a c df x S id hf hc h12 hx hS;rw[Node.ev_eq]at hx;unfold xb at hx
 repeat rw[hZ (by rw[ho];decide)]at hx
 have ev:=hS.rows;obtain⟨N,hN⟩ : ∃N,S.length=N:=⟨_,rfl⟩;have z:=vY;have his:yO n.op=true:=by rw[ho];rfl
 have e0:=hS.A0 n wm;have bl:wU (S++A0 id n zd).length [.mp id 0 0,.agg n.cells]=true:=by
  have:=e0.lt;simp[wU,yQ,yt,vM,kr,Node.refs]at this ⊢;omega
 obtain⟨Xw,w1,w2⟩:=zAC e0 h.okI h.len n hn his hw;have cw:=wC (by kernel_rfl) w1 (by simp) e0.low bl;obtain⟨T,hT⟩ : ∃T,T=S++(A0 id n zd++(Xw++[Obj.arr [w.cells] none false,.arr [zd] none false])):=⟨_,rfl⟩;have lw:uO 0 (Xw++[Obj.arr [w.cells] none false,.arr [zd] none false])=true:=by
  simp only[xw,yv,xZ,yG (yZ _),yG wm,w2,pD]
 have eT:ES T id (evc L I a c df false):=by
  have:=e0.flat lw;rw[pB]at this;rw[hT];exact this
 have lT:T.length=N+(Xw.length+2+1+1+1+1):=by
  rw[hT];simp[uv,hN];omega
 have pT:T[N]? = some (.arr [[.mp id 0 0]] none false):=by
  rw[hT,←hN,bZ (bF _),sQ];rfl
 have qT:T[N+(Xw.length+1+1+1+1)]? = some (.arr [w.cells] none false):=by
  rw[hT,←hN,bZ (by omega),aF]
  show (Xw++[Obj.arr [w.cells] none false,.arr [zd] none false])[Xw.length]? = _
  rw[bZ (bF _),sQ];rfl
 have rT:T[N+(Xw.length+1+1+1+1+1)]? = some (.arr [zd] none false):=by
  rw[hT,←hN,bZ (by omega),aF]
  show (Xw++[Obj.arr [w.cells] none false,.arr [zd] none false])[Xw.length+1]? = _
  rw[bZ (by omega),aF];rfl
 have lid:=hS.lt;have sT : ∀o:Obj,T.set (N+(Xw.length+1+1+1+1+1)) o=S++(A0 id n zd++(Xw++[Obj.arr [w.cells] none false,o])):=fun o=>by
  rw[hT,←hN,BY _ _ (by omega),aF]
  congr 1
  show A0 id n zd++(Xw++[Obj.arr [w.cells] none false,.arr [zd] none false]).set (Xw.length+1) o=_
  rw[BY _ _ (by omega),aF];rfl
 obtain⟨y,yf,yc,yx,yk⟩ : ∃y:DV,jN 4096 y∧(df=false→y.2=0)∧sy n.sym y df=some x∧(if n.kids.length=0 then y=(a,c) else wA L I ((n.kids.getD 0 nd0).ev 4096 L sy) (n.kids.getD 0 nd0)∧(n.kids.getD 0 nd0).ev 4096 L sy (a,c) df=some y∧(df=true→(n.kids.getD 0 nd0).has (yy 12)=false)):=by
  by_cases h0:n.kids.length=0
  ·rw[hZ (by omega)]at hx;exact⟨(a,c),hf,hc,hx,by rw[bA h0]⟩
  ·rw[bA h0]at hx;obtain⟨y,yh,hx⟩:=bN.1 hx;have hlt:0<n.kids.length:=by omega
   rw[vo _ _ _ _ _ hlt]at yh;refine⟨y,jL (by omega) sF _ _ _ _ hf yh,fun e=>?_,hx,?_⟩
   ·subst e;exact wj sZ _ _ _ (hc rfl) yh
   ·rw[hZ h0];exact⟨hk hlt,yh,fun e=>kM (h12 e) (yA hlt)⟩
 have clo:=zEb kw eT pT qT rT (by omega) (by omega) (by omega) (a':=y.1) (c':=y.2) yf yc (fun _=>w12) yx;obtain⟨X,k1,k2⟩:=UK n hn eT rT (by omega) (xB _ _) _ (by
  rw[VN,lT];intro t ht;simp only[sW,SS,or_false]at ht;omega) hf hc yk clo
 have ci:=wC (by kernel_rfl) k1 (by simp) eT.low (by
  simp[wU,yQ,yt,vM,kr,Node.refs,VN,lT];omega)
 rw[sT,hT]at ci;rw[lT]at k2;clear clo k1 w1 kw hk yk eT pT qT rT sT bl;refine⟨A0 id n (d2 x.1 x.2)++(Xw++(.arr [w.cells] none false :: .arr [d2 x.1 x.2] none false::X)),?_,?_⟩
 rotate_left
 ·simp only[xw,yv,yG (yZ _),yG (xB _ _),pD,bC];rw[kW (by omega) n (xB _ _),ym w2 (sJ _),ym k2 (by simp only[bM,bK,uv];omega)];rfl
 simp only[wQ]at *;refine FX.callRL ok55_ 1000 rfl rfl ?_;clear hT lT lw e0 hS;unfold A0 zd r3 d2 evc d2 at *;unfold yC at *;simp only[pB,pX,pG]at *;((repeat((conv=>lhs;whnf);simp only[go_sem,simprocAttr,ho,z,cw,ci,zr,ev,hN,xI hN,wF,xT]));try rfl)
theorem zGq {L:List Bd} {I:List Pr} (h:RC 4096 L I) (sy:Node→DV→Bool→Option DV) (sF : ∀s,Vs.WG 4096 (sy s)) (sZ : ∀s,qd (sy s)) (n:Node) (hn:n.ok) (ho:n.op=11) (hk:0<n.kids.length→wA L I ((n.kids.getD 0 nd0).ev 4096 L sy) (n.kids.getD 0 nd0)) {w:Node} (hw:qA I n.sym=some w) (kw:wA L I (sy n.sym) w) (w12:w.has (yy 12)=false):wA L I (n.ev 4096 L sy) n:=by
 intro a c df x S id hf hc h12 hx hS;rw[Node.ev_eq]at hx;unfold xb at hx
 repeat rw[hZ (by rw[ho];decide)]at hx
 have ev:=hS.rows;obtain⟨N,hN⟩ : ∃N,S.length=N:=⟨_,rfl⟩;have z:=vY;have his:yO n.op=true:=by rw[ho];rfl
 have e0:=hS.A0 n wm;have bl:wU (S++A0 id n zd).length [.mp id 0 0,.agg n.cells]=true:=by
  have:=e0.lt;simp[wU,yQ,yt,vM,kr,Node.refs]at this ⊢;omega
 obtain⟨Xw,w1,w2⟩:=zAC e0 h.okI h.len n hn his hw;have cw:=wC (by kernel_rfl) w1 (by simp) e0.low bl;obtain⟨T,hT⟩ : ∃T,T=S++(A0 id n zd++(Xw++[Obj.arr [w.cells] none false,.arr [zd] none false])):=⟨_,rfl⟩;have lw:uO 0 (Xw++[Obj.arr [w.cells] none false,.arr [zd] none false])=true:=by
  simp only[xw,yv,xZ,yG (yZ _),yG wm,w2,pD]
 have eT:ES T id (evc L I a c df false):=by
  have:=e0.flat lw;rw[pB]at this;rw[hT];exact this
 have lT:T.length=N+(Xw.length+2+1+1+1+1):=by
  rw[hT];simp[uv,hN];omega
 have pT:T[N]? = some (.arr [[.mp id 0 0]] none false):=by
  rw[hT,←hN,bZ (bF _),sQ];rfl
 have qT:T[N+(Xw.length+1+1+1+1)]? = some (.arr [w.cells] none false):=by
  rw[hT,←hN,bZ (by omega),aF]
  show (Xw++[Obj.arr [w.cells] none false,.arr [zd] none false])[Xw.length]? = _
  rw[bZ (bF _),sQ];rfl
 have rT:T[N+(Xw.length+1+1+1+1+1)]? = some (.arr [zd] none false):=by
  rw[hT,←hN,bZ (by omega),aF]
  show (Xw++[Obj.arr [w.cells] none false,.arr [zd] none false])[Xw.length+1]? = _
  rw[bZ (by omega),aF];rfl
 have lid:=hS.lt;have sT : ∀o:Obj,T.set (N+(Xw.length+1+1+1+1+1)) o=S++(A0 id n zd++(Xw++[Obj.arr [w.cells] none false,o])):=fun o=>by
  rw[hT,←hN,BY _ _ (by omega),aF]
  congr 1
  show A0 id n zd++(Xw++[Obj.arr [w.cells] none false,.arr [zd] none false]).set (Xw.length+1) o=_
  rw[BY _ _ (by omega),aF];rfl
 obtain⟨y,yf,yc,yx,yk⟩ : ∃y:DV,jN 4096 y∧(df=false→y.2=0)∧sy n.sym y df=some x∧(if n.kids.length=0 then y=(a,c) else wA L I ((n.kids.getD 0 nd0).ev 4096 L sy) (n.kids.getD 0 nd0)∧(n.kids.getD 0 nd0).ev 4096 L sy (a,c) df=some y∧(df=true→(n.kids.getD 0 nd0).has (yy 12)=false)):=by
  by_cases h0:n.kids.length=0
  ·rw[hZ (by omega)]at hx;exact⟨(a,c),hf,hc,hx,by rw[bA h0]⟩
  ·rw[bA h0]at hx;obtain⟨y,yh,hx⟩:=bN.1 hx;have hlt:0<n.kids.length:=by omega
   rw[vo _ _ _ _ _ hlt]at yh;refine⟨y,jL (by omega) sF _ _ _ _ hf yh,fun e=>?_,hx,?_⟩
   ·subst e;exact wj sZ _ _ _ (hc rfl) yh
   ·rw[hZ h0];exact⟨hk hlt,yh,fun e=>kM (h12 e) (yA hlt)⟩
 have clo:=zEb kw eT pT qT rT (by omega) (by omega) (by omega) (a':=y.1) (c':=y.2) yf yc (fun _=>w12) yx;obtain⟨X,k1,k2⟩:=UK n hn eT rT (by omega) (xB _ _) _ (by
  rw[VN,lT];intro t ht;simp only[sW,SS,or_false]at ht;omega) hf hc yk clo
 have ci:=wC (by kernel_rfl) k1 (by simp) eT.low (by
  simp[wU,yQ,yt,vM,kr,Node.refs,VN,lT];omega)
 rw[sT,hT]at ci;rw[lT]at k2;clear clo k1 w1 kw hk yk eT pT qT rT sT bl;refine⟨A0 id n (d2 x.1 x.2)++(Xw++(.arr [w.cells] none false :: .arr [d2 x.1 x.2] none false::X)),?_,?_⟩
 rotate_left
 ·simp only[xw,yv,yG (yZ _),yG (xB _ _),pD,bC];rw[kW (by omega) n (xB _ _),ym w2 (sJ _),ym k2 (by simp only[bM,bK,uv];omega)];rfl
 simp only[wQ]at *;refine FX.callRL ok55_ 1000 rfl rfl ?_;clear hT lT lw e0 hS;unfold A0 zd r3 d2 evc d2 at *;unfold yC at *;simp only[pB,pX,pG]at *;((repeat((conv=>lhs;whnf);simp only[go_sem,simprocAttr,ho,z,cw,ci,zr,ev,hN,xI hN,wF,xT]));try rfl)
end
theorem zTu : ∀n:Node,zu n.op=1→∀b c,n.formed true b c=true→n.has (yy 12)=false:=by
 refine Node.ind' fun n ih hs b c hf=>?_;have ho:=ZG hs;rw[Node.formed_eq]at hf;simp only[bO,pA]at hf;obtain⟨_,h2,h3,h4,_⟩:=hf;have kids:=jz _ _ _ _ _ h4 h3 (jq ho _);have e12:n.op≠12:=fun e=>by
  unfold vF at h2;rw[e]at h2;simp at h2
 rw[Node.has_eq,Node.hass_any,PU,List.any_eq_false];refine⟨by simp[yy,e12],fun k hk=>?_⟩;obtain⟨k1,k2⟩:=kids k hk;simp only[pI]at k2;rw[ih k hk k1 _ _ k2];simp
theorem zSU {n:Node} (ho:n.op=12) {a b c:Bool} (hf:n.formed a b c=true) (h0:0<n.kids.length):(n.kids.getD 0 nd0).has (yy 12)=false:=by
 rw[Node.formed_eq]at hf;simp only[bO,pA]at hf;obtain⟨_,_,h3,h4,_⟩:=hf;obtain⟨k1,k2⟩:=jz _ _ _ _ _ h4 h3 (jq (by omega) _) _ (yA h0);rw[ho]at k2;simp only[decide_true,sM]at k2;exact zTu _ k1 _ _ k2
theorem JR {L:List Bd} {I:List Pr} (h:RC 4096 L I) (sy:Node→DV→Bool→Option DV) (sF : ∀s,Vs.WG 4096 (sy s)) (sZ : ∀s,qd (sy s)) : ∀n:Node,n.ok→zu n.op=1→(∃a b c,n.formed a b c=true)→(∀s∈n.syms,∃w,qA I s=some w∧wA L I (sy s) w∧w.has (yy 12)=false)→wA L I (n.ev 4096 L sy) n:=by
 refine Node.ind' fun n ih hn hs hf hsy=>?_;obtain⟨a,b,c,hf⟩:=hf;have tm:=zHe hs hf;have kid : ∀i,i<n.kids.length→wA L I ((n.kids.getD i nd0).ev 4096 L sy) (n.kids.getD i nd0):=by
  intro i hi;have hm:=yA hi;obtain⟨k1,k2⟩:=tm.kids _ hm;exact ih _ hm (hn.kids _ hm) k1 k2 fun s h=>hsy s (zE7 hm h)
 obtain⟨o1,o2⟩:=tm.op
 rcases Int.lt_or_le n.op 4 with c4 | c4
 ·by_cases e1:n.op=1
  ·exact zLm h sy n hn e1 (tm.num e1)
  by_cases e2:n.op=2
  ·exact zLo h sy n hn e2 (tm.nm (.inl e2))
  have e3:n.op=3:=by omega
  exact zGo h sy n hn e3 (tm.nm (.inr e3))
 by_cases e4:n.op=4
 ·have l:=tm.one (.inl e4);exact zLp h sy sF sZ n hn e4 (by omega) (kid 0 (by omega))
 by_cases e12:n.op=12
 ·have l:=tm.one (.inr e12);exact zJT h sy sF sZ n hn e12 (by omega) (kid 0 (by omega)) (zSU e12 hf (by omega))
 by_cases e13:n.op=13
 ·exact zLn h sy n hn e13
 by_cases e10:n.op=10
 ·obtain⟨w,hw,kw,k12⟩:=hsy _ (XV (by rw[e10];rfl));exact zGp h sy sF sZ n hn e10 (kid 0) hw kw k12
 by_cases e11:n.op=11
 ·obtain⟨w,hw,kw,k12⟩:=hsy _ (XV (by rw[e11];rfl));exact zGq h sy sF sZ n hn e11 (kid 0) hw kw k12
 have l:=tm.two (by omega);have k0:=kid 0 (by omega);have k1:=kid 1 (by omega);by_cases e5:n.op=5
 ·exact zLq h sy sF sZ n hn e5 (by omega) k0 (by omega) k1
 by_cases e6:n.op=6
 ·exact zLr h sy sF sZ n hn e6 (by omega) k0 (by omega) k1
 by_cases e7:n.op=7
 ·exact zLs h sy sF sZ n hn e7 (by omega) k0 (by omega) k1
 by_cases e8:n.op=8
 ·obtain⟨d1,d2⟩:=tm.div e8;exact zLt h sy sF sZ n hn e8 (by omega) k0 (by omega) d1 d2
 have e9:n.op=9:=by omega
 exact zLu h sy sF sZ n hn e9 (by omega) k0 (by omega) (tm.pow hn e9)
end
theorem UL : ∀(l:List Node) (s:List Int) (a b c:Bool),Node.formeds l s a b c=true→l.length=s.length→∀k∈l,zu k.op∈s∧k.formed a b c=true
 | [],s,a,b,c,_,_=>by simp
 | n::r,[],a,b,c,h,hl=>by simp at hl
 | n::r,d::s,a,b,c,h,hl=>by
  simp only[Node.formeds,bO,pA,BR,List.tail_cons]at h;obtain⟨h1,h2,h3⟩:=h;intro k hk
  rcases sW.1 hk with rfl | hk
  ·exact⟨by rw[h1];simp,h2⟩
  ·have:=UL r s a b c h3 (by simpa using hl) k hk;exact⟨List.mem_cons_of_mem _ this.1,this.2⟩
theorem zPS {n:Node} (h:yO n.op=true):n.sym.op=n.op:=by
 unfold Node.sym;rw[bA h];rfl
theorem zAE : ∀ {l:List Node} {s:Node},s∈Node.symss l→∃k∈l,s∈k.syms
 | [],s,h=>by cases h
 | n::r,s,h=>by
  have h':s∈n.syms++Node.symss r:=h
  rcases sB.1 h' with h' | h'
  ·exact⟨n,by simp,h'⟩
  ·obtain⟨k,k1,k2⟩:=zAE h';exact⟨k,by simp[k1],k2⟩
structure Fm (n:Node):Prop where
 op:(1≤n.op∧n.op≤13)∨(20≤n.op∧n.op≤32)∨n.op=37∨n.op=38
 kids : ∀k∈n.kids,(zu k.op=1∨zu k.op=2)∧∃a b c,k.formed a b c=true
 leaf:n.op=11∨n.op=38→n.kids.length=0
theorem zEc {o:Int} (h:zu o=2):20≤o∧o≤39:=by
 unfold zu at h;by_cases h1:20≤o∧o≤39
 ·exact h1
 ·repeat' split at h
  all_goals omega
theorem zSV {n:Node} (hs:zu n.op=1∨zu n.op=2) {a b c:Bool} (h:n.formed a b c=true) (hm:n.has ye=false):Fm n:=by
 have ho:(1≤n.op∧n.op≤13)∨(20≤n.op∧n.op≤32)∨n.op=37∨n.op=38:=by
  rcases hs with e | e
  ·exact .inl (ZG e)
  ·have:=zEc e;rw[Node.has_eq,PU]at hm;have hm1:=hm.1;unfold ye at hm1;simp only[PU,decide_eq_false_iff_not]at hm1;omega
 rw[Node.formed_eq]at h;simp only[bO,pA]at h;obtain⟨_,_,h3,h4,_⟩:=h;have small : ∀d∈yX n.op n.kids.length,d=1∨d=2:=by
  unfold yX;by_cases c1:n.op=10∨n.op=37
  ·rw[bA c1];intro d hd;exact .inl (BU hd)
  ·rw[hZ c1,hZ (by omega)];unfold zP;have e1 : ¬(n.op=59∨n.op=60):=by omega
   have e2 : ¬(n.op=57∨n.op=58):=by omega
   have e3 : ¬(n.op=35∨n.op=36):=by omega
   simp only[e1,e2,e3,if_false];intro d hd
   repeat' split at hd
   all_goals simp at hd
   all_goals omega
 refine⟨ho,fun k hk=>?_,fun e=>?_⟩
 ·obtain⟨k1,k2⟩:=UL _ _ _ _ _ h4 h3 k hk;have:=small _ k1;exact⟨by omega,_,_,_,k2⟩
 ·rw[h3];unfold yX
  rcases e with e | e <;> rw[e] <;> rfl
theorem Fm.head {n:Node} (h:Fm n) (hs:yO n.op=true):n.head=n.sym:=by
 have ho:=h.op;by_cases c:n.op=10∨n.op=37
 ·exact (XQ c).symm
 ·have e:n.op=11∨n.op=38:=by
   unfold yO at hs;simp only[aV,pA]at hs;omega
  rw[qR (by omega)];unfold Node.head;rw[hZ (by rw[h.leaf e];simp)]
theorem zEd (I:List Pr) (s:Node):(qA I s).isNone = !known I s:=by
 induction I with
 | nil=>rfl
 | cons p r ih =>
  unfold qA;have e:known (p::r) s=(decide (p.what.cmp s=0)||known r s):=rfl;rw[e];by_cases c:p.what.cmp s=0
  ·rw[bA c,bG c];rfl
  ·rw[hZ c,bH c,ih,bW]
theorem zAF (I:List Pr) : ∀n:Node,(zu n.op=1∨zu n.op=2)→(∃a b c,n.formed a b c=true)→n.has ye=false→n.unk I=(n.has (yy 13) || !n.syms.all (known I)):=by
 refine Node.ind' fun n ih hs hf hm=>?_;obtain⟨a,b,c,hf⟩:=hf;have fm:=zSV hs hf hm;have kids : ∀l:List Node,(∀k∈l,k∈n.kids)→Node.unks I l=(Node.hass (yy 13) l || !(Node.symss l).all (known I)):=by
  intro l
  induction l with
  | nil=>intro _;rfl
  | cons k r ihr =>
   intro hl;have h1:=hl k (by simp);obtain⟨k1,k2⟩:=fm.kids k h1;have e:=ih k h1 k1 k2 (kM hm h1)
   show (k.unk I||Node.unks I r)=((k.has (yy 13)||Node.hass (yy 13) r) || !(k.syms++Node.symss r).all (known I))
   rw[e,ihr fun x hx=>hl x (by simp[hx]),List.all_append]
   cases k.has (yy 13) <;> cases Node.hass (yy 13) r <;> cases k.syms.all (known I) <;> cases (Node.symss r).all (known I) <;> rfl
 rw[Node.unk_eq,kids _ fun k hk=>hk,Node.has_eq,Node.syms_eq,List.all_append];have e13:yy 13 n.op=decide (n.op=13):=rfl;rw[e13]
 cases es:yO n.op
 ·rw[hZ (by simp),BH,bC,bB,bW,Bool.or_assoc]
 ·rw[bA rfl,fm.head es,zEd,HP,BH,pD,bC]
  cases decide (n.op=13) <;> cases Node.hass (yy 13) n.kids <;> cases known I n.sym <;> cases (Node.symss n.kids).all (known I) <;> rfl
theorem zAG : ∀n:Node,zu n.op=1→(∃a b c,n.formed a b c=true)→∀s∈n.syms,s.op=10∨s.op=11:=by
 refine Node.ind' fun n ih hs hf s h=>?_;obtain⟨a,b,c,hf⟩:=hf;have tm:=zHe hs hf;rw[Node.syms_eq]at h
 rcases sB.1 h with h | h
 ·cases es:yO n.op
  ·rw[es,hZ (by simp)]at h;cases h
  ·rw[es,bA rfl,SU]at h;have e:=zPS es;rw[←h]at e;rw[e];have ho:=tm.op;unfold yO at es;simp only[aV,pA]at es;omega
 ·obtain⟨k,k1,k2⟩:=zAE h;obtain⟨k3,k4⟩:=tm.kids k k1;exact ih k k1 k3 k4 s k2
theorem zAH {I:List Pr} (hI : ∀p∈I,p.ok) (hg:GoodI I) {s:Node} (hk:known I s=true) : ∃w,qA I s=some w∧w.ok∧w.syms=[]∧w.has (yy 12)=false∧w.has ye=false∧(s.op=10∨s.op=11→zu w.op=1∧w.formed false false false=true)∧(s.op=37∨s.op=38→zu w.op=2∧w.formed false false false=true):=by
 obtain⟨w,h1,p,hp,rfl,hc⟩:=JG I s hk;have e:=(cmp_eq _ _).1 hc;subst e;exact⟨_,h1,(hI p hp).wth,hg.syms p hp,(hg.plain p hp).1,(hg.plain p hp).2.2,hg.term p hp,hg.form p hp⟩
theorem zEe {B:Nat} {L:List Bd} {I:List Pr} (h:RC B L I) (hg:GoodI I) (n:Node) (hn:n.ok) (hs:zu n.op=1) (hf : ∃a b c,n.formed a b c=true) (hk:n.syms.all (known I)=true):EvR B L I (val B L I n) n:=by
 refine JL h _ n hn hs hf fun s hsy=>?_;obtain⟨w,h1,h2,h3,_,_,h4,_⟩:=zAH h.okI hg (pH.1 hk s hsy);obtain⟨t1,t2⟩:=h4 (zAG n hs hf s hsy);refine⟨w,h1,?_⟩;have e:YU B L I s=w.ev B L zLT:=by unfold YU;rw[h1]
 rw[e];exact JL h zLT w h2 t1 ⟨_,_,_,t2⟩ fun s hs=>by rw[h3]at hs;cases hs
theorem zJW {L:List Bd} {I:List Pr} (h:RC 4096 L I) (hg:GoodI I) (n:Node) (hn:n.ok) (hs:zu n.op=1) (hf : ∃a b c,n.formed a b c=true) (hk:n.syms.all (known I)=true):wA L I (val 4096 L I n) n:=by
 refine JR h _ (Qw (by omega) L I) (zGb 4096 L I) n hn hs hf fun s hsy=>?_;obtain⟨w,h1,h2,h3,h12,_,h4,_⟩:=zAH h.okI hg (pH.1 hk s hsy);obtain⟨t1,t2⟩:=h4 (zAG n hs hf s hsy);refine⟨w,h1,?_,h12⟩;have e:YU 4096 L I s=w.ev 4096 L zLT:=by unfold YU;rw[h1]
 rw[e];exact JR h zLT (fun _ _ _ _ _ h=>(by cases h)) (fun _ _ _ _ h=>(by cases h)) w h2 t1 ⟨_,_,_,t2⟩ fun s hs=>by rw[h3]at hs;cases hs
section
structure Light (L:List Bd) (I:List Pr) (n:Node):Prop where
 okL:WD L
 lenL:L.length≤100
 okI : ∀p∈I,p.ok
 len:I.length≤60
 cnt : ∀p∈I,p.wth.count≤1000∧p.what.count≤1000
 okn:n.ok
 cn:n.count≤1000
def Yu:List Int:=[33,34,35,36,39]
def Yv (L:List Bd) (I:List Pr) (n:Node) (w:Int):Int :=
 if n.check w≠0 then n.check w else if YX L=false then 3 else if qE I≠0 then qE I else if n.has (xn Yu)=true then 111 else JM I n
section
attribute [local irreducible] Vs.callL Vs.callRL tyi zO zl zf zR zW za zI zY zA zK zb zV zG zJ zU zn yI zm zL ze Vs.gc zH
noncomputable def zSW:FX:=⟨Tryz.f53,zE.of 53,[]⟩
instance ok53_:zSW.ok 53:=FX.mk'
theorem zGr {L:List Bd} {I:List Pr} {n:Node} (h:Light L I n) (w:Int):callL Tryz.prog zE 53 [.agg n.cells,.int .i64 w,.sl (yW L) false,.sl (zX I) false]=some (.int .i64 (Yv L I n w)):=by
 have tc:=fun S s=>jG S n h.okn s;have sv:=fun S=>zIh S L h.okL (by have:=h.lenL;unfold maxLen;omega);have sc:=fun S=>zJG S I h.okI h.len h.cnt;have u:=ZR (S:=[.arr [n.cells] none false,.arr [[PV.int .i64 33],[.int .i64 34],[.int .i64 35],[.int .i64 36],[.int .i64 39]] (some (some 1)) false]) (id:=1) (ops:=Yu) (k:=5) (ex:=true) n h.okn (by decide) rfl rfl;have kn:=fun S=>zF (S:=S) (zGk I h.okI h.len n h.okn (by have:=h.cn;omega)) (by simp[Node.plain,zh.sl]);unfold Yv;by_cases c1:n.check w=0
 case neg =>
  rw[bA c1];apply FX.callV ok53_ 1000 rfl rfl
  ·((repeat((conv=>lhs;whnf);simp only[go_sem,simprocAttr,tc,c1]));try rfl)
  ·rfl
 rw[hZ (by simpa using c1)]
 cases c2:YX L
 case false =>
  rw[c2]at sv;rw[bA rfl];apply FX.callV ok53_ 1000 rfl rfl
  ·((repeat((conv=>lhs;whnf);simp only[go_sem,simprocAttr,tc,c1,sv]));try rfl)
  ·rfl
 rw[c2]at sv;rw[hZ (by simp)];by_cases c3:qE I=0
 case neg =>
  rw[bA c3];apply FX.callV ok53_ 1000 rfl rfl
  ·((repeat((conv=>lhs;whnf);simp only[go_sem,simprocAttr,tc,c1,sv,sc,c3]));try rfl)
  ·rfl
 rw[hZ (by simpa using c3)]
 cases c4:n.has (xn Yu)
 ·rw[c4]at u;rw[hZ (by simp)];apply FX.callV ok53_ 1000 rfl rfl
  ·((repeat((conv=>lhs;whnf);simp only[go_sem,simprocAttr,tc,c1,sv,sc,c3,u,kn]));try rfl)
  ·rfl
 ·rw[c4]at u;rw[bA rfl];apply FX.callV ok53_ 1000 rfl rfl
  ·((repeat((conv=>lhs;whnf);simp only[go_sem,simprocAttr,tc,c1,sv,sc,c3,u]));try rfl)
  ·rfl
theorem zHk (S:zB) {L:List Bd} {I:List Pr} {n:Node} (h:Light L I n) (w:Int):zO (callL Tryz.prog zE) S 53 [.agg n.cells,.int .i64 w,.sl (yW L) false,.sl (zX I) false]=some {v:=.int .i64 (Yv L I n w)} := zF (zGr h w) (by simp[Node.plain,zh.int,zh.sl,Z9])
def zEf (c:List PV) (e:Int):PV:=.tup [.agg c,.int .i64 e]
noncomputable def zSX:FX:=⟨Tryz.f14,zE.of 14,[]⟩
instance ok14_:zSX.ok 14:=FX.mk'
theorem Yw {L:List Bd} {I:List Pr} {n:Node} (h:Light L I n) (hr:Yv L I n 1≠0):callL Tryz.prog zE 14 [.agg n.cells,.sl (yW L) false,.sl (zX I) false]=some (zEf rvE.cells (Yv L I n 1)):=by
 have rd:=fun S=>zHk S h 1;apply FX.callV ok14_ 1000 rfl rfl
 ·((repeat((conv=>lhs;whnf);simp only[go_sem,simprocAttr,rd,hr]));try rfl)
 ·rfl
theorem Jy {L:List Bd} {I:List Pr} {n:Node} (h:Light L I n) (hr:Yv L I n 1=0) {g:DV→Bool→Option DV} (k:wA L I g n) {x:DV} (hx:g (0,0) false=some x) (hf:jN 4096 x):callL Tryz.prog zE 14 [.agg n.cells,.sl (yW L) false,.sl (zX I) false]=some (zEf (r3 x.1) 0):=by
 have rd:=fun S=>zHk S h 1;rw[hr]at rd;have z:=vY;have fi:=fun S=>zBz S x.1;rw[vl.2 hf.1]at fi;have z0:=uh (B:=4096) (by omega);have lw:uO 3 [.arr [n.cells] none false,.arr [[.bool false,.sl [] true,.sl [] true]] none false,.arr [evc L I 0 0 false false] none false]=true:=by
  simp only[yv,xZ,yG (yZ _),yG (JN _ _ _ _ _ _),yG (show zT [[PV.bool false,.sl [] true,.sl [] true]]=[] from rfl),pD]
 have eS:ES [.arr [n.cells] none false,.arr [[.bool false,.sl [] true,.sl [] true]] none false,.arr [evc L I 0 0 false false] none false] 2 (evc L I 0 0 false false):=⟨rfl,lw⟩;obtain⟨X,c0,l0⟩:=k.m ⟨z0,z0⟩ (fun _=>rfl) (fun e=>by cases e) hx eS;clear eS lw;simp only[wQ]at *;apply FX.callV ok14_ 1000 rfl rfl
 ·unfold d2 evc d2 at *;unfold yC at *;simp only[pB,pX,pG]at c0;((repeat((conv=>lhs;whnf);simp only[go_sem,simprocAttr,rd,z,c0,fi,wF,xT]));try rfl)
 ·rfl
end
end
section
theorem Light.big {L:List Bd} {I:List Pr} {n:Node} (h:Light L I n):n.count≤1000000000:=by have:=h.cn;omega
theorem Light.llen {L:List Bd} {I:List Pr} {n:Node} (h:Light L I n):L.length≤maxLen:=by have:=h.lenL;unfold maxLen;omega
def Zh (L:List Bd) (I:List Pr) (n:Node) (w:Int):Int :=
 if n.check w≠0 then n.check w else if YX L=false then 3 else if qF I≠0 then 3 else if n.unk I=true then 110 else 0
theorem zSY {B:Nat} (h:1≤B):uu B (0,0)=dc 0 0 B false:=bA (by rw[vl.2 (uh h)];rfl)
theorem zz {B:Nat} (h:1≤B):jN B (0,0):=⟨uh h,uh h⟩
section
attribute [local irreducible] Vs.callL Vs.callRL tyi zO zl zf zR zW za zI zY zA zK zb zV zG zJ zU zn yI zm zL ze Vs.gc zH
noncomputable def zSZ:FX:=⟨Tryz.f15,zE.of 15,[]⟩
instance ok15_:zSZ.ok 15:=FX.mk'
theorem YV {L:List Bd} {I:List Pr} {n:Node} (h:Light L I n) (hr:Zh L I n 1≠0):callL Tryz.prog zE 15 [.agg n.cells,.sl (yW L) false,.sl (zX I) false]=some (zEf rvE.cells (Zh L I n 1)):=by
 have tc:=fun S=>jy S n h.okn h.big 1;have sv:=fun S=>XN S L h.okL h.llen;have sc:=fun S=>VE S I h.okI h.len h.cnt;have un:=fun S=>XT S I h.okI h.len n h.okn;unfold Zh at *;by_cases c1:n.check 1=0
 case neg =>
  rw[bA c1];apply FX.callV ok15_ 1000 rfl rfl
  ·((repeat((conv=>lhs;whnf);simp only[go_sem,simprocAttr,tc,c1]));try rfl)
  ·rfl
 rw[hZ (by simpa using c1)]at hr ⊢
 cases c2:YX L
 case false =>
  rw[c2]at sv;rw[bA rfl];apply FX.callV ok15_ 1000 rfl rfl
  ·((repeat((conv=>lhs;whnf);simp only[go_sem,simprocAttr,tc,c1,sv]));try rfl)
  ·rfl
 rw[c2]at sv hr;rw[hZ (by simp)]at hr ⊢;by_cases c3:qF I=0
 case neg =>
  rw[bA c3];apply FX.callV ok15_ 1000 rfl rfl
  ·((repeat((conv=>lhs;whnf);simp only[go_sem,simprocAttr,tc,c1,sv,sc,c3]));try rfl)
  ·rfl
 rw[hZ (by simpa using c3)]at hr ⊢
 cases c4:n.unk I
 ·rw[c4,hZ (by simp)]at hr;exact absurd rfl hr
 ·rw[c4]at un;rw[bA rfl];apply FX.callV ok15_ 1000 rfl rfl
  ·((repeat((conv=>lhs;whnf);simp only[go_sem,simprocAttr,tc,c1,sv,sc,c3,un]));try rfl)
  ·rfl
theorem XW {L:List Bd} {I:List Pr} {n:Node} {w:Int} (h:Zh L I n w=0):n.check w=0∧YX L=true∧qF I=0∧n.unk I=false:=by
 unfold Zh at h;by_cases c1:n.check w=0
 case neg=>rw[bA c1]at h;exact absurd h c1
 rw[hZ (by simpa using c1)]at h
 cases c2:YX L
 ·rw[c2,bA rfl]at h;cases h
 rw[c2,hZ (by simp)]at h;by_cases c3:qF I=0
 case neg=>rw[bA c3]at h;cases h
 rw[hZ (by simpa using c3)]at h
 cases c4:n.unk I
 ·exact⟨c1,rfl,c3,rfl⟩
 ·rw[c4,bA rfl]at h;cases h
theorem JS {L:List Bd} {I:List Pr} {n:Node} (h:Light L I n) (hr:Zh L I n 1=0) {g:DV→Bool→Option DV} (k:EvR 4096 L I g n) {x:DV} (hx:g (0,0) false=some x):callL Tryz.prog zE 15 [.agg n.cells,.sl (yW L) false,.sl (zX I) false]=some (zEf (r3 x.1) 0):=by
 obtain⟨c1,c2,c3,c4⟩:=XW hr;have tc:=fun S=>jy S n h.okn h.big 1;have sv:=fun S=>XN S L h.okL h.llen;have sc:=fun S=>VE S I h.okI h.len h.cnt;have un:=fun S=>XT S I h.okI h.len n h.okn;rw[c2]at sv;rw[c4]at un;have rz:=VJ;have z0:=zz (B:=4096) (by omega);have pl:=fun S=>jr S 0 4096 (z0.1.dec.mono (by omega));rw[zSY (by omega)]at pl;obtain⟨v,d,b,f,e,his⟩:=k.o false z0;rw[hx]at his;obtain⟨rfl,rfl,rfl,rfl,fx⟩:=his;have to:=fun S=>zGc S x.1 (fx.1.dec.mono (by omega));rw[show ((4096:Nat):Int)=4096 from rfl]at pl e;unfold zEf;apply FX.callV ok15_ 1000 rfl rfl
 ·unfold xU kS at *;unfold dc at *;unfold rrV rrL zs yN at *;((repeat((conv=>lhs;whnf);simp only[go_sem,simprocAttr,tc,c1,sv,sc,c3,un,rz,pl,e,to]));try rfl)
 ·rfl
noncomputable def zS0:FX:=⟨Tryz.f13,zE.of 13,[]⟩
instance ok13_:zS0.ok 13:=FX.mk'
theorem JT {L:List Bd} {I:List Pr} {n:Node} (h:Light L I n) (hs:zu n.op=1) (hr:Zh L I n 1≠0):callL Tryz.prog zE 13 [.agg n.cells,.sl (yW L) false,.sl (zX I) false]=some (.bool false):=by
 have so:=fun S=>yS S n.op;rw[hs]at so;have tc:=fun S=>jy S n h.okn h.big 1;have sv:=fun S=>XN S L h.okL h.llen;have sc:=fun S=>VE S I h.okI h.len h.cnt;have un:=fun S=>XT S I h.okI h.len n h.okn;unfold Zh at *;by_cases c1:n.check 1=0
 case neg =>
  apply FX.callB2 ok13_ 1000 rfl rfl;((repeat((conv=>lhs;whnf);simp only[go_sem,simprocAttr,so,tc,c1]));try rfl)
 rw[hZ (by simpa using c1)]at hr
 cases c2:YX L
 case false =>
  rw[c2]at sv;apply FX.callB2 ok13_ 1000 rfl rfl;((repeat((conv=>lhs;whnf);simp only[go_sem,simprocAttr,so,tc,c1,sv]));try rfl)
 rw[c2]at sv hr;rw[hZ (by simp)]at hr;by_cases c3:qF I=0
 case neg =>
  apply FX.callB2 ok13_ 1000 rfl rfl;((repeat((conv=>lhs;whnf);simp only[go_sem,simprocAttr,so,tc,c1,sv,sc,c3]));try rfl)
 rw[hZ (by simpa using c3)]at hr
 cases c4:n.unk I
 ·rw[c4,hZ (by simp)]at hr;exact absurd rfl hr
 ·rw[c4]at un;apply FX.callB2 ok13_ 1000 rfl rfl;((repeat((conv=>lhs;whnf);simp only[go_sem,simprocAttr,so,tc,c1,sv,sc,c3,un]));try rfl)
theorem zCA {L:List Bd} {I:List Pr} {n:Node} (h:Light L I n) (hs:zu n.op=1) (hr:Zh L I n 1=0) (hm:n.has ye=false) {g:DV→Bool→Option DV} (k:EvR 200 L I g n):callL Tryz.prog zE 13 [.agg n.cells,.sl (yW L) false,.sl (zX I) false]=some (.bool (g (0,0) false).isNone):=by
 obtain⟨c1,c2,c3,c4⟩:=XW hr;have so:=fun S=>yS S n.op;rw[hs]at so;have tc:=fun S=>jy S n h.okn h.big 1;have sv:=fun S=>XN S L h.okL h.llen;have sc:=fun S=>VE S I h.okI h.len h.cnt;have un:=fun S=>XT S I h.okI h.len n h.okn;have mo:=fun S=>Wx S n h.okn;rw[c2]at sv;rw[c4]at un;rw[hm]at mo;have rz:=VJ;have z0:=zz (B:=200) (by omega);have pl:=fun S=>jr S 0 200 (z0.1.dec.mono (by omega));rw[zSY (by omega)]at pl;obtain⟨v,d,b,f,e,his⟩:=k.o false z0;have ef:f=(g (0,0) false).isNone:=by
  cases hx:g (0,0) false with
  | none=>rw[hx]at his;exact his
  | some x=>rw[hx]at his;exact his.2.2.2.1
 rw[←ef];rw[show ((200:Nat):Int)=200 from rfl]at pl e;apply FX.callB2 ok13_ 1000 rfl rfl;unfold dc at *;unfold rrV rrL zs yN at *;((repeat((conv=>lhs;whnf);simp only[go_sem,simprocAttr,so,tc,c1,sv,sc,c3,un,mo,rz,pl,e]));try rfl)
end
end
section
theorem zJX (n:Node):n.has (xn Yu)=n.has ye:=by
 congr 1
 funext o
 simp[xn,Yu,ye,Bool.or_assoc]
theorem zGs {I:List Pr} {n:Node} (hs:zu n.op=1∨zu n.op=2) (hf : ∃a b c,n.formed a b c=true) (hm:n.has ye=false):JM I n=if n.unk I=true then 110 else 0:=by
 unfold JM;rw[zAF I n hs hf hm,zH6]
 cases n.has (yy 13) <;> cases n.syms.all (known I) <;> rfl
theorem zCB {I:List Pr} (h:qE I≠0):qE I=3:=by
 unfold qE at *
 split at h
 ·exact absurd rfl h
 ·rename_i c;rw[hZ c]
theorem qf (L:List Bd) (I:List Pr) (n:Node):Yv L I n 1=Zh L I n 1:=by
 unfold Yv Zh;by_cases c1:n.check 1=0
 case neg=>rw[bA c1,bA c1]
 have e1 : ¬(n.check 1≠0):=by simpa using c1
 rw[hZ e1,hZ e1];obtain⟨_,f1,f2⟩:=ji c1;have hm:=YJ n _ _ _ f2 f1;rw[zGs (.inl f1) ⟨_,_,_,f2⟩ hm,zJX,hm,←zEV];by_cases c3:qE I=0
 ·rw[c3];simp
 ·rw[zCB c3];simp
section
attribute [local irreducible] Vs.callL Vs.callRL tyi zO zl zf zR zW za zI zY zA zK zb zV zG zJ zU zn yI zm zL ze Vs.gc zH
noncomputable def zTv:FX:=⟨Tryz.f4,zE.of 4,[]⟩
instance ok4_:zTv.ok 4:=FX.mk'
theorem Yx {L:List Bd} {I:List Pr} {n:Node} (hl:callL Tryz.prog zE 9 [.sl (yW L) false,.sl (zX I) false,.agg n.cells]=some (.bool true)) (hg:(zu n.op=1∧callL Tryz.prog zE 13 [.agg n.cells,.sl (yW L) false,.sl (zX I) false]=some (.bool false))∨zu n.op≠1) (v:RV) (e:Int) (h1:v.num.length≤3000000) (h2:v.den.length≤3000000) (hP:callL Tryz.prog zE 14 [.agg n.cells,.sl (yW L) false,.sl (zX I) false]=some (zEf v.cells e)) (hR:callL Tryz.prog zE 15 [.agg n.cells,.sl (yW L) false,.sl (zX I) false]=some (zEf v.cells e)):callL Tryz.prog zE 4 [.agg n.cells,.sl (yW L) false,.sl (zX I) false]=some (.bool true):=by
 have aw:=zBm;have lo:=fun S=>zF (S:=S) hl (by simp[Node.plain,zh.sl]);have pv:=fun S=>zF (S:=S) hP (by simp[Node.plain,zh.sl]);have rv:=fun S=>zF (S:=S) hR (by simp[Node.plain,zh.sl]);have sr:=fun S=>zF (S:=S) (zBk v v h1 h2) (by simp[jA]);rw[zEW]at sr;have so:=fun S=>yS S n.op;unfold zEf RV.cells at *
 rcases hg with⟨hs,hg⟩ | hs
 ·have lg:=fun S=>zF (S:=S) hg (by simp[Node.plain,zh.sl]);rw[hs]at so;apply FX.callB2 ok4_ 1000 rfl rfl;((repeat((conv=>lhs;whnf);simp only[go_sem,simprocAttr,aw,lo,so,lg,pv,rv,sr]));try rfl)
 ·apply FX.callB2 ok4_ 1000 rfl rfl;((repeat((conv=>lhs;whnf);simp only[go_sem,simprocAttr,aw,lo,so,hs,pv,rv,sr]));try rfl)
theorem zGt {L:List Bd} {I:List Pr} {n:Node} (hl:callL Tryz.prog zE 9 [.sl (yW L) false,.sl (zX I) false,.agg n.cells]=some (.bool true)) (hs:zu n.op=1) (hg:callL Tryz.prog zE 13 [.agg n.cells,.sl (yW L) false,.sl (zX I) false]=some (.bool true)):callL Tryz.prog zE 4 [.agg n.cells,.sl (yW L) false,.sl (zX I) false]=some (.bool true):=by
 have aw:=zBm;have lo:=fun S=>zF (S:=S) hl (by simp[Node.plain,zh.sl]);have so:=fun S=>yS S n.op;have lg:=fun S=>zF (S:=S) hg (by simp[Node.plain,zh.sl]);rw[hs]at so;apply FX.callB2 ok4_ 1000 rfl rfl;((repeat((conv=>lhs;whnf);simp only[go_sem,simprocAttr,aw,lo,so,lg]));try rfl)
theorem zCC {L:List Bd} {I:List Pr} {n:Node} (hl:callL Tryz.prog zE 9 [.sl (yW L) false,.sl (zX I) false,.agg n.cells]=some (.bool false)):callL Tryz.prog zE 4 [.agg n.cells,.sl (yW L) false,.sl (zX I) false]=some (.bool true):=by
 have aw:=zBm;have lo:=fun S=>zF (S:=S) hl (by simp[Node.plain,zh.sl]);apply FX.callB2 ok4_ 1000 rfl rfl;((repeat((conv=>lhs;whnf);simp only[go_sem,simprocAttr,aw,lo]));try rfl)
end
theorem zNu {B:Nat} {L:List Bd} {I:List Pr} {n:Node} (h:Light L I n) (h1:1≤B) (h2:B≤4096) (hv:YX L=true):RC B L I:=⟨h1,h2,h.okL,hv,h.okI,h.len⟩
theorem Vo {L:List Bd} {I:List Pr} {n:Node} (hL:WD L) (hI : ∀p∈I,p.ok) (hn:n.ok) (hb : ∀p∈I,p.wth.count≤1000000000∧p.what.count≤1000000000) (hc:n.count≤1000000000):callL Tryz.prog zE 4 [.agg n.cells,.sl (yW L) false,.sl (zX I) false]=some (.bool true):=by
 have hl:callL Tryz.prog zE 9 [.sl (yW L) false,.sl (zX I) false,.agg n.cells]=some (.bool (Vj L.length I n)):=zG2 ((zOq (yW L) false).trans (by simp[yW])) I n hI hn
 cases e:Vj L.length I n
 ·rw[e]at hl;exact zCC hl
 rw[e]at hl;obtain⟨l1,l2,l3,l4⟩:=zEN hb hc e;have li:Light L I n:=⟨hL,l1,hI,l2,fun p hp=>(l4 p hp).2,hn,l3⟩;by_cases hs:zu n.op=1
 ·by_cases c:Zh L I n 1=0
  ·obtain⟨c1,c2,c3,c4⟩:=XW c;obtain⟨_,f1,f2⟩:=ji c1;have hm:=YJ n _ _ _ f2 f1;have hg:=zLa c3;have hk:n.syms.all (known I)=true:=by
    have:=zAF I n (.inl f1) ⟨_,_,_,f2⟩ hm;rw[c4]at this
    cases hx:n.syms.all (known I)
    ·rw[hx]at this;simp at this
    ·rfl
   have k200:=zEe (zNu li (B:=200) (by omega) (by omega) c2) hg n hn f1 ⟨_,_,_,f2⟩ hk;have lg:=zCA li hs c hm k200
   cases hx:val 200 L I n (0,0) false with
   | none =>
    rw[hx]at lg;exact zGt hl hs lg
   | some x =>
    rw[hx]at lg;have hx':=zLU (show 200≤4096 by omega) hx;have rc:=zNu li (B:=4096) (by omega) (by omega) c2;have fx:=jL (by omega) (Qw (by omega) L I) n _ _ _ (zz (by omega)) hx';have kR:=zEe rc hg n hn f1 ⟨_,_,_,f2⟩ hk;have kP:=zJW rc hg n hn f1 ⟨_,_,_,f2⟩ hk;have vR:=JS li c kR hx';have vP:=Jy li (by rw[qf];exact c) kP hx' fx;exact Yx hl (.inl ⟨hs,lg⟩) ⟨yU x.1,words x.1.num.natAbs,words x.1.den⟩ 0 (bP fx.1.1 (by omega)) (bP fx.1.2 (by omega)) vP vR
  ·have vR:=YV li c;have vP:=Yw li (by rw[qf];exact c);rw[qf]at vP;exact Yx hl (.inl ⟨hs,JT li hs c⟩) rvE _ (by decide) (by decide) vP vR
 ·have c1:n.check 1≠0:=fun h=>hs (ji h).2.1;have c:Zh L I n 1≠0:=fun h=>c1 (XW h).1;have vR:=YV li c;have vP:=Yw li (by rw[qf];exact c);rw[qf]at vP;exact Yx hl (.inr hs) rvE _ (by decide) (by decide) vP vR
theorem UZ (pvs:List PV) (h:zAX Tryz.prog [30,35,22] pvs) (hb:ug pvs≤1048576):callL Tryz.prog zE 4 pvs=some (.bool true):=by
 obtain⟨x1,r1,k1,rfl,h1,t1⟩:=h.cons_inv;obtain⟨x2,r2,k2,rfl,h2,t2⟩:=t1.cons_inv;obtain⟨x3,r3,k3,rfl,h3,t3⟩:=t2.cons_inv;cases t3.nil_inv;obtain⟨n,hn,rfl⟩:=h1.node;obtain⟨L,_,hL,rfl⟩:=h2.state;obtain⟨I,_,hI,rfl⟩:=h3.prs;simp only[ug,pvB]at hb;have cn:=YK n;refine Vo hL hI hn (fun p hp=>?_) (by omega);have:=zE1 I p hp;omega
end
end Go.Vs

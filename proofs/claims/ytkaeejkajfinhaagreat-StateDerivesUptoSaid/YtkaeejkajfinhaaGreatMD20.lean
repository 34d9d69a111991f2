
import Derived.Test.YtkaeejkajfinhaaGreatMD17
import Derived.Test.YtkaeejkajfinhaaGreatMD19
set_option linter.unusedVariables false
set_option linter.unusedSimpArgs false
set_option maxRecDepth 100000
namespace Go.Vs
open Go Go.Proofs
section
theorem zCP (n:Node):(n.within 4000 60).1=n.small:=by
 have hw:=JQ n 4000 60 (by omega) (by omega)
 cases h:(n.within 4000 60).1
 ·have:=hw.1;rw[h]at this
  cases h2:n.small
  ·rfl
  ·exfalso
   simp only[Node.small,bP,bR]at h2;have:=this.2 (by omega);cases this
 ·have:=hw.1.1 h;simp only[Node.small];rw[bH (show n.count≤4000 by omega),bH (show n.depth≤60 by omega)];rfl
theorem J4:zX Tryz.prog 112 []=some (.agg [.bool false,.bool false,.bool false]):=by
 unfold zX;rw[Ye];dsimp only;unfold ze;rw[Ye,zL8];rfl
section
attribute [local irreducible] Vs.callL Vs.callRL tyi zO zn zg zR zY za zI zZ zA zK ze zX zG zJ zW zr yJ zq zL zf Vs.gc zH
noncomputable def zSZ:FX:=⟨Tryz.f37,zD.of 37,[]⟩
instance ok37_:zSZ.ok 37:=FX.mk'
theorem zE8 (n:Node) (hn:n.ok) (sort:Int):callL Tryz.prog zD 37 [.agg n.cells,.int .i64 sort]=some (.int .i64 (n.check sort)):=by
 obtain⟨G,hG⟩:=zEV n hn 60 4000 (by omega) (by omega) [n.cells] (yZ n) [] .nil;have hc:=wL (by kernel_rfl) hG (by simp[qL]) (VQ (yZ n) rfl .nil).closed (by simp[wj,yR,yy,jN,Node.refs,vc,jM,qL]);rw[zCP]at hc;unfold wSt st2 at hc;rw[pG]at hc;unfold Node.check;by_cases h1:sort<1
 ·rw[bA (.inl h1)];apply FX.callV ok37_ 1000 rfl rfl
  ·((repeat((conv=>lhs;whnf);simp only[go_sem,simprocAttr,h1]));try rfl)
  ·rfl
 by_cases h2:3<sort
 ·rw[bA (.inr h2)];apply FX.callV ok37_ 1000 rfl rfl
  ·((repeat((conv=>lhs;whnf);simp only[go_sem,simprocAttr,h1,h2]));try rfl)
  ·rfl
 rw[hZ (by omega)]
 cases hsm:n.small
 ·rw[hsm]at hc;rw[bA rfl];apply FX.callV ok37_ 1000 rfl rfl
  ·((repeat((conv=>lhs;whnf);simp only[go_sem,simprocAttr,h1,h2,X7,qB,hc]));try rfl)
  ·rfl
 ·rw[hsm]at hc;have hcount:n.count≤4000:=by
   simp only[Node.small,bP,bR]at hsm;exact hsm.1
  have hf:=fun S=>JX S (zE7 n hn (by omega) false false false);rw[hZ (by simp)];by_cases h3:zv n.op=sort
  ·rw[hZ (by simpa using h3)]
   cases hfm:n.formed false false false
   ·rw[hfm]at hf;rw[bA rfl];apply FX.callV ok37_ 1000 rfl rfl
    ·((repeat((conv=>lhs;whnf);simp only[go_sem,simprocAttr,h1,h2,X7,qB,hc,UD,h3,hf,J4]));try rfl)
    ·rfl
   ·rw[hfm]at hf;rw[hZ (by simp)];apply FX.callV ok37_ 1000 rfl rfl
    ·((repeat((conv=>lhs;whnf);simp only[go_sem,simprocAttr,h1,h2,X7,qB,hc,UD,h3,hf,J4]));try rfl)
    ·rfl
  ·rw[bA h3];apply FX.callV ok37_ 1000 rfl rfl
   ·((repeat((conv=>lhs;whnf);simp only[go_sem,simprocAttr,h1,h2,X7,qB,hc,UD,h3]));try rfl)
   ·rfl
theorem jX (S:zB) (n:Node) (hn:n.ok) (sort:Int):zO (callL Tryz.prog zD) S 37 [.agg n.cells,.int .i64 sort]=some {v:=.int .i64 (n.check sort)} := zF (zE8 n hn sort) (by simp[Node.plain,zh.int])
end
end
section
def Node.wellRest (n:Node) (t f:Bool):Bool := !((t&&decide (n.op=12))||((t||f)&&decide (n.op=3)))&&(if n.op=54 then qK n t f else n.wellKids t f)
theorem zJ9 (n:Node) (s:Int) (t f:Bool):n.well s t f=((decide (zv n.op=s)&&(decide (ye n.op=yQ n.name)&&(ye n.op||yd n.name)))&&((if n.op=1 then vt n.neg n.num n.den else (!n.neg&&(decide (n.num.length=0)&&decide (n.den.length=0))))&&n.wellRest t f)):=by
 rw[Node.well_eq];rfl
section
attribute [local irreducible] Vs.callL Vs.callRL tyi zO zn zg zR zY za zI zZ zA zK ze zX zG zJ zW zr yJ zq zL zf Vs.gc zH
theorem jY (n:Node) (hn:n.ok) (t f:Bool) (s:List Int) (hd : ∀d∈s,0≤d∧d≤100) (ih:YD n) (h2:n.op=8∨n.op=9→s.length=2) (h3:n.op=39→s.length=1) (hl:s.length=n.kids.length) :
  ∃S',zU 0 zIM 0 8180 1 [.blk 0,.seq 0 1023] [(2,.bool t),(3,.bool f),(4,.mp 0 0 0),(9,.str (uM s)),(10,.int .i64 0)] [.arr [n.cells] none false]=some (.bool (Node.wells n.kids s (t||decide (n.op=12)) (f||decide (n.op=39))&&xM n.op n.kids),S') :=
 zJ8 n hn t f s hl hd ih (fun h=>by rw[←hl];exact h2 h) (fun h=>by rw[←hl];exact h3 h) n.kids.length 0 (by omega)
theorem zGx (n:Node) (hn:n.ok) (s:Int) (t f:Bool) (ih:YD n) (hs:zv n.op=s) (hneg:n.neg=false) (hnum : ¬ 0<(n.num.length:Int)) (hden : ¬ 0<(n.den.length:Int)) (hh:ye n.op=true) (hm:yQ n.name=true) (h1 : ¬n.op=1) (h3 : ¬n.op=3) (h12 : ¬n.op=12) (h54 : ¬n.op=54) (h10 : ¬n.op=10) (h37 : ¬n.op=37):callL Tryz.prog zD 87 [.agg n.cells,.int .i64 s,.bool t,.bool f]=some (.bool (n.wellRest t f)):=by
 have e:n.wellRest t f=(decide ((zP n.op).length=n.kids.length)&&(Node.wells n.kids (zP n.op) (t||decide (n.op=12)) (f||decide (n.op=39))&&xM n.op n.kids)):=by
  have es:yl n.op n.kids.length=zP n.op:=by simp[yl,h10,h37]
  simp only[Node.wellRest,Node.wellKids,es,hZ h54,h12,h3,decide_false,bQ,sX,bK,bC]
 rw[e];clear e;by_cases hl:(zP n.op).length=n.kids.length
 ·have hq:((zP n.op).length:Int)=(n.kids.length:Int):=by omega
  obtain⟨S',k⟩:=jY n hn t f (zP n.op) (XI _) ih (fun ho=>by rcases ho with ho | ho <;> rw[ho] <;> rfl) (fun ho=>by rw[ho];rfl) hl;rw[bH hl,bC];generalize (Node.wells n.kids (zP n.op) (t||decide (n.op=12)) (f||decide (n.op=39))&&xM n.op n.kids)=R at k ⊢
  cases t <;> cases f <;> (apply FX.callB2 ok87_ 1000 rfl rfl;(repeat((conv=>lhs;whnf);simp only[go_sem,simprocAttr,yY,yV,yL,xj,yK,hh,hm,hs,h1,h3,h12,h54,h10,h37,hl,hq,hneg,hnum,hden]));exact k)
 ·have hq : ¬((zP n.op).length:Int)=(n.kids.length:Int):=by omega
  rw[bI hl,bB]
  cases t <;> cases f <;> (apply FX.callB2 ok87_ 1000 rfl rfl;((repeat((conv=>lhs;whnf);simp only[go_sem,simprocAttr,yY,yV,yL,xj,yK,hh,hm,hs,h1,h3,h12,h54,h10,h37,hl,hq,hneg,hnum,hden]));try rfl))
theorem zJa (n:Node) (hn:n.ok) (s:Int) (t f:Bool) (ih:YD n) (hs:zv n.op=s) (hneg:n.neg=false) (hnum : ¬ 0<(n.num.length:Int)) (hden : ¬ 0<(n.den.length:Int)) (hh:ye n.op=false) (hm:yQ n.name=false) (hq0:yd n.name=true) (h1 : ¬n.op=1) (h3 : ¬n.op=3) (h12 : ¬n.op=12) (h54 : ¬n.op=54) (h10 : ¬n.op=10) (h37 : ¬n.op=37):callL Tryz.prog zD 87 [.agg n.cells,.int .i64 s,.bool t,.bool f]=some (.bool (n.wellRest t f)):=by
 have e:n.wellRest t f=(decide ((zP n.op).length=n.kids.length)&&(Node.wells n.kids (zP n.op) (t||decide (n.op=12)) (f||decide (n.op=39))&&xM n.op n.kids)):=by
  have es:yl n.op n.kids.length=zP n.op:=by simp[yl,h10,h37]
  simp only[Node.wellRest,Node.wellKids,es,hZ h54,h12,h3,decide_false,bQ,sX,bK,bC]
 rw[e];clear e;unfold yd at hq0;by_cases hl:(zP n.op).length=n.kids.length
 ·have hq:((zP n.op).length:Int)=(n.kids.length:Int):=by omega
  obtain⟨S',k⟩:=jY n hn t f (zP n.op) (XI _) ih (fun ho=>by rcases ho with ho | ho <;> rw[ho] <;> rfl) (fun ho=>by rw[ho];rfl) hl;rw[bH hl,bC];generalize (Node.wells n.kids (zP n.op) (t||decide (n.op=12)) (f||decide (n.op=39))&&xM n.op n.kids)=R at k ⊢
  cases t <;> cases f <;> (apply FX.callB2 ok87_ 1000 rfl rfl;(repeat((conv=>lhs;whnf);simp only[go_sem,simprocAttr,yY,yV,yL,xj,yK,hh,hm,hq0,hs,h1,h3,h12,h54,h10,h37,hl,hq,hneg,hnum,hden]));exact k)
 ·have hq : ¬((zP n.op).length:Int)=(n.kids.length:Int):=by omega
  rw[bI hl,bB]
  cases t <;> cases f <;> (apply FX.callB2 ok87_ 1000 rfl rfl;((repeat((conv=>lhs;whnf);simp only[go_sem,simprocAttr,yY,yV,yL,xj,yK,hh,hm,hq0,hs,h1,h3,h12,h54,h10,h37,hl,hq,hneg,hnum,hden]));try rfl))
theorem zLd (n:Node) (hn:n.ok) (s:Int) (t f:Bool) (ih:YD n) (hs:zv n.op=s) (hnat:vt n.neg n.num n.den=true) (hm:yQ n.name=false) (hq0:yd n.name=true) (h:n.op=1):callL Tryz.prog zD 87 [.agg n.cells,.int .i64 s,.bool t,.bool f]=some (.bool (n.wellRest t f)):=by
 have hh:ye 1=false:=rfl;have hk:zP 1=[]:=rfl;have hso:zv 1=s:=by rw[←h];exact hs
 have es:yl n.op n.kids.length=[]:=by rw[h];simp[yl];try rfl
 have cn:=fun S=>JT S n hn;rw[hnat]at cn;unfold yd at hq0;have e:n.wellRest t f=(true&&(decide (([]:List Int).length=n.kids.length)&&(Node.wells n.kids [] (t||decide (n.op=12)) (f||decide (n.op=39))&&xM n.op n.kids))):=by
  unfold Node.wellRest Node.wellKids;rw[es,h];simp
 rw[e];clear e;have k7:=jY n hn t f [] (by simp) ih (fun ho=>by omega) (fun ho=>by omega);rw[h]at k7 ⊢;by_cases hl:([]:List Int).length=n.kids.length
 ·have hl':n.kids.length=0:=by simpa using hl.symm
  have hq:(n.kids.length:Int)=0:=by omega
  obtain⟨S',k⟩:=k7 hl;rw[bH hl,bC];clear k7;generalize (Node.wells n.kids [] (t||decide ((1:Int)=12)) (f||decide ((1:Int)=39))&&xM 1 n.kids)=R at k ⊢
  cases t <;> cases f
  ·apply FX.callB2 ok87_ 1000 rfl rfl;(repeat((conv=>lhs;whnf);simp only[go_sem,simprocAttr,yY,yV,yL,xj,yK,hm,hq0,h,hh,hk,hso,hl',hq,Int.reduceEq,bV,bL,cn]));exact k
  ·apply FX.callB2 ok87_ 1000 rfl rfl;(repeat((conv=>lhs;whnf);simp only[go_sem,simprocAttr,yY,yV,yL,xj,yK,hm,hq0,h,hh,hk,hso,hl',hq,Int.reduceEq,bV,bL,cn]));exact k
  ·apply FX.callB2 ok87_ 1000 rfl rfl;(repeat((conv=>lhs;whnf);simp only[go_sem,simprocAttr,yY,yV,yL,xj,yK,hm,hq0,h,hh,hk,hso,hl',hq,Int.reduceEq,bV,bL,cn]));exact k
  ·apply FX.callB2 ok87_ 1000 rfl rfl;(repeat((conv=>lhs;whnf);simp only[go_sem,simprocAttr,yY,yV,yL,xj,yK,hm,hq0,h,hh,hk,hso,hl',hq,Int.reduceEq,bV,bL,cn]));exact k
 ·have hr : ¬((0:Nat):Int)=(n.kids.length:Int):=by intro x;apply hl;simp only[bV,bL];omega
  have hq : ¬(0:Int)=(n.kids.length:Int):=by omega
  rw[bI hl,bB,bQ]
  cases t <;> cases f <;> (apply FX.callB2 ok87_ 1000 rfl rfl;((repeat((conv=>lhs;whnf);simp only[go_sem,simprocAttr,yY,yV,yL,xj,yK,hm,hq0,h,hh,hk,hso,hq,hr,Int.reduceEq,bV,bL,cn]));try rfl))
theorem zGy (n:Node) (hn:n.ok) (s:Int) (t f:Bool) (ih:YD n) (hs:zv n.op=s) (hneg:n.neg=false) (hnum : ¬ 0<(n.num.length:Int)) (hden : ¬ 0<(n.den.length:Int)) (hm:yQ n.name=true) (h:n.op=3):callL Tryz.prog zD 87 [.agg n.cells,.int .i64 s,.bool t,.bool f]=some (.bool (n.wellRest t f)):=by
 have hh:ye 3=true:=rfl;have hk:zP 3=[]:=rfl;have hso:zv 3=s:=by rw[←h];exact hs
 have es:yl n.op n.kids.length=[]:=by rw[h];simp[yl];try rfl
 have e:n.wellRest t f=(!(t||f)&&(decide (([]:List Int).length=n.kids.length)&&(Node.wells n.kids [] (t||decide (n.op=12)) (f||decide (n.op=39))&&xM n.op n.kids))):=by
  unfold Node.wellRest Node.wellKids;rw[es,h];simp
 rw[e];clear e;have k7:=jY n hn t f [] (by simp) ih (fun ho=>by omega) (fun ho=>by omega);rw[h]at k7 ⊢;by_cases hl:([]:List Int).length=n.kids.length
 ·have hl':n.kids.length=0:=by simpa using hl.symm
  have hq:(n.kids.length:Int)=0:=by omega
  obtain⟨S',k⟩:=k7 hl;rw[bH hl,bC];clear k7;generalize (Node.wells n.kids [] (t||decide ((3:Int)=12)) (f||decide ((3:Int)=39))&&xM 3 n.kids)=R at k ⊢
  cases t <;> cases f
  ·apply FX.callB2 ok87_ 1000 rfl rfl;(repeat((conv=>lhs;whnf);simp only[go_sem,simprocAttr,yY,yV,yL,xj,yK,hm,h,hh,hk,hso,hl',hq,Int.reduceEq,bV,bL,hneg,hnum,hden]));exact k
  ·apply FX.callB2 ok87_ 1000 rfl rfl;((repeat((conv=>lhs;whnf);simp only[go_sem,simprocAttr,yY,yV,yL,xj,yK,hm,h,hh,hk,hso,hl',hq,Int.reduceEq,bV,bL,hneg,hnum,hden]));try rfl)
  ·apply FX.callB2 ok87_ 1000 rfl rfl;((repeat((conv=>lhs;whnf);simp only[go_sem,simprocAttr,yY,yV,yL,xj,yK,hm,h,hh,hk,hso,hl',hq,Int.reduceEq,bV,bL,hneg,hnum,hden]));try rfl)
  ·apply FX.callB2 ok87_ 1000 rfl rfl;((repeat((conv=>lhs;whnf);simp only[go_sem,simprocAttr,yY,yV,yL,xj,yK,hm,h,hh,hk,hso,hl',hq,Int.reduceEq,bV,bL,hneg,hnum,hden]));try rfl)
 ·have hr : ¬((0:Nat):Int)=(n.kids.length:Int):=by intro x;apply hl;simp only[bV,bL];omega
  have hq : ¬(0:Int)=(n.kids.length:Int):=by omega
  rw[bI hl,bB,bQ]
  cases t <;> cases f <;> (apply FX.callB2 ok87_ 1000 rfl rfl;((repeat((conv=>lhs;whnf);simp only[go_sem,simprocAttr,yY,yV,yL,xj,yK,hm,h,hh,hk,hso,hq,hr,Int.reduceEq,bV,bL,hneg,hnum,hden]));try rfl))
theorem zJb (n:Node) (hn:n.ok) (s:Int) (t f:Bool) (ih:YD n) (hs:zv n.op=s) (hneg:n.neg=false) (hnum : ¬ 0<(n.num.length:Int)) (hden : ¬ 0<(n.den.length:Int)) (hm:yQ n.name=false) (hq0:yd n.name=true) (h:n.op=12):callL Tryz.prog zD 87 [.agg n.cells,.int .i64 s,.bool t,.bool f]=some (.bool (n.wellRest t f)):=by
 have hh:ye 12=false:=rfl;have hk:zP 12=[1]:=rfl;have hso:zv 12=s:=by rw[←h];exact hs
 have es:yl n.op n.kids.length=[1]:=by rw[h];simp[yl];try rfl
 unfold yd at hq0;have e:n.wellRest t f=(!t&&(decide (([1]:List Int).length=n.kids.length)&&(Node.wells n.kids [1] (t||decide (n.op=12)) (f||decide (n.op=39))&&xM n.op n.kids))):=by
  unfold Node.wellRest Node.wellKids;rw[es,h];simp
 rw[e];clear e;have k7:=jY n hn t f [1] (by simp) ih (fun ho=>by omega) (fun ho=>by omega);rw[h]at k7 ⊢;by_cases hl:([1]:List Int).length=n.kids.length
 ·have hl':n.kids.length=1:=by simpa using hl.symm
  have hq:(n.kids.length:Int)=1:=by omega
  obtain⟨S',k⟩:=k7 hl;rw[bH hl,bC];clear k7;generalize (Node.wells n.kids [1] (t||decide ((12:Int)=12)) (f||decide ((12:Int)=39))&&xM 12 n.kids)=R at k ⊢
  cases t <;> cases f
  ·apply FX.callB2 ok87_ 1000 rfl rfl;(repeat((conv=>lhs;whnf);simp only[go_sem,simprocAttr,yY,yV,yL,xj,yK,hm,hq0,h,hh,hk,hso,hl',hq,Int.reduceEq,bV,bL,hneg,hnum,hden]));exact k
  ·apply FX.callB2 ok87_ 1000 rfl rfl;(repeat((conv=>lhs;whnf);simp only[go_sem,simprocAttr,yY,yV,yL,xj,yK,hm,hq0,h,hh,hk,hso,hl',hq,Int.reduceEq,bV,bL,hneg,hnum,hden]));exact k
  ·apply FX.callB2 ok87_ 1000 rfl rfl;((repeat((conv=>lhs;whnf);simp only[go_sem,simprocAttr,yY,yV,yL,xj,yK,hm,hq0,h,hh,hk,hso,hl',hq,Int.reduceEq,bV,bL,hneg,hnum,hden]));try rfl)
  ·apply FX.callB2 ok87_ 1000 rfl rfl;((repeat((conv=>lhs;whnf);simp only[go_sem,simprocAttr,yY,yV,yL,xj,yK,hm,hq0,h,hh,hk,hso,hl',hq,Int.reduceEq,bV,bL,hneg,hnum,hden]));try rfl)
 ·have hr : ¬((1:Nat):Int)=(n.kids.length:Int):=by intro x;apply hl;simp only[bV,bL];omega
  have hq : ¬(1:Int)=(n.kids.length:Int):=by omega
  rw[bI hl,bB,bQ]
  cases t <;> cases f <;> (apply FX.callB2 ok87_ 1000 rfl rfl;((repeat((conv=>lhs;whnf);simp only[go_sem,simprocAttr,yY,yV,yL,xj,yK,hm,hq0,h,hh,hk,hso,hq,hr,Int.reduceEq,bV,bL,hneg,hnum,hden]));try rfl))
theorem zGz (n:Node) (hn:n.ok) (s:Int) (t f:Bool) (ih:YD n) (hs:zv n.op=s) (hneg:n.neg=false) (hnum : ¬ 0<(n.num.length:Int)) (hden : ¬ 0<(n.den.length:Int)) (hm:yQ n.name=false) (hq0:yd n.name=true) (h:n.op=54):callL Tryz.prog zD 87 [.agg n.cells,.int .i64 s,.bool t,.bool f]=some (.bool (n.wellRest t f)):=by
 have hh:ye 54=false:=rfl;have hso:zv 54=s:=by rw[←h];exact hs
 have e:n.wellRest t f=qK n t f:=by
  unfold Node.wellRest;rw[h];simp
 rw[e];unfold yd at hq0;have hc:=fun S=>zF (S:=S) (zGw n hn t f ih) (by simp[Node.plain,zh.bool])
 cases t <;> cases f <;> (apply FX.callB2 ok87_ 1000 rfl rfl;((repeat((conv=>lhs;whnf);simp only[go_sem,simprocAttr,yY,yV,yL,xj,yK,hm,hq0,h,hh,hso,hc,Int.reduceEq,hneg,hnum,hden]));try rfl))
theorem zCQ (n:Node) (hn:n.ok) (s:Int) (t f:Bool) (ih:YD n) (hs:zv n.op=s) (hneg:n.neg=false) (hnum : ¬ 0<(n.num.length:Int)) (hden : ¬ 0<(n.den.length:Int)) (hm:yQ n.name=true) (h:n.op=10):callL Tryz.prog zD 87 [.agg n.cells,.int .i64 s,.bool t,.bool f]=some (.bool (n.wellRest t f)):=by
 have hh:ye 10=true:=rfl;have hk:zP 10=[]:=rfl;have hso:zv 10=s:=by rw[←h];exact hs
 have e:n.wellRest t f=n.wellKids t f:=by
  unfold Node.wellRest;rw[h];simp
 rw[e];unfold Node.wellKids;by_cases h1:n.kids.length=1
 ·have h1':(n.kids.length:Int)=1:=by omega
  have es:yl n.op n.kids.length=[1]:=by rw[h];simp[yl,h1]
  obtain⟨S',k⟩:=jY n hn t f [1] (by simp) ih (fun ho=>by omega) (fun ho=>by omega) h1.symm;have hd:uM [1]=⟨#[49]⟩:=rfl;have hds:(⟨#[49]⟩:ByteArray).size=1:=rfl;rw[hd]at k;rw[es];rw[h]at k ⊢;have hl:([1]:List Int).length=n.kids.length:=h1.symm;rw[bH hl,bC];generalize (Node.wells n.kids [1] (t||decide ((10:Int)=12)) (f||decide ((10:Int)=39))&&xM 10 n.kids)=R at k ⊢
  cases t <;> cases f <;> (apply FX.callB2 ok87_ 1000 rfl rfl;(repeat((conv=>lhs;whnf);simp only[go_sem,simprocAttr,yY,yV,yL,xj,yK,hm,h,hh,hk,hso,h1,h1',hds,Int.reduceEq,hneg,hnum,hden]));exact k)
 ·have h1' : ¬(n.kids.length:Int)=1:=by omega
  have es:yl n.op n.kids.length=[]:=by rw[h];simp[yl,h1,hk]
  rw[es];by_cases h0:n.kids.length=0
  ·have h0':(n.kids.length:Int)=0:=by omega
   obtain⟨S',k⟩:=jY n hn t f [] (by simp) ih (fun ho=>by omega) (fun ho=>by omega) h0.symm;rw[h]at k ⊢;have hl:([]:List Int).length=n.kids.length:=h0.symm;rw[bH hl,bC];generalize (Node.wells n.kids [] (t||decide ((10:Int)=12)) (f||decide ((10:Int)=39))&&xM 10 n.kids)=R at k ⊢
   cases t <;> cases f <;> (apply FX.callB2 ok87_ 1000 rfl rfl;(repeat((conv=>lhs;whnf);simp only[go_sem,simprocAttr,yY,yV,yL,xj,yK,hm,h,hh,hk,hso,h0,h0',Int.reduceEq,bV,hneg,hnum,hden]));exact k)
  ·have hr : ¬((0:Nat):Int)=(n.kids.length:Int):=by omega
   have hq : ¬(0:Int)=(n.kids.length:Int):=by omega
   have hl : ¬([]:List Int).length=n.kids.length:=fun e=>h0 e.symm;rw[bI hl,bB]
   cases t <;> cases f <;> (apply FX.callB2 ok87_ 1000 rfl rfl;((repeat((conv=>lhs;whnf);simp only[go_sem,simprocAttr,yY,yV,yL,xj,yK,hm,h,hh,hk,hso,h1',hq,hr,Int.reduceEq,bV,hneg,hnum,hden]));try rfl))
theorem zCR (n:Node) (hn:n.ok) (s:Int) (t f:Bool) (ih:YD n) (hs:zv n.op=s) (hneg:n.neg=false) (hnum : ¬ 0<(n.num.length:Int)) (hden : ¬ 0<(n.den.length:Int)) (hm:yQ n.name=true) (h:n.op=37):callL Tryz.prog zD 87 [.agg n.cells,.int .i64 s,.bool t,.bool f]=some (.bool (n.wellRest t f)):=by
 have hh:ye 37=true:=rfl;have hk:zP 37=[]:=rfl;have hso:zv 37=s:=by rw[←h];exact hs
 have e:n.wellRest t f=n.wellKids t f:=by
  unfold Node.wellRest;rw[h];simp
 rw[e];unfold Node.wellKids;by_cases h1:n.kids.length=1
 ·have h1':(n.kids.length:Int)=1:=by omega
  have es:yl n.op n.kids.length=[1]:=by rw[h];simp[yl,h1]
  obtain⟨S',k⟩:=jY n hn t f [1] (by simp) ih (fun ho=>by omega) (fun ho=>by omega) h1.symm;have hd:uM [1]=⟨#[49]⟩:=rfl;have hds:(⟨#[49]⟩:ByteArray).size=1:=rfl;rw[hd]at k;rw[es];rw[h]at k ⊢;have hl:([1]:List Int).length=n.kids.length:=h1.symm;rw[bH hl,bC];generalize (Node.wells n.kids [1] (t||decide ((37:Int)=12)) (f||decide ((37:Int)=39))&&xM 37 n.kids)=R at k ⊢
  cases t <;> cases f <;> (apply FX.callB2 ok87_ 1000 rfl rfl;(repeat((conv=>lhs;whnf);simp only[go_sem,simprocAttr,yY,yV,yL,xj,yK,hm,h,hh,hk,hso,h1,h1',hds,Int.reduceEq,hneg,hnum,hden]));exact k)
 ·have h1' : ¬(n.kids.length:Int)=1:=by omega
  have es:yl n.op n.kids.length=[]:=by rw[h];simp[yl,h1,hk]
  rw[es];by_cases h0:n.kids.length=0
  ·have h0':(n.kids.length:Int)=0:=by omega
   obtain⟨S',k⟩:=jY n hn t f [] (by simp) ih (fun ho=>by omega) (fun ho=>by omega) h0.symm;rw[h]at k ⊢;have hl:([]:List Int).length=n.kids.length:=h0.symm;rw[bH hl,bC];generalize (Node.wells n.kids [] (t||decide ((37:Int)=12)) (f||decide ((37:Int)=39))&&xM 37 n.kids)=R at k ⊢
   cases t <;> cases f <;> (apply FX.callB2 ok87_ 1000 rfl rfl;(repeat((conv=>lhs;whnf);simp only[go_sem,simprocAttr,yY,yV,yL,xj,yK,hm,h,hh,hk,hso,h0,h0',Int.reduceEq,bV,hneg,hnum,hden]));exact k)
  ·have hr : ¬((0:Nat):Int)=(n.kids.length:Int):=by omega
   have hq : ¬(0:Int)=(n.kids.length:Int):=by omega
   have hl : ¬([]:List Int).length=n.kids.length:=fun e=>h0 e.symm;rw[bI hl,bB]
   cases t <;> cases f <;> (apply FX.callB2 ok87_ 1000 rfl rfl;((repeat((conv=>lhs;whnf);simp only[go_sem,simprocAttr,yY,yV,yL,xj,yK,hm,h,hh,hk,hso,h1',hq,hr,Int.reduceEq,bV,hneg,hnum,hden]));try rfl))
end
end
section
section
attribute [local irreducible] Vs.callL Vs.callRL tyi zO zn zg zR zY za zI zZ zA zK ze zX zG zJ zW zr yJ zq zL zf Vs.gc zH
theorem zJc : ∀n:Node,n.ok→∀s t f,callL Tryz.prog zD 87 [.agg n.cells,.int .i64 s,.bool t,.bool f]=some (.bool (n.well s t f)):=by
 refine Node.ind' fun n ih0 hn s t f=>?_;have ih:YD n:=fun k hk=>ih0 k hk (hn.kids k hk);rw[zJ9];by_cases hs:zv n.op=s
 case neg =>
  rw[bI hs,bB,bB];apply FX.callB2 ok87_ 1000 rfl rfl;((repeat((conv=>lhs;whnf);simp only[go_sem,simprocAttr,yY,hs]));try rfl)
 rw[bH hs,bC]
 cases hh:ye n.op
 ·cases hm:yQ n.name
  case true =>
   have e:decide (false=true)=false:=rfl;rw[e,bB,bB];apply FX.callB2 ok87_ 1000 rfl rfl;((repeat((conv=>lhs;whnf);simp only[go_sem,simprocAttr,yY,hs,yV,hh,yL,hm]));try rfl)
  have e:decide (false=false)=true:=rfl;rw[e,bC,bX]
  cases hq:yd n.name
  ·unfold yd at hq;rw[bB];apply FX.callB2 ok87_ 1000 rfl rfl;((repeat((conv=>lhs;whnf);simp only[go_sem,simprocAttr,yY,hs,yV,hh,yL,hm,hq]));try rfl)
  rw[bC];by_cases h1:n.op=1
  ·rw[bA h1]
   cases hnat:vt n.neg n.num n.den
   ·have cn:=fun S=>JT S n hn;rw[hnat]at cn;unfold yd at hq;rw[h1]at hh hs;rw[bB];apply FX.callB2 ok87_ 1000 rfl rfl;((repeat((conv=>lhs;whnf);simp only[go_sem,simprocAttr,yY,hs,yV,h1,hh,yL,hm,hq,cn,Int.reduceEq]));try rfl)
   ·rw[bC];exact zLd n hn s t f ih hs hnat hm hq h1
  rw[hZ h1];have hq':=hq;unfold yd at hq'
  cases hneg:n.neg
  ·by_cases hnum0:n.num.length=0
   ·have hnum : ¬ 0<(n.num.length:Int):=by omega
    by_cases hden0:n.den.length=0
    ·have hden : ¬ 0<(n.den.length:Int):=by omega
     rw[bH hnum0,bH hden0,bK,sH,sH,bC];have h10 : ¬n.op=10:=fun h=>by rw[h]at hh;cases hh
     have h37 : ¬n.op=37:=fun h=>by rw[h]at hh;cases hh
     have h3 : ¬n.op=3:=fun h=>by rw[h]at hh;cases hh
     by_cases h12:n.op=12
     ·exact zJb n hn s t f ih hs hneg hnum hden hm hq h12
     by_cases h54:n.op=54
     ·exact zGz n hn s t f ih hs hneg hnum hden hm hq h54
     ·exact zJa n hn s t f ih hs hneg hnum hden hh hm hq h1 h3 h12 h54 h10 h37
    ·have hden:0<(n.den.length:Int):=by omega
     rw[bH hnum0,bI hden0,bQ,bQ,bB];apply FX.callB2 ok87_ 1000 rfl rfl;((repeat((conv=>lhs;whnf);simp only[go_sem,simprocAttr,yY,hs,yV,hh,yL,hm,hq',h1,hneg,hnum,hden]));try rfl)
   ·have hnum:0<(n.num.length:Int):=by omega
    rw[bI hnum0,bB,bQ,bB];apply FX.callB2 ok87_ 1000 rfl rfl;((repeat((conv=>lhs;whnf);simp only[go_sem,simprocAttr,yY,hs,yV,hh,yL,hm,hq',h1,hneg,hnum]));try rfl)
  ·rw[bT,bB,bB];apply FX.callB2 ok87_ 1000 rfl rfl;((repeat((conv=>lhs;whnf);simp only[go_sem,simprocAttr,yY,hs,yV,hh,yL,hm,hq',h1,hneg]));try rfl)
 ·cases hm:yQ n.name
  ·have e:decide (true=false)=false:=rfl;rw[e,bB,bB];apply FX.callB2 ok87_ 1000 rfl rfl;((repeat((conv=>lhs;whnf);simp only[go_sem,simprocAttr,yY,hs,yV,hh,yL,hm]));try rfl)
  have e:decide (true=true)=true:=rfl;rw[e,bC,pI,bC];have h1 : ¬n.op=1:=fun h=>by rw[h]at hh;cases hh
  rw[hZ h1]
  cases hneg:n.neg
  ·by_cases hnum0:n.num.length=0
   ·have hnum : ¬ 0<(n.num.length:Int):=by omega
    by_cases hden0:n.den.length=0
    ·have hden : ¬ 0<(n.den.length:Int):=by omega
     rw[bH hnum0,bH hden0,bK,sH,sH,bC];have h12 : ¬n.op=12:=fun h=>by rw[h]at hh;cases hh
     have h54 : ¬n.op=54:=fun h=>by rw[h]at hh;cases hh
     by_cases h10:n.op=10
     ·exact zCQ n hn s t f ih hs hneg hnum hden hm h10
     by_cases h37:n.op=37
     ·exact zCR n hn s t f ih hs hneg hnum hden hm h37
     by_cases h3:n.op=3
     ·exact zGy n hn s t f ih hs hneg hnum hden hm h3
     ·exact zGx n hn s t f ih hs hneg hnum hden hh hm h1 h3 h12 h54 h10 h37
    ·have hden:0<(n.den.length:Int):=by omega
     rw[bH hnum0,bI hden0,bQ,bQ,bB];apply FX.callB2 ok87_ 1000 rfl rfl;((repeat((conv=>lhs;whnf);simp only[go_sem,simprocAttr,yY,hs,yV,hh,yL,hm,h1,hneg,hnum,hden]));try rfl)
   ·have hnum:0<(n.num.length:Int):=by omega
    rw[bI hnum0,bB,bQ,bB];apply FX.callB2 ok87_ 1000 rfl rfl;((repeat((conv=>lhs;whnf);simp only[go_sem,simprocAttr,yY,hs,yV,hh,yL,hm,h1,hneg,hnum]));try rfl)
  ·rw[bT,bB,bB];apply FX.callB2 ok87_ 1000 rfl rfl;((repeat((conv=>lhs;whnf);simp only[go_sem,simprocAttr,yY,hs,yV,hh,yL,hm,h1,hneg]));try rfl)
noncomputable def zS0:FX:=⟨Tryz.f44,zD.of 44,[]⟩
instance ok44_:zS0.ok 44:=FX.mk'
theorem zE9 (n:Node) (hn:n.ok) (sort:Int):callL Tryz.prog zD 44 [.agg n.cells,.int .i64 sort]=some (.int .i64 (n.checkRef sort)):=by
 refine FX.callL (r:=(.int .i64 (n.checkRef sort),[.arr [n.cells] none false])) ok44_ 1000 rfl rfl ?_ rfl;have hs:=fun S=>uQ S (Zx n hn);have hl:=fun S=>uQ S (zES n hn);have hw:=fun S=>VW S (zJc n hn sort false false);unfold Node.checkRef;by_cases h1:sort<1
 ·rw[bA (.inl h1)];((repeat((conv=>lhs;whnf);simp only[go_sem,simprocAttr,h1]));try rfl)
 by_cases h2:3<sort
 ·rw[bA (.inr h2)];((repeat((conv=>lhs;whnf);simp only[go_sem,simprocAttr,h1,h2]));try rfl)
 rw[hZ (by omega)];by_cases h3:4000<n.size
 ·rw[bA (.inl h3)];((repeat((conv=>lhs;whnf);simp only[go_sem,simprocAttr,h1,h2,hs,h3]));try rfl)
 by_cases h4:60<n.levels
 ·rw[bA (.inr h4)];((repeat((conv=>lhs;whnf);simp only[go_sem,simprocAttr,h1,h2,hs,h3,hl,h4]));try rfl)
 rw[hZ (by omega)];by_cases h5:zv n.op=sort
 ·rw[hZ (by simpa using h5)]
  cases hv:n.well sort false false
  ·rw[hv]at hw;rw[bA rfl];((repeat((conv=>lhs;whnf);simp only[go_sem,simprocAttr,h1,h2,hs,h3,hl,h4,yY,h5,hw]));try rfl)
  ·rw[hv]at hw;rw[hZ (by simp)];((repeat((conv=>lhs;whnf);simp only[go_sem,simprocAttr,h1,h2,hs,h3,hl,h4,yY,h5,hw]));try rfl)
 ·rw[bA h5];((repeat((conv=>lhs;whnf);simp only[go_sem,simprocAttr,h1,h2,hs,h3,hl,h4,yY,h5]));try rfl)
theorem qU (S:zB) (n:Node) (hn:n.ok) (hc:n.count≤1000000000) (sort:Int):zO (callL Tryz.prog zD) S 44 [.agg n.cells,.int .i64 sort]=some {v:=.int .i64 (n.check sort)} := by
 have h:=zE9 n hn sort;rw[zGa n hn hc]at h;exact zF h (by simp[Node.plain,zh.int])
end
end
section
mutual
def Node.has (p:Int→Bool):Node→Bool
 | .mk o _ _ _ _ f=>p o||Node.hass p f
def Node.hass (p:Int→Bool):List Node→Bool
 | []=>false
 | n::r=>n.has p||Node.hass p r
end
theorem Node.has_eq (p:Int→Bool) (n:Node):n.has p=(p n.op||Node.hass p n.kids):=by cases n;rfl
theorem Node.hass_any (p:Int→Bool) : ∀l:List Node,Node.hass p l=l.any (Node.has p)
 | []=>rfl
 | n::r=>by rw[Node.hass,Node.hass_any p r,BJ]
def yP (o:Int):Bool:=decide (o=10)||decide (o=11)||decide (o=37)||decide (o=38)||decide (o=61)||decide (o=62)||decide (o=56)
def yi (o:Int):Bool:=decide (o=33)||decide (o=34)||decide (o=35)||decide (o=36)||decide (o=39)
def ys (q o:Int):Bool:=decide (o=q)
def xw (ops:List Int) (o:Int):Bool:=ops.any fun q=>decide (o=q)
def J5:Node:=.mk 13 ⟨#[]⟩ false [] [] []
def Node.sym (n:Node):Node:=if yP n.op=true then .mk n.op n.name false [] [] (if (n.op=10∨n.op=37)∧n.kids.length≠0 then [J5] else []) else nd0
section
attribute [local irreducible] Vs.callL Vs.callRL tyi zO zn zg zR zY za zI zZ zA zK ze zX zG zJ zW zr yJ zq zL zf Vs.gc zH
noncomputable def zS1:FX:=⟨Tryz.f84,zD.of 84,[]⟩
instance ok84_:zS1.ok 84:=FX.mk'
theorem zEa (n:Node):callL Tryz.prog zD 84 [.agg n.cells]=some (.bool (yP n.op)):=by
 unfold yP;by_cases e10:n.op=10
 ·have e:(decide (n.op=10)||decide (n.op=11)||decide (n.op=37)||decide (n.op=38)||decide (n.op=61)||decide (n.op=62)||decide (n.op=56))=true:=by rw[e10];rfl
  rw[e];apply FX.callB2 ok84_ 1000 rfl rfl;((repeat((conv=>lhs;whnf);simp only[go_sem,simprocAttr,e10]));try rfl)
 by_cases e11:n.op=11
 ·have e:(decide (n.op=10)||decide (n.op=11)||decide (n.op=37)||decide (n.op=38)||decide (n.op=61)||decide (n.op=62)||decide (n.op=56))=true:=by rw[e11];rfl
  rw[e];apply FX.callB2 ok84_ 1000 rfl rfl;((repeat((conv=>lhs;whnf);simp only[go_sem,simprocAttr,e11]));try rfl)
 by_cases e37:n.op=37
 ·have e:(decide (n.op=10)||decide (n.op=11)||decide (n.op=37)||decide (n.op=38)||decide (n.op=61)||decide (n.op=62)||decide (n.op=56))=true:=by rw[e37];rfl
  rw[e];apply FX.callB2 ok84_ 1000 rfl rfl;((repeat((conv=>lhs;whnf);simp only[go_sem,simprocAttr,e37]));try rfl)
 by_cases e38:n.op=38
 ·have e:(decide (n.op=10)||decide (n.op=11)||decide (n.op=37)||decide (n.op=38)||decide (n.op=61)||decide (n.op=62)||decide (n.op=56))=true:=by rw[e38];rfl
  rw[e];apply FX.callB2 ok84_ 1000 rfl rfl;((repeat((conv=>lhs;whnf);simp only[go_sem,simprocAttr,e38]));try rfl)
 by_cases e61:n.op=61
 ·have e:(decide (n.op=10)||decide (n.op=11)||decide (n.op=37)||decide (n.op=38)||decide (n.op=61)||decide (n.op=62)||decide (n.op=56))=true:=by rw[e61];rfl
  rw[e];apply FX.callB2 ok84_ 1000 rfl rfl;((repeat((conv=>lhs;whnf);simp only[go_sem,simprocAttr,e61]));try rfl)
 by_cases e62:n.op=62
 ·have e:(decide (n.op=10)||decide (n.op=11)||decide (n.op=37)||decide (n.op=38)||decide (n.op=61)||decide (n.op=62)||decide (n.op=56))=true:=by rw[e62];rfl
  rw[e];apply FX.callB2 ok84_ 1000 rfl rfl;((repeat((conv=>lhs;whnf);simp only[go_sem,simprocAttr,e62]));try rfl)
 by_cases e56:n.op=56
 ·have e:(decide (n.op=10)||decide (n.op=11)||decide (n.op=37)||decide (n.op=38)||decide (n.op=61)||decide (n.op=62)||decide (n.op=56))=true:=by rw[e56];rfl
  rw[e];apply FX.callB2 ok84_ 1000 rfl rfl;((repeat((conv=>lhs;whnf);simp only[go_sem,simprocAttr,e56]));try rfl)
 simp only[e10,e11,e37,e38,e61,e62,e56,decide_false,sX];apply FX.callB2 ok84_ 1000 rfl rfl;((repeat((conv=>lhs;whnf);simp only[go_sem,simprocAttr,e10,e11,e37,e38,e61,e62,e56]));try rfl)
theorem vu (S:zB) (n:Node):zO (callL Tryz.prog zD) S 84 [.agg n.cells]=some {v:=.bool (yP n.op)} := uQ S (zEa n)
noncomputable def zO4:FX:=⟨Tryz.f46,zD.of 46,[]⟩
instance ok46_:zO4.ok 46:=FX.mk'
theorem zCS (n:Node) (hn:n.ok) (ih : ∀k∈n.kids,callL Tryz.prog zD 46 [.agg k.cells]=some (.bool (k.has yP))) : ∀(m i:Nat),i+m=n.kids.length →
  ∃S',zU 0 zO4 0 116 1 [.blk 0,.seq 0 15] [(1,.mp 0 0 0),(3,.int .i64 i)] [.arr [n.cells] none false]=some (.bool (Node.hass yP (n.kids.drop i)),S'):=by
 intro m
 induction m with
 | zero =>
  intro i hi;have h1 : ¬(i:Int)<(n.kids.length:Int):=by omega
  rw[bU (by omega)];apply Exists.intro;apply zC;(repeat((conv=>lhs;whnf);simp only[go_sem,simprocAttr,h1]));apply zN;unfold Node.hass;((repeat((conv=>lhs;whnf);simp only[go_sem,simprocAttr]));try rfl)
 | succ m hm =>
  intro i hi;have h1:(i:Int)<(n.kids.length:Int):=by omega
  have h2:=zi (i:=i) (n:=n.kids.length) (by omega) hn.len;have h4:0≤(i:Int)∧(i:Int)<(n.kids.length:Int):=⟨by omega,h1⟩;have h5:=fun S=>uQ S (ih _ (yA (l:=n.kids) (i:=i) (by omega)));obtain⟨S',key⟩:=hm (i+1) (by omega);have h7:Node.hass yP (n.kids.drop i)=((n.kids.getD i nd0).has yP||Node.hass yP (n.kids.drop (i+1))):=by rw[xO (l:=n.kids) (i:=i) (by omega)];rfl
  rw[h7]
  cases hd:(n.kids.getD i nd0).has yP
  case true =>
   rw[hd]at h5;rw[pI];apply Exists.intro;apply zC;((repeat((conv=>lhs;whnf);simp only[go_sem,simprocAttr,h1,h2,h4,h5]));try rfl)
  case false =>
   rw[hd]at h5;rw[bX];refine⟨S',?_⟩;apply zC;(repeat((conv=>lhs;whnf);simp only[go_sem,simprocAttr,h1,h2,h4,h5]));exact key
theorem zCT : ∀n:Node,n.ok→callL Tryz.prog zD 46 [.agg n.cells]=some (.bool (n.has yP)):=by
 refine Node.ind' fun n ih hn=>?_;obtain⟨S',h⟩:=zCS n hn (fun k hk'=>ih k hk' (hn.kids k hk')) n.kids.length 0 (by omega);rw[bY]at h;rw[Node.has_eq]
 cases e:yP n.op
 ·rw[bX];apply FX.callB2 ok46_ 1000 rfl rfl;(repeat((conv=>lhs;whnf);simp only[go_sem,simprocAttr,vu,e]));exact h
 ·rw[pI];apply FX.callB2 ok46_ 1000 rfl rfl;((repeat((conv=>lhs;whnf);simp only[go_sem,simprocAttr,vu,e]));try rfl)
theorem Xa (S:zB) (n:Node) (h:n.ok):zO (callL Tryz.prog zD) S 46 [.agg n.cells]=some {v:=.bool (n.has yP)} := uQ S (zCT n h)
noncomputable def zO5:FX:=⟨Tryz.f45,zD.of 45,[]⟩
instance ok45_:zO5.ok 45:=FX.mk'
theorem zHA (n:Node) (hn:n.ok) (ih : ∀k∈n.kids,callL Tryz.prog zD 45 [.agg k.cells]=some (.bool (k.has yi))) : ∀(m i:Nat),i+m=n.kids.length →
  ∃S',zU 0 zO5 0 116 1 [.blk 0,.seq 0 15] [(1,.mp 0 0 0),(3,.int .i64 i)] [.arr [n.cells] none false]=some (.bool (Node.hass yi (n.kids.drop i)),S'):=by
 intro m
 induction m with
 | zero =>
  intro i hi;have h1 : ¬(i:Int)<(n.kids.length:Int):=by omega
  rw[bU (by omega)];apply Exists.intro;apply zC;(repeat((conv=>lhs;whnf);simp only[go_sem,simprocAttr,h1]));apply zN;unfold Node.hass;((repeat((conv=>lhs;whnf);simp only[go_sem,simprocAttr]));try rfl)
 | succ m hm =>
  intro i hi;have h1:(i:Int)<(n.kids.length:Int):=by omega
  have h2:=zi (i:=i) (n:=n.kids.length) (by omega) hn.len;have h4:0≤(i:Int)∧(i:Int)<(n.kids.length:Int):=⟨by omega,h1⟩;have h5:=fun S=>uQ S (ih _ (yA (l:=n.kids) (i:=i) (by omega)));obtain⟨S',key⟩:=hm (i+1) (by omega);have h7:Node.hass yi (n.kids.drop i)=((n.kids.getD i nd0).has yi||Node.hass yi (n.kids.drop (i+1))):=by rw[xO (l:=n.kids) (i:=i) (by omega)];rfl
  rw[h7]
  cases hd:(n.kids.getD i nd0).has yi
  case true =>
   rw[hd]at h5;rw[pI];apply Exists.intro;apply zC;((repeat((conv=>lhs;whnf);simp only[go_sem,simprocAttr,h1,h2,h4,h5]));try rfl)
  case false =>
   rw[hd]at h5;rw[bX];refine⟨S',?_⟩;apply zC;(repeat((conv=>lhs;whnf);simp only[go_sem,simprocAttr,h1,h2,h4,h5]));exact key
theorem zHB : ∀n:Node,n.ok→callL Tryz.prog zD 45 [.agg n.cells]=some (.bool (n.has yi)):=by
 refine Node.ind' fun n ih hn=>?_;obtain⟨S',h⟩:=zHA n hn (fun k hk'=>ih k hk' (hn.kids k hk')) n.kids.length 0 (by omega);rw[bY]at h;rw[Node.has_eq];by_cases e33:n.op=33
 ·have e:yi n.op=true:=by rw[e33];rfl
  rw[e,pI];apply FX.callB2 ok45_ 1000 rfl rfl;((repeat((conv=>lhs;whnf);simp only[go_sem,simprocAttr,e33]));try rfl)
 by_cases e34:n.op=34
 ·have e:yi n.op=true:=by rw[e34];rfl
  rw[e,pI];apply FX.callB2 ok45_ 1000 rfl rfl;((repeat((conv=>lhs;whnf);simp only[go_sem,simprocAttr,e34]));try rfl)
 by_cases e35:n.op=35
 ·have e:yi n.op=true:=by rw[e35];rfl
  rw[e,pI];apply FX.callB2 ok45_ 1000 rfl rfl;((repeat((conv=>lhs;whnf);simp only[go_sem,simprocAttr,e35]));try rfl)
 by_cases e36:n.op=36
 ·have e:yi n.op=true:=by rw[e36];rfl
  rw[e,pI];apply FX.callB2 ok45_ 1000 rfl rfl;((repeat((conv=>lhs;whnf);simp only[go_sem,simprocAttr,e36]));try rfl)
 by_cases e39:n.op=39
 ·have e:yi n.op=true:=by rw[e39];rfl
  rw[e,pI];apply FX.callB2 ok45_ 1000 rfl rfl;((repeat((conv=>lhs;whnf);simp only[go_sem,simprocAttr,e39]));try rfl)
 have e:yi n.op=false:=by simp only[yi,e33,e34,e35,e36,e39,decide_false,sX]
 rw[e,bX];apply FX.callB2 ok45_ 1000 rfl rfl;(repeat((conv=>lhs;whnf);simp only[go_sem,simprocAttr,e33,e34,e35,e36,e39]));exact h
theorem VX (S:zB) (n:Node) (h:n.ok):zO (callL Tryz.prog zD) S 45 [.agg n.cells]=some {v:=.bool (n.has yi)} := uQ S (zHB n h)
noncomputable def zO6:FX:=⟨Tryz.f47,zD.of 47,[]⟩
instance ok47_:zO6.ok 47:=FX.mk'
theorem zEb (n:Node) (hn:n.ok) (q:Int) (ih : ∀k∈n.kids,callL Tryz.prog zD 47 [.agg k.cells,.int .i64 q]=some (.bool (k.has (ys q)))) : ∀(m i:Nat),i+m=n.kids.length →
  ∃S',zU 0 zO6 0 116 1 [.blk 0,.seq 0 15] [(1,.int .i64 q),(2,.mp 0 0 0),(5,.int .i64 i)] [.arr [n.cells] none false]=some (.bool (Node.hass (ys q) (n.kids.drop i)),S'):=by
 intro m
 induction m with
 | zero =>
  intro i hi;have h1 : ¬(i:Int)<(n.kids.length:Int):=by omega
  rw[bU (by omega)];apply Exists.intro;apply zC;(repeat((conv=>lhs;whnf);simp only[go_sem,simprocAttr,h1]));apply zN;unfold Node.hass;((repeat((conv=>lhs;whnf);simp only[go_sem,simprocAttr]));try rfl)
 | succ m hm =>
  intro i hi;have h1:(i:Int)<(n.kids.length:Int):=by omega
  have h2:=zi (i:=i) (n:=n.kids.length) (by omega) hn.len;have h4:0≤(i:Int)∧(i:Int)<(n.kids.length:Int):=⟨by omega,h1⟩;have h5:=fun S=>zF (S:=S) (ih _ (yA (l:=n.kids) (i:=i) (by omega))) (by simp[Node.plain,zh.int]);obtain⟨S',key⟩:=hm (i+1) (by omega);have h7:Node.hass (ys q) (n.kids.drop i)=((n.kids.getD i nd0).has (ys q)||Node.hass (ys q) (n.kids.drop (i+1))):=by rw[xO (l:=n.kids) (i:=i) (by omega)];rfl
  rw[h7]
  cases hd:(n.kids.getD i nd0).has (ys q)
  case true =>
   rw[hd]at h5;rw[pI];apply Exists.intro;apply zC;((repeat((conv=>lhs;whnf);simp only[go_sem,simprocAttr,h1,h2,h4,h5]));try rfl)
  case false =>
   rw[hd]at h5;rw[bX];refine⟨S',?_⟩;apply zC;(repeat((conv=>lhs;whnf);simp only[go_sem,simprocAttr,h1,h2,h4,h5]));exact key
theorem zEc (q:Int) : ∀n:Node,n.ok→callL Tryz.prog zD 47 [.agg n.cells,.int .i64 q]=some (.bool (n.has (ys q))):=by
 refine Node.ind' fun n ih hn=>?_;obtain⟨S',h⟩:=zEb n hn q (fun k hk'=>ih k hk' (hn.kids k hk')) n.kids.length 0 (by omega);rw[bY]at h;rw[Node.has_eq];unfold ys at *;by_cases e:n.op=q
 ·rw[bH e,pI];apply FX.callB2 ok47_ 1000 rfl rfl;((repeat((conv=>lhs;whnf);simp only[go_sem,simprocAttr,e]));try rfl)
 ·rw[bI e,bX];apply FX.callB2 ok47_ 1000 rfl rfl;(repeat((conv=>lhs;whnf);simp only[go_sem,simprocAttr,e]));exact h
theorem uR (S:zB) (q:Int) (n:Node) (h:n.ok):zO (callL Tryz.prog zD) S 47 [.agg n.cells,.int .i64 q]=some {v:=.bool (n.has (ys q))} := zF (zEc q n h) (by simp[Node.plain,zh.int])
noncomputable def zA6:FX:=⟨Tryz.f40,zD.of 40,[]⟩
instance ok40_:zA6.ok 40:=FX.mk'
theorem zHC (n:Node) (ops:List Int) (hl:ops.length≤1000) : ∀(m i:Nat),i+m=ops.length →
  (xw (ops.drop i) n.op=true→∃S',zU 0 zA6 0 52 1 [.blk 0,.seq 0 7] [(1,.sl (zE .i64 ops) false),(2,.mp 0 0 0),(9,.sl (zE .i64 ops) false),(10,.int .i64 ops.length),(11,.int .i64 i)] [.arr [n.cells] none false]=some (.bool true,S')) ∧
  (xw (ops.drop i) n.op=false→∀z,yB 0 zA6 0 [.blk 0,.seq 0 7] [(1,.sl (zE .i64 ops) false),(2,.mp 0 0 0),(9,.undef),(10,.undef),(11,.undef),(12,.undef)] [.arr [n.cells] none false]=some z →
   zU 0 zA6 0 52 1 [.blk 0,.seq 0 7] [(1,.sl (zE .i64 ops) false),(2,.mp 0 0 0),(9,.sl (zE .i64 ops) false),(10,.int .i64 ops.length),(11,.int .i64 i)] [.arr [n.cells] none false]=some z):=by
 intro m
 induction m with
 | zero =>
  intro i hi;have h1 : ¬(i:Int)<(ops.length:Int):=by omega
  rw[bU (by omega)];refine⟨fun h=>(by cases h),fun _ z hz=>?_⟩;apply zC;(repeat((conv=>lhs;whnf);simp only[go_sem,simprocAttr,h1]));exact hz
 | succ m hm =>
  intro i hi;have h1:(i:Int)<(ops.length:Int):=by omega
  have h2:=zi (i:=i) (n:=ops.length) (by omega) (by unfold maxLen;omega);have h4:0≤(i:Int)∧(i:Int)<(ops.length:Int):=⟨by omega,h1⟩;have e:ops.drop i=ops.getD i 0::ops.drop (i+1):=by
   rw[PU (by omega)];simp[bM,show i<ops.length by omega]
  obtain⟨k1,k2⟩:=hm (i+1) (by omega);rw[e];unfold xw at *;rw[BJ];by_cases c:n.op=ops.getD i 0
  ·refine⟨fun _=>?_,fun h=>by simp[c]at h⟩;apply Exists.intro;apply zC;((repeat((conv=>lhs;whnf);simp only[go_sem,simprocAttr,h1,h4,X8,bD,c]));try rfl)
  ·rw[bI c,bX];refine⟨fun h=>?_,fun h z hz=>?_⟩
   ·obtain⟨S',k⟩:=k1 h;refine⟨S',yv ok40_.good 1000 ?_⟩;(repeat((conv=>lhs;whnf);simp only[go_sem,simprocAttr,h1,h2,h4,X8,bD,c]));exact k
   ·apply zC;(repeat((conv=>lhs;whnf);simp only[go_sem,simprocAttr,h1,h2,h4,X8,bD,c]));exact k2 h z hz
theorem zJd (n:Node) (hn:n.ok) (ops:List Int) (ih : ∀k∈n.kids,callL Tryz.prog zD 40 [.agg k.cells,.sl (zE .i64 ops) false]=some (.bool (k.has (xw ops)))) : ∀(m i:Nat),i+m=n.kids.length →
  ∃S',zU 0 zA6 2 116 1 [.blk 2,.seq 0 15] [(1,.sl (zE .i64 ops) false),(21,.sl (Node.rows n.kids) false),(22,.int .i64 n.kids.length),(23,.int .i64 i)] [.arr [n.cells] none false]=some (.bool (Node.hass (xw ops) (n.kids.drop i)),S'):=by
 intro m
 induction m with
 | zero =>
  intro i hi;have h1 : ¬(i:Int)<(n.kids.length:Int):=by omega
  rw[bU (by omega)];apply Exists.intro;apply zC;(repeat((conv=>lhs;whnf);simp only[go_sem,simprocAttr,h1]));apply zN;unfold Node.hass;((repeat((conv=>lhs;whnf);simp only[go_sem,simprocAttr]));try rfl)
 | succ m hm =>
  intro i hi;have h1:(i:Int)<(n.kids.length:Int):=by omega
  have h2:=zi (i:=i) (n:=n.kids.length) (by omega) hn.len;have h4:0≤(i:Int)∧(i:Int)<(n.kids.length:Int):=⟨by omega,h1⟩;have h5:=fun S=>zF (S:=S) (ih _ (yA (l:=n.kids) (i:=i) (by omega))) (by simp[Node.plain,zh.sl]);obtain⟨S',key⟩:=hm (i+1) (by omega);have h7:Node.hass (xw ops) (n.kids.drop i)=((n.kids.getD i nd0).has (xw ops)||Node.hass (xw ops) (n.kids.drop (i+1))):=by rw[xO (l:=n.kids) (i:=i) (by omega)];rfl
  rw[h7]
  cases hd:(n.kids.getD i nd0).has (xw ops)
  case true =>
   rw[hd]at h5;rw[pI];apply Exists.intro;apply zC;((repeat((conv=>lhs;whnf);simp only[go_sem,simprocAttr,h1,h2,h4,h5]));try rfl)
  case false =>
   rw[hd]at h5;rw[bX];refine⟨S',?_⟩;apply zC;(repeat((conv=>lhs;whnf);simp only[go_sem,simprocAttr,h1,h2,h4,h5]));exact key
theorem zJe (ops:List Int) (hl:ops.length≤1000) : ∀n:Node,n.ok→callL Tryz.prog zD 40 [.agg n.cells,.sl (zE .i64 ops) false]=some (.bool (n.has (xw ops))):=by
 refine Node.ind' fun n ih hn=>?_;obtain⟨S',h⟩:=zJd n hn ops (fun k hk'=>ih k hk' (hn.kids k hk')) n.kids.length 0 (by omega);obtain⟨k1,k2⟩:=zHC n ops hl ops.length 0 (by omega);rw[bY]at h k1 k2;rw[Node.has_eq]
 cases e:xw ops n.op
 ·rw[bX];have:zU 0 zA6 0 52 1 [.blk 0,.seq 0 7] [(1,.sl (zE .i64 ops) false),(2,.mp 0 0 0),(9,.sl (zE .i64 ops) false),(10,.int .i64 ops.length),(11,.int .i64 (0:Nat))] [.arr [n.cells] none false]=some (.bool (Node.hass (xw ops) n.kids),S'):=by
   refine k2 e _ ?_;apply zN;(repeat((conv=>lhs;whnf);simp only[go_sem,simprocAttr]));exact h
  apply FX.callB2 ok40_ 1000 rfl rfl;(repeat((conv=>lhs;whnf);simp only[go_sem,simprocAttr]));exact this
 ·rw[pI];obtain⟨S2,k⟩:=k1 e;apply FX.callB2 ok40_ 1000 rfl rfl;(repeat((conv=>lhs;whnf);simp only[go_sem,simprocAttr]));exact k
end
end
section
theorem qC (a:Int):ul a a=0:=by simp[ul]
theorem Y4 {a b:Int} (h : ¬a=b):ul a b=WX (decide (a<b)):=by
 unfold ul WX;by_cases c:a<b
 ·simp[c]
 ·have:b<a:=by omega
  simp[c,this]
theorem xk (x:Int):qz 0 x=x:=by simp[qz]
theorem qm {x:Int} (h:x≠0) (y:Int):qz x y=x:=by simp[qz,h]
theorem Xb (b:Bool):WX b≠0:=by cases b <;> simp[WX]
theorem Zd (b:Bool) (y:Int):qz (WX b) y=WX b:=qm (Xb b) y
theorem zA7 {m n:Nat} (h:m<n) (hn:n≤maxLen):IntKind.i64.wrap ((m:Int)-1)=(m:Int)-1:=by
 have:=xZ;rw[bE];omega
theorem zA8 {a b:List Node} {i:Nat} (ha:i<a.length) (hb:i<b.length):Node.cmps (a.drop i) (b.drop i)=qz ((a.getD i nd0).cmp (b.getD i nd0)) (Node.cmps (a.drop (i+1)) (b.drop (i+1))):=by
 rw[xO ha,xO hb];rfl
theorem J6:WX true = -1:=rfl
theorem J7:WX false=1:=rfl
section
attribute [local irreducible] Vs.callL Vs.callRL tyi zO zn zg zR zY za zI zZ zA zK ze zX zG zJ zW zr yJ zq zL zf Vs.gc zH
noncomputable def zPn:FX:=⟨Tryz.f125,zD.of 125,[]⟩
instance ok125_:zPn.ok 125:=FX.mk'
theorem zHD (b:Bool):callL Tryz.prog zD 125 [.bool b]=some (.int .i64 (WX b)):=by
 refine FX.callL (r:=(.int .i64 (WX b),[])) ok125_ 1000 rfl rfl ?_ rfl;cases b
 ·rw[J7];((repeat((conv=>lhs;whnf);simp only[go_sem,simprocAttr]));try rfl)
 ·rw[J6];((repeat((conv=>lhs;whnf);simp only[go_sem,simprocAttr]));try rfl)
theorem Z1 (S:zB) (b:Bool):zO (callL Tryz.prog zD) S 125 [.bool b]=some {v:=.int .i64 (WX b)} := zF (zHD b) (by simp[zh.bool])
noncomputable def zPo:FX:=⟨Tryz.f127,zD.of 127,[]⟩
instance ok127_:zPo.ok 127:=FX.mk'
theorem zHE (a b:Int):callL Tryz.prog zD 127 [.int .i64 a,.int .i64 b]=some (.int .i64 (ul a b)):=by
 refine FX.callL (r:=(.int .i64 (ul a b),[])) ok127_ 1000 rfl rfl ?_ rfl;unfold ul;by_cases h1:a<b
 ·simp only[h1,if_true];((repeat((conv=>lhs;whnf);simp only[go_sem,simprocAttr,h1]));try rfl)
 ·by_cases h2:b<a
  ·simp only[h1,h2,if_true,if_false];((repeat((conv=>lhs;whnf);simp only[go_sem,simprocAttr,h1,h2]));try rfl)
  ·simp only[h1,h2,if_false];((repeat((conv=>lhs;whnf);simp only[go_sem,simprocAttr,h1,h2]));try rfl)
theorem qo (S:zB) (a b:Int):zO (callL Tryz.prog zD) S 127 [.int .i64 a,.int .i64 b]=some {v:=.int .i64 (ul a b)} := zF (zHE a b) (by simp[zh.int])
noncomputable def zLe:FX:=⟨Tryz.f126,zD.of 126,[]⟩
instance ok126_:zLe.ok 126:=FX.mk'
theorem zEd (a b:List Int) (hl:a.length=b.length) (ha:a.length≤maxLen) : ∀m,m≤a.length →
  zU 0 zLe 0 116 0 [.blk 0,.seq 0 15] [(0,.sl (zE .u32 a) false),(1,.sl (zE .u32 b) false),(5,.int .i64 ((m:Int)-1))] []=some (.int .i64 (jU a b m),[]):=by
 intro m
 induction m with
 | zero =>
  intro hm;have h1 : ¬(0:Int)≤((0:Nat):Int)-1:=by omega
  apply zC;(repeat((conv=>lhs;whnf);simp only[go_sem,simprocAttr,h1]));apply zN;unfold jU;((repeat((conv=>lhs;whnf);simp only[go_sem,simprocAttr]));try rfl)
 | succ m ih =>
  intro hm;have e1:((m+1:Nat):Int)-1=(m:Int):=by omega
  have h1:(0:Int)≤(m:Int):=by omega
  have h2:(m:Int)<(a.length:Int):=by omega
  have h3:(m:Int)<(b.length:Int):=by omega
  have w:=zA7 (m:=m) (n:=a.length) (by omega) ha;have key:=ih (by omega);rw[e1];apply zC;unfold jU;by_cases c:a.getD m 0=b.getD m 0
  ·rw[c,qC,xk];(repeat((conv=>lhs;whnf);simp only[go_sem,simprocAttr,h1,h2,h3,bD,c,w]));exact key
  ·rw[Y4 c,Zd];((repeat((conv=>lhs;whnf);simp only[go_sem,simprocAttr,h1,h2,h3,bD,c,Z1]));try rfl)
theorem zEe (a b:List Int) (ha:a.length≤maxLen) (hb:b.length≤maxLen):callL Tryz.prog zD 126 [.sl (zE .u32 a) false,.sl (zE .u32 b) false]=some (.int .i64 (wM a b)):=by
 refine FX.callL (r:=(.int .i64 (wM a b),[])) ok126_ 1000 rfl rfl ?_ rfl;unfold wM;by_cases hl:a.length=b.length
 ·have h1:(a.length:Int)=(b.length:Int):=by omega
  have h2:IntKind.i64.wrap ((b.length:Int)-1)=(b.length:Int)-1:=by
   have:=xZ;rw[bE];omega
  have h3:=zEd a b hl ha a.length (bF _);rw[h1]at h3;rw[h1,qC,xk];(repeat((conv=>lhs;whnf);simp only[go_sem,simprocAttr,h1,h2]));exact h3
 ·have h1 : ¬(a.length:Int)=(b.length:Int):=by omega
  rw[Y4 h1,Zd];((repeat((conv=>lhs;whnf);simp only[go_sem,simprocAttr,h1,Z1]));try rfl)
theorem zEf (S:zB) (a b:List Int) (ha:a.length≤maxLen) (hb:b.length≤maxLen):zO (callL Tryz.prog zD) S 126 [.sl (zE .u32 a) false,.sl (zE .u32 b) false]=some {v:=.int .i64 (wM a b)} := zF (zEe a b ha hb) (by simp[zh.sl])
noncomputable def zLf:FX:=⟨Tryz.f128,zD.of 128,[]⟩
instance ok128_:zLf.ok 128:=FX.mk'
theorem zEg (a b:List Int) (hl:a.length=b.length) (ha:a.length≤maxLen) : ∀m,m≤a.length →
  zU 0 zLf 0 116 0 [.blk 0,.seq 0 15] [(0,.sl (zE .u32 a) false),(1,.sl (zE .u32 b) false),(5,.int .i64 ((m:Int)-1))] []=some (.int .i64 (jU a b m),[]):=by
 intro m
 induction m with
 | zero =>
  intro hm;have h1 : ¬(0:Int)≤((0:Nat):Int)-1:=by omega
  apply zC;(repeat((conv=>lhs;whnf);simp only[go_sem,simprocAttr,h1]));apply zN;unfold jU;((repeat((conv=>lhs;whnf);simp only[go_sem,simprocAttr]));try rfl)
 | succ m ih =>
  intro hm;have e1:((m+1:Nat):Int)-1=(m:Int):=by omega
  have h1:(0:Int)≤(m:Int):=by omega
  have h2:(m:Int)<(a.length:Int):=by omega
  have h3:(m:Int)<(b.length:Int):=by omega
  have w:=zA7 (m:=m) (n:=a.length) (by omega) ha;have key:=ih (by omega);rw[e1];apply zC;unfold jU;by_cases c:a.getD m 0=b.getD m 0
  ·rw[c,qC,xk];(repeat((conv=>lhs;whnf);simp only[go_sem,simprocAttr,h1,h2,h3,bD,c,w]));exact key
  ·rw[Y4 c,Zd];by_cases d:a.getD m 0<b.getD m 0
   ·rw[bH d,J6];((repeat((conv=>lhs;whnf);simp only[go_sem,simprocAttr,h1,h2,h3,bD,c,d]));try rfl)
   ·rw[bI d,J7];((repeat((conv=>lhs;whnf);simp only[go_sem,simprocAttr,h1,h2,h3,bD,c,d]));try rfl)
theorem zEh (a b:List Int) (ha:a.length≤maxLen) (hb:b.length≤maxLen):callL Tryz.prog zD 128 [.sl (zE .u32 a) false,.sl (zE .u32 b) false]=some (.int .i64 (wM a b)):=by
 refine FX.callL (r:=(.int .i64 (wM a b),[])) ok128_ 1000 rfl rfl ?_ rfl;unfold wM;by_cases hl:a.length=b.length
 ·have h1:(a.length:Int)=(b.length:Int):=by omega
  have h2:IntKind.i64.wrap ((b.length:Int)-1)=(b.length:Int)-1:=by
   have:=xZ;rw[bE];omega
  have h3:=zEg a b hl ha a.length (bF _);rw[h1]at h3;rw[h1,qC,xk];(repeat((conv=>lhs;whnf);simp only[go_sem,simprocAttr,h1,h2]));exact h3
 ·have h1 : ¬(a.length:Int)=(b.length:Int):=by omega
  rw[Y4 h1,Zd];by_cases d:(a.length:Int)<(b.length:Int)
  ·rw[bH d,J6];((repeat((conv=>lhs;whnf);simp only[go_sem,simprocAttr,h1,d]));try rfl)
  ·rw[bI d,J7];((repeat((conv=>lhs;whnf);simp only[go_sem,simprocAttr,h1,d]));try rfl)
theorem zEi (S:zB) (a b:List Int) (ha:a.length≤maxLen) (hb:b.length≤maxLen):zO (callL Tryz.prog zD) S 128 [.sl (zE .u32 a) false,.sl (zE .u32 b) false]=some {v:=.int .i64 (wM a b)} := zF (zEh a b ha hb) (by simp[zh.sl])
noncomputable def zO7:FX:=⟨Tryz.f80,zD.of 80,[]⟩
instance ok80_:zO7.ok 80:=FX.mk'
theorem zCU (a b:Node) (ha:a.ok) (hl:a.kids.length=b.kids.length) (ih : ∀k∈a.kids,∀m∈b.kids,callL Tryz.prog zD 80 [.agg k.cells,.agg m.cells]=some (.int .i64 (k.cmp m))) : ∀(m i:Nat),i+m=a.kids.length →
  zU 0 zO7 1 1012 2 [.blk 1,.seq 0 127] [(2,.mp 0 0 0),(3,.mp 1 0 0),(82,.int .i64 a.kids.length),(83,.int .i64 i)] [.arr [a.cells] none false,.arr [b.cells] none false] =
   some (.int .i64 (Node.cmps (a.kids.drop i) (b.kids.drop i)),[.arr [a.cells] none false,.arr [b.cells] none false]):=by
 intro m
 induction m with
 | zero =>
  intro i hi;have h1 : ¬(i:Int)<(a.kids.length:Int):=by omega
  rw[bU (l:=a.kids) (by omega)];apply zC;(repeat((conv=>lhs;whnf);simp only[go_sem,simprocAttr,h1]));apply zN;unfold Node.cmps;((repeat((conv=>lhs;whnf);simp only[go_sem,simprocAttr]));try rfl)
 | succ m hm =>
  intro i hi;have h1:(i:Int)<(a.kids.length:Int):=by omega
  have h1':(i:Int)<(b.kids.length:Int):=by omega
  have h2:=zi (i:=i) (n:=a.kids.length) (by omega) ha.len;have h4:(0:Int)≤(i:Int):=by omega
  have h5:=fun S=>WW S (ih _ (yA (l:=a.kids) (i:=i) (by omega)) _ (yA (l:=b.kids) (i:=i) (by omega)));have key:=hm (i+1) (by omega);rw[zA8 (a:=a.kids) (b:=b.kids) (i:=i) (by omega) (by omega)];apply zC;by_cases c:(a.kids.getD i nd0).cmp (b.kids.getD i nd0)=0
  ·rw[c]at h5;rw[c,xk];(repeat((conv=>lhs;whnf);simp only[go_sem,simprocAttr,h1,h1',h2,h4,h5]));exact key
  ·rw[qm c];((repeat((conv=>lhs;whnf);simp only[go_sem,simprocAttr,h1,h1',h2,h4,h5,c]));try rfl)
theorem VY : ∀a:Node,a.ok→∀b:Node,b.ok→callL Tryz.prog zD 80 [.agg a.cells,.agg b.cells]=some (.int .i64 (a.cmp b)):=by
 refine Node.ind' fun a ih ha b hb=>?_;refine FX.callL (r:=(.int .i64 (a.cmp b),[.arr [a.cells] none false,.arr [b.cells] none false])) ok80_ 1000 rfl rfl ?_ rfl;have hn:=fun S=>zEf S a.num b.num ha.val.ln hb.val.ln;have hd:=fun S=>zEf S a.den b.den ha.val.ld hb.val.ld;rw[Node.cmp_eq];by_cases c1:a.op=b.op
 case neg =>
  rw[Y4 c1,Zd];((repeat((conv=>lhs;whnf);simp only[go_sem,simprocAttr,c1,Z1]));try rfl)
 rw[c1,qC,xk];unfold UA
 cases c2:a.name.toList == b.name.toList
 ·have c2':a.name.toList≠b.name.toList:=by simpa using c2
  rw[bA c2',Zd];((repeat((conv=>lhs;whnf);simp only[go_sem,simprocAttr,c1,c2,Z1]));try rfl)
 have c2' : ¬a.name.toList≠b.name.toList:=by simpa using c2
 rw[hZ c2',xk];unfold UB
 cases c3:a.neg == b.neg
 ·have c3':a.neg≠b.neg:=by simpa using c3
  rw[bA c3',Zd];((repeat((conv=>lhs;whnf);simp only[go_sem,simprocAttr,c1,c2,c3,Z1]));try rfl)
 have c3' : ¬a.neg≠b.neg:=by simpa using c3
 rw[hZ c3',xk];by_cases c4:wM a.num b.num=0
 case neg =>
  rw[qm c4];((repeat((conv=>lhs;whnf);simp only[go_sem,simprocAttr,c1,c2,c3,Z1,hn,c4]));try rfl)
 rw[c4,xk];by_cases c5:wM a.den b.den=0
 case neg =>
  rw[qm c5];((repeat((conv=>lhs;whnf);simp only[go_sem,simprocAttr,c1,c2,c3,Z1,hn,c4,hd,c5]));try rfl)
 rw[c5,xk];by_cases hl:a.kids.length=b.kids.length
 ·have h:=zCU a b ha hl (fun k hk m hm=>ih k hk (ha.kids k hk) m (hb.kids m hm)) a.kids.length 0 (by omega);simp only[bY]at h;have h1:(a.kids.length:Int)=(b.kids.length:Int):=by omega
  rw[h1]at h;rw[h1,qC,xk];(repeat((conv=>lhs;whnf);simp only[go_sem,simprocAttr,c1,c2,c3,hn,c4,hd,c5,h1]));exact h
 ·have h1 : ¬(a.kids.length:Int)=(b.kids.length:Int):=by omega
  rw[Y4 h1,Zd];((repeat((conv=>lhs;whnf);simp only[go_sem,simprocAttr,c1,c2,c3,Z1,hn,c4,hd,c5,h1]));try rfl)
noncomputable def zO8:FX:=⟨Tryz.f85,zD.of 85,[]⟩
instance ok85_:zO8.ok 85:=FX.mk'
theorem QY (a b:Node) (ha:a.ok) (hl:a.kids.length=b.kids.length) (ih : ∀k∈a.kids,∀m∈b.kids,callL Tryz.prog zD 85 [.agg k.cells,.agg m.cells]=some (.int .i64 (k.cmp m))) : ∀(m i:Nat),i+m=a.kids.length →
  zU 0 zO8 0 4084 2 [.blk 0,.seq 0 511] [(2,.mp 0 0 0),(3,.mp 1 0 0),(9,.int .i64 i)] [.arr [a.cells] none false,.arr [b.cells] none false] =
   some (.int .i64 (Node.cmps (a.kids.drop i) (b.kids.drop i)),[.arr [a.cells] none false,.arr [b.cells] none false]):=by
 intro m
 induction m with
 | zero =>
  intro i hi;have h1 : ¬(i:Int)<(a.kids.length:Int):=by omega
  rw[bU (l:=a.kids) (by omega)];apply zC;(repeat((conv=>lhs;whnf);simp only[go_sem,simprocAttr,h1]));apply zN;unfold Node.cmps;((repeat((conv=>lhs;whnf);simp only[go_sem,simprocAttr]));try rfl)
 | succ m hm =>
  intro i hi;have h1:(i:Int)<(a.kids.length:Int):=by omega
  have h1':(i:Int)<(b.kids.length:Int):=by omega
  have h2:=zi (i:=i) (n:=a.kids.length) (by omega) ha.len;have h4:(0:Int)≤(i:Int):=by omega
  have h5:=fun S=>WW S (ih _ (yA (l:=a.kids) (i:=i) (by omega)) _ (yA (l:=b.kids) (i:=i) (by omega)));have key:=hm (i+1) (by omega);rw[zA8 (a:=a.kids) (b:=b.kids) (i:=i) (by omega) (by omega)];apply zC;by_cases c:(a.kids.getD i nd0).cmp (b.kids.getD i nd0)=0
  ·rw[c]at h5;rw[c,xk];(repeat((conv=>lhs;whnf);simp only[go_sem,simprocAttr,h1,h1',h2,h4,h5]));exact key
  ·rw[qm c];((repeat((conv=>lhs;whnf);simp only[go_sem,simprocAttr,h1,h1',h2,h4,h5,c]));try rfl)
theorem QZ : ∀a:Node,a.ok→∀b:Node,b.ok→callL Tryz.prog zD 85 [.agg a.cells,.agg b.cells]=some (.int .i64 (a.cmp b)):=by
 refine Node.ind' fun a ih ha b hb=>?_;refine FX.callL (r:=(.int .i64 (a.cmp b),[.arr [a.cells] none false,.arr [b.cells] none false])) ok85_ 1000 rfl rfl ?_ rfl;have hn:=fun S=>zEi S a.num b.num ha.val.ln hb.val.ln;have hd:=fun S=>zEi S a.den b.den ha.val.ld hb.val.ld;have z0 : ¬(WX true=0):=Xb true;have z1 : ¬(WX false=0):=Xb false;rw[Node.cmp_eq];by_cases c1:ul a.op b.op=0
 case neg =>
  rw[qm c1];((repeat((conv=>lhs;whnf);simp only[go_sem,simprocAttr,c1,qo]));try rfl)
 rw[c1,xk];unfold UA
 cases c2:a.name.toList == b.name.toList
 ·have c2':a.name.toList≠b.name.toList:=by simpa using c2
  rw[bA c2',Zd]
  cases d:Op.bytesLess a.name.toList b.name.toList
  ·rw[J7];((repeat((conv=>lhs;whnf);simp only[go_sem,simprocAttr,c1,qo,c2,d]));try rfl)
  ·rw[J6];((repeat((conv=>lhs;whnf);simp only[go_sem,simprocAttr,c1,qo,c2,d]));try rfl)
 have c2' : ¬a.name.toList≠b.name.toList:=by simpa using c2
 rw[hZ c2',xk];unfold UB
 cases c3:a.neg == b.neg
 ·have c3':a.neg≠b.neg:=by simpa using c3
  rw[bA c3',Zd]
  cases da:a.neg <;> cases d:b.neg
  ·exact absurd (by rw[da,d]) c3'
  ·rw[da,d]at c3;rw[J6];((repeat((conv=>lhs;whnf);simp only[go_sem,simprocAttr,c1,qo,c2,da,d,c3]));try rfl)
  ·rw[da,d]at c3;rw[J7];((repeat((conv=>lhs;whnf);simp only[go_sem,simprocAttr,c1,qo,c2,da,d,c3]));try rfl)
  ·exact absurd (by rw[da,d]) c3'
 have c3' : ¬a.neg≠b.neg:=by simpa using c3
 rw[hZ c3',xk];by_cases c4:wM a.num b.num=0
 case neg =>
  rw[qm c4];((repeat((conv=>lhs;whnf);simp only[go_sem,simprocAttr,c1,qo,c2,c3,hn,c4]));try rfl)
 rw[c4,xk];by_cases c5:wM a.den b.den=0
 case neg =>
  rw[qm c5];((repeat((conv=>lhs;whnf);simp only[go_sem,simprocAttr,c1,qo,c2,c3,hn,c4,hd,c5]));try rfl)
 rw[c5,xk];by_cases hl:a.kids.length=b.kids.length
 ·have h:=QY a b ha hl (fun k hk m hm=>ih k hk (ha.kids k hk) m (hb.kids m hm)) a.kids.length 0 (by omega);simp only[bY]at h;have h1:(a.kids.length:Int)=(b.kids.length:Int):=by omega
  have h2:ul (a.kids.length:Int) (b.kids.length:Int)=0:=by rw[h1,qC]
  rw[h2,xk];(repeat((conv=>lhs;whnf);simp only[go_sem,simprocAttr,c1,qo,c2,c3,hn,c4,hd,c5,h2]));exact h
 ·have h1 : ¬(a.kids.length:Int)=(b.kids.length:Int):=by omega
  have h2 : ¬ul (a.kids.length:Int) (b.kids.length:Int)=0:=by rw[Y4 h1];exact Xb _
  rw[qm h2];((repeat((conv=>lhs;whnf);simp only[go_sem,simprocAttr,c1,qo,c2,c3,hn,c4,hd,c5,h2]));try rfl)
noncomputable def zS2:FX:=⟨Tryz.f39,zD.of 39,[]⟩
instance ok39_:zS2.ok 39:=FX.mk'
theorem zEj (a b:Node) (ha:a.ok) (hb:b.ok):callL Tryz.prog zD 39 [.agg a.cells,.agg b.cells]=some (.bool (decide (a.cmp b=0))):=by
 refine FX.callL (r:=(.bool (decide (a.cmp b=0)),[.arr [a.cells] none false,.arr [b.cells] none false])) ok39_ 1000 rfl rfl ?_ rfl;have h:=fun S=>WW S (VY a ha b hb);((repeat((conv=>lhs;whnf);simp only[go_sem,simprocAttr,h]));try rfl)
theorem jZ (S:zB) (a b:Node) (ha:a.ok) (hb:b.ok):zO (callL Tryz.prog zD) S 39 [.agg a.cells,.agg b.cells]=some {v:=.bool (decide (a.cmp b=0))} := WW S (zEj a b ha hb)
noncomputable def zS3:FX:=⟨Tryz.f43,zD.of 43,[]⟩
instance ok43_:zS3.ok 43:=FX.mk'
theorem Ub (a b:Node) (ha:a.ok) (hb:b.ok):callL Tryz.prog zD 43 [.agg a.cells,.agg b.cells]=some (.bool (decide (a.cmp b=0))):=by
 refine FX.callL (r:=(.bool (decide (a.cmp b=0)),[.arr [a.cells] none false,.arr [b.cells] none false])) ok43_ 1000 rfl rfl ?_ rfl;have h:=fun S=>WW S (QZ a ha b hb);((repeat((conv=>lhs;whnf);simp only[go_sem,simprocAttr,h]));try rfl)
theorem zEk (S:zB) (a b:Node) (ha:a.ok) (hb:b.ok):zO (callL Tryz.prog zD) S 43 [.agg a.cells,.agg b.cells]=some {v:=.bool (decide (a.cmp b=0))} := WW S (Ub a b ha hb)
end
end
end Go.Vs

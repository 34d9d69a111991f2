
import Derived.Test.YtkaeejkajfinhaaGreatMT26
set_option linter.unusedVariables false
set_option linter.unusedSimpArgs false
set_option maxRecDepth 100000
namespace Go.Vs
open Go Go.Proofs
section
theorem zEx {B:Nat} {L:List Bd} {I:List Pr} (h:RC B L I) (hg:GoodI I) (n:Node) (hn:n.ok) (hs:zm n.op=2) (hf : ∃a b c,n.formed a b c=true) (hm:n.has yN=false) (hk:n.syms.all (known I)=true):Yb B L I (tru B L I n) n:=by
 refine U9 h _ _ n hn hs hf hm (fun k k1 k2 k3 k4=>zMZ h hg k k1 k2 k3 (pD.2 fun s hx=>pD.1 hk s (k4 s hx))) fun s hsy ho=>?_;obtain⟨w,h1,h2,h3,_,hmod,_,h4⟩:=Xd h.okI hg (pD.1 hk s hsy);obtain⟨t1,t2⟩:=h4 ho;refine⟨w,h1,?_⟩;have e:U8 B L I s=w.tr (fun k=>k.ev B L Un) zM1:=by unfold U8;rw[h1]
 rw[e];exact U9 h _ zM1 w h2 t1 ⟨_,_,_,t2⟩ hmod (fun k k1 k2 k3 k4=>WZ h Un k k1 k2 k3 fun s hs=>by have:=k4 s hs;rw[h3]at this;cases this) fun s hs=>by rw[h3]at hs;cases hs
theorem zOE (L:List Bd) (I:List Pr) (k:Node):Vs.Zq 4096 (val 4096 L I k):=ka (by omega) (zAS (by omega) L I) k
theorem zM8 (L:List Bd) (I:List Pr) (k:Node):kq (val 4096 L I k):=wO (J7 4096 L I) k
theorem zOF (L:List Bd) (k:Node):Vs.Zq 4096 (k.ev 4096 L Un):=ka (by omega) (fun _ _ _ _ _ h=>(by cases h)) k
theorem zM9 (L:List Bd) (k:Node):kq (k.ev 4096 L Un):=wO (fun _ _ _ _ h=>(by cases h)) k
theorem zJq {L:List Bd} {I:List Pr} (h:RC 4096 L I) (hg:GoodI I) (n:Node) (hn:n.ok) (hs:zm n.op=2) (hf : ∃a b c,n.formed a b c=true) (hm:n.has yN=false) (hk:n.syms.all (known I)=true):jV L I (tru 4096 L I n) n:=by
 refine Je h _ (zOE L I) (zM8 L I) _ n hn hs hf hm (fun k k1 k2 k3 k4=>zJj h hg k k1 k2 k3 (pD.2 fun s hx=>pD.1 hk s (k4 s hx))) fun s hsy ho=>?_;obtain⟨w,h1,h2,h3,_,hmod,_,h4⟩:=Xd h.okI hg (pD.1 hk s hsy);obtain⟨t1,t2⟩:=h4 ho;refine⟨w,h1,?_⟩;have e:U8 4096 L I s=w.tr (fun k=>k.ev 4096 L Un) zM1:=by unfold U8;rw[h1]
 rw[e];exact Je h _ (zOF L) (zM9 L) zM1 w h2 t1 ⟨_,_,_,t2⟩ hmod (fun k k1 k2 k3 k4=>W1 h Un (fun _ _ _ _ _ h=>(by cases h)) (fun _ _ _ _ h=>(by cases h)) k k1 k2 k3 fun s hs=>by have:=k4 s hs;rw[h3]at this;cases this) fun s hs=>by rw[h3]at hs;cases hs
def zEy (y:Bool) (e:Int):PV:=.tup [.bool y,.int .i64 e]
def Zs (L:List Bd) (I:List Pr) (n:Node):Int :=
 if n.check 2≠0 then n.check 2 else if Y9 L=false then 3 else if qO I≠0 then 3 else if n.has yN=true then 111 else if n.unk I=true then 110 else 0
theorem YV {L:List Bd} {I:List Pr} {n:Node} (h:Zs L I n=0):n.check 2=0∧Y9 L=true∧qO I=0∧n.has yN=false∧n.unk I=false:=by
 unfold Zs at h;by_cases c1:n.check 2=0
 case neg=>rw[bA c1]at h;exact absurd h c1
 rw[hZ (by simpa using c1)]at h
 cases c2:Y9 L
 ·rw[c2,bA rfl]at h;cases h
 rw[c2,hZ (by simp)]at h;by_cases c3:qO I=0
 case neg=>rw[bA c3]at h;cases h
 rw[hZ (by simpa using c3)]at h
 cases c5:n.has yN
 case true=>rw[c5,bA rfl]at h;cases h
 rw[c5,hZ (by simp)]at h
 cases c4:n.unk I
 ·exact⟨c1,rfl,c3,rfl,rfl⟩
 ·rw[c4,bA rfl]at h;cases h
theorem qK (L:List Bd) (I:List Pr) (n:Node):XK L I n 2=Zs L I n:=by
 unfold XK Zs;by_cases c1:n.check 2=0
 case neg=>rw[bA c1,bA c1]
 have e1 : ¬(n.check 2≠0):=by simpa using c1
 rw[hZ e1,hZ e1];obtain⟨_,f1,f2⟩:=jo c1;rw[zJp,←zEf]
 cases hm:n.has yN
 ·rw[zHM (.inr f1) ⟨_,_,_,f2⟩ hm];by_cases c3:jn I=0
  ·rw[c3];simp
  ·rw[V9 c3];first | done | simp
 ·by_cases c3:jn I=0
  ·rw[c3];simp
  ·rw[V9 c3];simp
section
attribute [local irreducible] Vs.callL Vs.callRL tyi zO zk zf zQ zW zZ zI zX zA zK zb zV zG zJ zU zs yL zr zL za Vs.gc zH
noncomputable def zTZ:FX:=⟨Tryz.f30,zE.of 30,[]⟩
instance ok30_:zTZ.ok 30:=FX.mk'
theorem XL {L:List Bd} {I:List Pr} {n:Node} (h:Light L I n) (hr:XK L I n 2≠0):callL Tryz.prog zE 30 [.agg n.cells,.sl (ya L) false,.sl (zY I) false]=some (zEy false (XK L I n 2)):=by
 have rd:=fun S=>zIF S h 2;apply FX.callV ok30_ 1000 rfl rfl
 ·((repeat((conv=>lhs;whnf);simp only[go_sem,simprocAttr,rd,hr]));try rfl)
 ·rfl
theorem QT {L:List Bd} {I:List Pr} {n:Node} (h:Light L I n) (hr:XK L I n 2=0) {g:DV→Option Bool} (k:jV L I g n) {x:Bool} (hx:g (0,0)=some x):callL Tryz.prog zE 30 [.agg n.cells,.sl (ya L) false,.sl (zY I) false]=some (zEy x 0):=by
 have rd:=fun S=>zIF S h 2;rw[hr]at rd;have z:=ve;have z0:=ul (B:=4096) (by omega);have lw:vt 2 [.arr [n.cells] none false,.arr [evc L I 0 0 false false] none false]=true:=by
  simp only[ye,xM,yC (yU _),yC (V7 _ _ _ _ _ _),bX]
 have eS:ES [.arr [n.cells] none false,.arr [evc L I 0 0 false false] none false] 1 (evc L I 0 0 false false):=⟨rfl,lw⟩;obtain⟨X,c0,l0⟩:=k.m ⟨z0,z0⟩ hx eS;clear eS lw;simp only[wP]at *;apply FX.callV ok30_ 1000 rfl rfl
 ·unfold evc d2 at *;unfold yB at *;simp only[bS,pO,pF]at c0;((repeat((conv=>lhs;whnf);simp only[go_sem,simprocAttr,rd,z,c0,xU,xB]));try rfl)
 ·rfl
noncomputable def zT0:FX:=⟨Tryz.f31,zE.of 31,[]⟩
instance ok31_:zT0.ok 31:=FX.mk'
theorem Y7 {L:List Bd} {I:List Pr} {n:Node} (h:Light L I n) (hr:Zs L I n≠0):callL Tryz.prog zE 31 [.agg n.cells,.sl (ya L) false,.sl (zY I) false]=some (zEy false (Zs L I n)):=by
 have tc:=fun S=>qH S n h.okn h.big 2;have sv:=fun S=>X4 S L h.okL h.llen;have sc:=fun S=>VY S I h.okI h.len h.cnt;have un:=fun S=>Xb S I h.okI h.len n h.okn;have mo:=fun S=>ZL S n h.okn;unfold Zs at *;by_cases c1:n.check 2=0
 case neg =>
  rw[bA c1];apply FX.callV ok31_ 1000 rfl rfl
  ·((repeat((conv=>lhs;whnf);simp only[go_sem,simprocAttr,tc,c1]));try rfl)
  ·rfl
 rw[hZ (by simpa using c1)]at hr ⊢
 cases c2:Y9 L
 case false =>
  rw[c2]at sv;rw[bA rfl];apply FX.callV ok31_ 1000 rfl rfl
  ·((repeat((conv=>lhs;whnf);simp only[go_sem,simprocAttr,tc,c1,sv]));try rfl)
  ·rfl
 rw[c2]at sv hr;rw[hZ (by simp)]at hr ⊢;by_cases c3:qO I=0
 case neg =>
  rw[bA c3];apply FX.callV ok31_ 1000 rfl rfl
  ·((repeat((conv=>lhs;whnf);simp only[go_sem,simprocAttr,tc,c1,sv,sc,c3]));try rfl)
  ·rfl
 rw[hZ (by simpa using c3)]at hr ⊢
 cases c5:n.has yN
 case true =>
  rw[c5]at mo;rw[bA rfl];apply FX.callV ok31_ 1000 rfl rfl
  ·((repeat((conv=>lhs;whnf);simp only[go_sem,simprocAttr,tc,c1,sv,sc,c3,mo]));try rfl)
  ·rfl
 rw[c5]at mo hr;rw[hZ (by simp)]at hr ⊢
 cases c4:n.unk I
 ·rw[c4,hZ (by simp)]at hr;exact absurd rfl hr
 ·rw[c4]at un;rw[bA rfl];apply FX.callV ok31_ 1000 rfl rfl
  ·((repeat((conv=>lhs;whnf);simp only[go_sem,simprocAttr,tc,c1,sv,sc,c3,mo,un]));try rfl)
  ·rfl
theorem Jf {L:List Bd} {I:List Pr} {n:Node} (h:Light L I n) (hr:Zs L I n=0) {g:DV→Option Bool} (k:Yb 4096 L I g n) {x:Bool} (hx:g (0,0)=some x):callL Tryz.prog zE 31 [.agg n.cells,.sl (ya L) false,.sl (zY I) false]=some (zEy x 0):=by
 obtain⟨c1,c2,c3,c5,c4⟩:=YV hr;have tc:=fun S=>qH S n h.okn h.big 2;have sv:=fun S=>X4 S L h.okL h.llen;have sc:=fun S=>VY S I h.okI h.len h.cnt;have un:=fun S=>Xb S I h.okI h.len n h.okn;have mo:=fun S=>ZL S n h.okn;rw[c2]at sv;rw[c4]at un;rw[c5]at mo;have rz:=V3;have z0:=zz (B:=4096) (by omega);have pl:=fun S=>jz S 0 4096 (z0.1.dec.mono (by omega));rw[zTX (by omega)]at pl;obtain⟨y,f,e,his⟩:=k.o z0;rw[hx]at his;obtain⟨rfl,rfl⟩:=his;rw[show ((4096:Nat):Int)=4096 from rfl]at pl e;unfold zEy;apply FX.callV ok31_ 1000 rfl rfl
 ·unfold dc at *;unfold rrV rrL zg yI at *;((repeat((conv=>lhs;whnf);simp only[go_sem,simprocAttr,tc,c1,sv,sc,c3,mo,un,rz,pl,e]));try rfl)
 ·rfl
theorem Uo {L:List Bd} {I:List Pr} {n:Node} (h:Light L I n) (hs:zm n.op=2) (hr:Zs L I n≠0):callL Tryz.prog zE 13 [.agg n.cells,.sl (ya L) false,.sl (zY I) false]=some (.bool false):=by
 have so:=fun S=>yX S n.op;rw[hs]at so;have tc:=fun S=>qH S n h.okn h.big 2;have sv:=fun S=>X4 S L h.okL h.llen;have sc:=fun S=>VY S I h.okI h.len h.cnt;have un:=fun S=>Xb S I h.okI h.len n h.okn;have mo:=fun S=>ZL S n h.okn;unfold Zs at *;by_cases c1:n.check 2=0
 case neg =>
  apply FX.callB2 ok13_ 1000 rfl rfl;((repeat((conv=>lhs;whnf);simp only[go_sem,simprocAttr,so,tc,c1]));try rfl)
 rw[hZ (by simpa using c1)]at hr
 cases c2:Y9 L
 case false =>
  rw[c2]at sv;apply FX.callB2 ok13_ 1000 rfl rfl;((repeat((conv=>lhs;whnf);simp only[go_sem,simprocAttr,so,tc,c1,sv]));try rfl)
 rw[c2]at sv hr;rw[hZ (by simp)]at hr;by_cases c3:qO I=0
 case neg =>
  apply FX.callB2 ok13_ 1000 rfl rfl;((repeat((conv=>lhs;whnf);simp only[go_sem,simprocAttr,so,tc,c1,sv,sc,c3]));try rfl)
 rw[hZ (by simpa using c3)]at hr
 cases c4:n.unk I
 case true =>
  rw[c4]at un;apply FX.callB2 ok13_ 1000 rfl rfl;((repeat((conv=>lhs;whnf);simp only[go_sem,simprocAttr,so,tc,c1,sv,sc,c3,un]));try rfl)
 rw[c4]at un hr
 cases c5:n.has yN
 ·rw[c5,hZ (by simp),hZ (by simp)]at hr;exact absurd rfl hr
 ·rw[c5]at mo;apply FX.callB2 ok13_ 1000 rfl rfl;((repeat((conv=>lhs;whnf);simp only[go_sem,simprocAttr,so,tc,c1,sv,sc,c3,un,mo]));try rfl)
theorem QU {L:List Bd} {I:List Pr} {n:Node} (h:Light L I n) (hs:zm n.op=2) (hr:Zs L I n=0) {g:DV→Option Bool} (k:Yb 200 L I g n):callL Tryz.prog zE 13 [.agg n.cells,.sl (ya L) false,.sl (zY I) false]=some (.bool (g (0,0)).isNone):=by
 obtain⟨c1,c2,c3,c5,c4⟩:=YV hr;have so:=fun S=>yX S n.op;rw[hs]at so;have tc:=fun S=>qH S n h.okn h.big 2;have sv:=fun S=>X4 S L h.okL h.llen;have sc:=fun S=>VY S I h.okI h.len h.cnt;have un:=fun S=>Xb S I h.okI h.len n h.okn;have mo:=fun S=>ZL S n h.okn;rw[c2]at sv;rw[c4]at un;rw[c5]at mo;have rz:=V3;have z0:=zz (B:=200) (by omega);have pl:=fun S=>jz S 0 200 (z0.1.dec.mono (by omega));rw[zTX (by omega)]at pl;obtain⟨y,f,e,his⟩:=k.o z0;have ef:f=(g (0,0)).isNone:=by
  cases hx:g (0,0) with
  | none=>rw[hx]at his;exact his
  | some x=>rw[hx]at his;exact his.2
 rw[←ef];rw[show ((200:Nat):Int)=200 from rfl]at pl e;apply FX.callB2 ok13_ 1000 rfl rfl;unfold dc at *;unfold rrV rrL zg yI at *;((repeat((conv=>lhs;whnf);simp only[go_sem,simprocAttr,so,tc,c1,sv,sc,c3,un,mo,rz,pl,e]));try rfl)
end
end
section
section
attribute [local irreducible] Vs.callL Vs.callRL tyi zO zk zf zQ zW zZ zI zX zA zK zb zV zG zJ zU zs yL zr zL za Vs.gc zH
noncomputable def zUv:FX:=⟨Tryz.f7,zE.of 7,[]⟩
instance ok7_:zUv.ok 7:=FX.mk'
theorem XM {L:List Bd} {I:List Pr} {n:Node} (hl:callL Tryz.prog zE 9 [.sl (ya L) false,.sl (zY I) false,.agg n.cells]=some (.bool true)) (hg:(zm n.op=2∧callL Tryz.prog zE 13 [.agg n.cells,.sl (ya L) false,.sl (zY I) false]=some (.bool false))∨zm n.op≠2) (y:Bool) (e:Int) (hP:callL Tryz.prog zE 30 [.agg n.cells,.sl (ya L) false,.sl (zY I) false]=some (zEy y e)) (hR:callL Tryz.prog zE 31 [.agg n.cells,.sl (ya L) false,.sl (zY I) false]=some (zEy y e)):callL Tryz.prog zE 7 [.agg n.cells,.sl (ya L) false,.sl (zY I) false]=some (.bool true):=by
 have aw:=zCG;have lo:=fun S=>zF (S:=S) hl (by simp[Node.plain,zi.sl]);have pv:=fun S=>zF (S:=S) hP (by simp[Node.plain,zi.sl]);have rv:=fun S=>zF (S:=S) hR (by simp[Node.plain,zi.sl]);have so:=fun S=>yX S n.op;unfold zEy at *
 rcases hg with⟨hs,hg⟩ | hs
 ·have lg:=fun S=>zF (S:=S) hg (by simp[Node.plain,zi.sl]);rw[hs]at so;apply FX.callB2 ok7_ 1000 rfl rfl;((repeat((conv=>lhs;whnf);simp only[go_sem,simprocAttr,aw,lo,so,lg,pv,rv]));try rfl)
 ·apply FX.callB2 ok7_ 1000 rfl rfl;((repeat((conv=>lhs;whnf);simp only[go_sem,simprocAttr,aw,lo,so,hs,pv,rv]));try rfl)
theorem zHN {L:List Bd} {I:List Pr} {n:Node} (hl:callL Tryz.prog zE 9 [.sl (ya L) false,.sl (zY I) false,.agg n.cells]=some (.bool true)) (hs:zm n.op=2) (hg:callL Tryz.prog zE 13 [.agg n.cells,.sl (ya L) false,.sl (zY I) false]=some (.bool true)):callL Tryz.prog zE 7 [.agg n.cells,.sl (ya L) false,.sl (zY I) false]=some (.bool true):=by
 have aw:=zCG;have lo:=fun S=>zF (S:=S) hl (by simp[Node.plain,zi.sl]);have so:=fun S=>yX S n.op;have lg:=fun S=>zF (S:=S) hg (by simp[Node.plain,zi.sl]);rw[hs]at so;apply FX.callB2 ok7_ 1000 rfl rfl;((repeat((conv=>lhs;whnf);simp only[go_sem,simprocAttr,aw,lo,so,lg]));try rfl)
theorem zCU {L:List Bd} {I:List Pr} {n:Node} (hl:callL Tryz.prog zE 9 [.sl (ya L) false,.sl (zY I) false,.agg n.cells]=some (.bool false)):callL Tryz.prog zE 7 [.agg n.cells,.sl (ya L) false,.sl (zY I) false]=some (.bool true):=by
 have aw:=zCG;have lo:=fun S=>zF (S:=S) hl (by simp[Node.plain,zi.sl]);apply FX.callB2 ok7_ 1000 rfl rfl;((repeat((conv=>lhs;whnf);simp only[go_sem,simprocAttr,aw,lo]));try rfl)
end
theorem UJ {L:List Bd} {I:List Pr} {n:Node} (hL:WT L) (hI : ∀p∈I,p.ok) (hn:n.ok) (hb : ∀p∈I,p.wth.count≤1000000000∧p.what.count≤1000000000) (hc:n.count≤1000000000):callL Tryz.prog zE 7 [.agg n.cells,.sl (ya L) false,.sl (zY I) false]=some (.bool true):=by
 have hl:callL Tryz.prog zE 9 [.sl (ya L) false,.sl (zY I) false,.agg n.cells]=some (.bool (UF L.length I n)):=zGk ((zPh (ya L) false).trans (by simp[ya])) I n hI hn
 cases e:UF L.length I n
 ·rw[e]at hl;exact zCU hl
 rw[e]at hl;obtain⟨l1,l2,l3,l4⟩:=zE7 hb hc e;have li:Light L I n:=⟨hL,l1,hI,l2,fun p hp=>(l4 p hp).2,hn,l3⟩;by_cases hs:zm n.op=2
 ·by_cases c:Zs L I n=0
  ·obtain⟨c1,c2,c3,hm,c4⟩:=YV c;obtain⟨_,f1,f2⟩:=jo c1;have hg:=zME c3;have hk:n.syms.all (known I)=true:=by
    have:=zA0 I n (.inr f1) ⟨_,_,_,f2⟩ hm;rw[c4]at this
    cases hx:n.syms.all (known I)
    ·rw[hx]at this;simp at this
    ·rfl
   have k200:=zEx (zOh li (B:=200) (by omega) (by omega) c2) hg n hn f1 ⟨_,_,_,f2⟩ hm hk;have lg:=QU li hs c k200
   cases hx:tru 200 L I n (0,0) with
   | none =>
    rw[hx]at lg;exact zHN hl hs lg
   | some x =>
    rw[hx]at lg;have hx':=zM2 (show 200≤4096 by omega) hx;have rc:=zOh li (B:=4096) (by omega) (by omega) c2;have kR:=zEx rc hg n hn f1 ⟨_,_,_,f2⟩ hm hk;have kP:=zJq rc hg n hn f1 ⟨_,_,_,f2⟩ hm hk;exact XM hl (.inl ⟨hs,lg⟩) x 0 (QT li (by rw[qK];exact c) kP hx') (Jf li c kR hx')
  ·have vR:=Y7 li c;have vP:=XL li (by rw[qK];exact c);rw[qK]at vP;exact XM hl (.inl ⟨hs,Uo li hs c⟩) false _ vP vR
 ·have c1:n.check 2≠0:=fun h=>hs (jo h).2.1;have c:Zs L I n≠0:=fun h=>c1 (YV h).1;have vR:=Y7 li c;have vP:=XL li (by rw[qK];exact c);rw[qK]at vP;exact XM hl (.inr hs) false _ vP vR
theorem Up (pvs:List PV) (h:zAi Tryz.prog [30,35,22] pvs) (hb:uk pvs≤1048576):callL Tryz.prog zE 7 pvs=some (.bool true):=by
 obtain⟨x1,r1,k1,rfl,h1,t1⟩:=h.cons_inv;obtain⟨x2,r2,k2,rfl,h2,t2⟩:=t1.cons_inv;obtain⟨x3,r3,k3,rfl,h3,t3⟩:=t2.cons_inv;cases t3.nil_inv;obtain⟨n,hn,rfl⟩:=h1.node;obtain⟨L,_,hL,rfl⟩:=h2.state;obtain⟨I,_,hI,rfl⟩:=h3.prs;simp only[uk,pvB]at hb;have cn:=YU n;refine UJ hL hI hn (fun p hp=>?_) (by omega);have:=zEk I p hp;omega
end
end Go.Vs


import Derived.Test.YtkaeejkajfinhaaGreatMD26
set_option linter.unusedVariables false
set_option linter.unusedSimpArgs false
set_option maxRecDepth 100000
namespace Go.Vs
open Go Go.Proofs
section
attribute [local irreducible] Vs.callL Vs.callRL tyi zO zn zg zR zY za zI zZ zA zK ze zX zG zJ zW zr yJ zq zL zf Vs.gc zH
noncomputable def zTQ:FX:=⟨Tryz.f18,zD.of 18,[]⟩
instance ok18_:zTQ.ok 18:=FX.mk'
theorem zMf (o:Int) (k:Node):callL Tryz.prog zD 18 [.int .i64 o,.agg k.cells]=some (.agg (qF o k).cells):=by
 apply FX.callV ok18_ 1000 rfl rfl
 ·((repeat((conv=>lhs;whnf);simp only[go_sem,simprocAttr,zj,vv,vO]));try rfl)
 ·cases k;rfl
noncomputable def zTR:FX:=⟨Tryz.f19,zD.of 19,[]⟩
instance ok19_:zTR.ok 19:=FX.mk'
theorem zMg (o:Int) (k m:Node):callL Tryz.prog zD 19 [.int .i64 o,.agg k.cells,.agg m.cells]=some (.agg (jk o k m).cells):=by
 apply FX.callV ok19_ 1000 rfl rfl
 ·((repeat((conv=>lhs;whnf);simp only[go_sem,simprocAttr,zj,vv,vO]));try rfl)
 ·cases k;cases m;rfl
theorem zFY (S:zB) (o:Int) (k:Node):zO (callL Tryz.prog zD) S 18 [.int .i64 o,.agg k.cells]=some {v:=.agg (qF o k).cells} := zF (zMf o k) (by simp[Node.plain,zh.int])
theorem zFZ (S:zB) (o:Int) (k m:Node):zO (callL Tryz.prog zD) S 19 [.int .i64 o,.agg k.cells,.agg m.cells]=some {v:=.agg (jk o k m).cells} := zF (zMg o k m) (by simp[Node.plain,zh.int])
theorem kj (S:zB) (k:Node) (h:k.ok):zO (callL Tryz.prog zD) S 17 [.agg k.cells]=some {v:=.int .i64 k.size} := uQ S (Zx k h)
noncomputable def zUl:FX:=⟨Tryz.f5,zD.of 5,[]⟩
instance ok5_:zUl.ok 5:=FX.mk'
variable {L:List Bd} {I:List Pr} {a b:Node}
theorem Qc (ha:a.ok) (hb:b.ok) {lv:Bool} (hl:callL Tryz.prog zD 9 [.sl (yC L) false,.sl (zS I) false,.agg a.cells]=some (.bool lv)) (hh:lv=false∨150<a.size∨150<b.size):callL Tryz.prog zD 5 [.agg a.cells,.agg b.cells,.sl (yC L) false,.sl (zS I) false]=some (.bool true):=by
 have aw:=Xe;have lo:=fun S=>zF (S:=S) hl (by simp[Node.plain,zh.sl]);have sa:=fun S=>kj S a ha;have sb:=fun S=>kj S b hb;cases lv
 ·apply FX.callB2 ok5_ 1000 rfl rfl;((repeat((conv=>lhs;whnf);simp only[go_sem,simprocAttr,aw,lo]));try rfl)
 by_cases h1:150<a.size
 ·apply FX.callB2 ok5_ 1000 rfl rfl;((repeat((conv=>lhs;whnf);simp only[go_sem,simprocAttr,aw,lo,sa,h1]));try rfl)
 have h2:150<b.size:=by
  rcases hh with h | h | h
  ·cases h
  ·exact absurd h h1
  ·exact h
 apply FX.callB2 ok5_ 1000 rfl rfl;((repeat((conv=>lhs;whnf);simp only[go_sem,simprocAttr,aw,lo,sa,sb,h1,h2]));try rfl)
variable (ha:a.ok) (hb:b.ok) (hl:callL Tryz.prog zD 9 [.sl (yC L) false,.sl (zS I) false,.agg a.cells]=some (.bool true)) (h1 : ¬ 150<a.size) (h2 : ¬ 150<b.size)
include ha hb hl h1 h2
theorem Qd {v:RV} {e:Int} (hP:callL Tryz.prog zD 15 [.agg (nP a b).cells,.sl (yC L) false,.sl (zS I) false]=some (qc v.cells e)) (he:e≠0):callL Tryz.prog zD 5 [.agg a.cells,.agg b.cells,.sl (yC L) false,.sl (zS I) false]=some (.bool true):=by
 have aw:=Xe;have lo:=fun S=>zF (S:=S) hl (by simp[Node.plain,zh.sl]);have sa:=fun S=>kj S a ha;have sb:=fun S=>kj S b hb;have o1:=zFY;have o2:=zFZ;have rv:=fun S=>zF (S:=S) hP (by simp[Node.plain,zh.sl]);unfold qc RV.cells nP at *;apply FX.callB2 ok5_ 1000 rfl rfl;((repeat((conv=>lhs;whnf);simp only[go_sem,simprocAttr,aw,lo,sa,sb,h1,h2,o1,o2,rv,he,zj]));try rfl)
theorem Qe {v:RV} (hP:callL Tryz.prog zD 15 [.agg (nP a b).cells,.sl (yC L) false,.sl (zS I) false]=some (qc v.cells 0)) (hg:callL Tryz.prog zD 13 [.agg (nP a b).cells,.sl (yC L) false,.sl (zS I) false]=some (.bool true)):callL Tryz.prog zD 5 [.agg a.cells,.agg b.cells,.sl (yC L) false,.sl (zS I) false]=some (.bool true):=by
 have aw:=Xe;have lo:=fun S=>zF (S:=S) hl (by simp[Node.plain,zh.sl]);have sa:=fun S=>kj S a ha;have sb:=fun S=>kj S b hb;have o1:=zFY;have o2:=zFZ;have rv:=fun S=>zF (S:=S) hP (by simp[Node.plain,zh.sl]);have lg:=fun S=>zF (S:=S) hg (by simp[Node.plain,zh.sl]);unfold qc RV.cells nP at *;apply FX.callB2 ok5_ 1000 rfl rfl;((repeat((conv=>lhs;whnf);simp only[go_sem,simprocAttr,aw,lo,sa,sb,h1,h2,o1,o2,rv,lg,zj]));try rfl)
theorem Qf {v w:RV} {e:Int} (hP:callL Tryz.prog zD 15 [.agg (nP a b).cells,.sl (yC L) false,.sl (zS I) false]=some (qc v.cells 0)) (hg:callL Tryz.prog zD 13 [.agg (nP a b).cells,.sl (yC L) false,.sl (zS I) false]=some (.bool false)) (hQ:callL Tryz.prog zD 15 [.agg (nQ a b).cells,.sl (yC L) false,.sl (zS I) false]=some (qc w.cells e)) (he:e≠0):callL Tryz.prog zD 5 [.agg a.cells,.agg b.cells,.sl (yC L) false,.sl (zS I) false]=some (.bool true):=by
 have aw:=Xe;have lo:=fun S=>zF (S:=S) hl (by simp[Node.plain,zh.sl]);have sa:=fun S=>kj S a ha;have sb:=fun S=>kj S b hb;have o1:=zFY;have o2:=zFZ;have rv:=fun S=>zF (S:=S) hP (by simp[Node.plain,zh.sl]);have lg:=fun S=>zF (S:=S) hg (by simp[Node.plain,zh.sl]);have rq:=fun S=>zF (S:=S) hQ (by simp[Node.plain,zh.sl]);unfold qc RV.cells nP nQ at *;apply FX.callB2 ok5_ 1000 rfl rfl;((repeat((conv=>lhs;whnf);simp only[go_sem,simprocAttr,aw,lo,sa,sb,h1,h2,o1,o2,rv,lg,rq,he,zj]));try rfl)
theorem Qg {v w:RV} (hP:callL Tryz.prog zD 15 [.agg (nP a b).cells,.sl (yC L) false,.sl (zS I) false]=some (qc v.cells 0)) (hg:callL Tryz.prog zD 13 [.agg (nP a b).cells,.sl (yC L) false,.sl (zS I) false]=some (.bool false)) (hQ:callL Tryz.prog zD 15 [.agg (nQ a b).cells,.sl (yC L) false,.sl (zS I) false]=some (qc w.cells 0)) (hg':callL Tryz.prog zD 13 [.agg (nQ a b).cells,.sl (yC L) false,.sl (zS I) false]=some (.bool true)):callL Tryz.prog zD 5 [.agg a.cells,.agg b.cells,.sl (yC L) false,.sl (zS I) false]=some (.bool true):=by
 have aw:=Xe;have lo:=fun S=>zF (S:=S) hl (by simp[Node.plain,zh.sl]);have sa:=fun S=>kj S a ha;have sb:=fun S=>kj S b hb;have o1:=zFY;have o2:=zFZ;have rv:=fun S=>zF (S:=S) hP (by simp[Node.plain,zh.sl]);have lg:=fun S=>zF (S:=S) hg (by simp[Node.plain,zh.sl]);have rq:=fun S=>zF (S:=S) hQ (by simp[Node.plain,zh.sl]);have lq:=fun S=>zF (S:=S) hg' (by simp[Node.plain,zh.sl]);unfold qc RV.cells nP nQ at *;apply FX.callB2 ok5_ 1000 rfl rfl;((repeat((conv=>lhs;whnf);simp only[go_sem,simprocAttr,aw,lo,sa,sb,h1,h2,o1,o2,rv,lg,rq,lq,zj]));try rfl)
theorem zHd {v w x y:RV} (hP:callL Tryz.prog zD 15 [.agg (nP a b).cells,.sl (yC L) false,.sl (zS I) false]=some (qc v.cells 0)) (hg:callL Tryz.prog zD 13 [.agg (nP a b).cells,.sl (yC L) false,.sl (zS I) false]=some (.bool false)) (hQ:callL Tryz.prog zD 15 [.agg (nQ a b).cells,.sl (yC L) false,.sl (zS I) false]=some (qc w.cells 0)) (hg':callL Tryz.prog zD 13 [.agg (nQ a b).cells,.sl (yC L) false,.sl (zS I) false]=some (.bool false))
  (kS:callL Tryz.prog zD 14 [.agg (nS a b).cells,.sl (yC L) false,.sl (zS I) false]=some (qc x.cells 0)) (kY:callL Tryz.prog zD 14 [.agg (nY a b).cells,.sl (yC L) false,.sl (zS I) false]=some (qc x.cells 0))
  (kP:callL Tryz.prog zD 14 [.agg (nP a b).cells,.sl (yC L) false,.sl (zS I) false]=some (qc y.cells 0)) (kQ:callL Tryz.prog zD 14 [.agg (nQ a b).cells,.sl (yC L) false,.sl (zS I) false]=some (qc y.cells 0))
  (x1:x.num.length≤3000000) (x2:x.den.length≤3000000) (y1:y.num.length≤3000000) (y2:y.den.length≤3000000):callL Tryz.prog zD 5 [.agg a.cells,.agg b.cells,.sl (yC L) false,.sl (zS I) false]=some (.bool true):=by
 have aw:=Xe;have lo:=fun S=>zF (S:=S) hl (by simp[Node.plain,zh.sl]);have sa:=fun S=>kj S a ha;have sb:=fun S=>kj S b hb;have o1:=zFY;have o2:=zFZ;have rv:=fun S=>zF (S:=S) hP (by simp[Node.plain,zh.sl]);have lg:=fun S=>zF (S:=S) hg (by simp[Node.plain,zh.sl]);have rq:=fun S=>zF (S:=S) hQ (by simp[Node.plain,zh.sl]);have lq:=fun S=>zF (S:=S) hg' (by simp[Node.plain,zh.sl]);have pS:=fun S=>zF (S:=S) kS (by simp[Node.plain,zh.sl]);have pY:=fun S=>zF (S:=S) kY (by simp[Node.plain,zh.sl]);have pP:=fun S=>zF (S:=S) kP (by simp[Node.plain,zh.sl]);have pQ:=fun S=>zF (S:=S) kQ (by simp[Node.plain,zh.sl]);have s1:=fun S=>zF (S:=S) (V5 x x x1 x2) (by simp[kW]);have s2:=fun S=>zF (S:=S) (V5 y y y1 y2) (by simp[kW]);rw[zFD]at s1 s2;unfold qc RV.cells nP nQ nS nY at *;apply FX.callB2 ok5_ 1000 rfl rfl;((repeat((conv=>lhs;whnf);simp only[go_sem,simprocAttr,aw,lo,sa,sb,h1,h2,o1,o2,rv,lg,rq,lq,pS,pY,pP,pQ,s1,s2,zj]));try rfl)
end
theorem Vf {L:List Bd} {I:List Pr} {a b:Node} (hL:WZ L) (hI : ∀p∈I,p.ok) (ha:a.ok) (hb:b.ok) (hp : ∀p∈I,p.wth.count≤1000000000∧p.what.count≤1000000000) (ca:a.count≤1000000000) (cb:b.count≤1000000000):callL Tryz.prog zD 5 [.agg a.cells,.agg b.cells,.sl (yC L) false,.sl (zS I) false]=some (.bool true):=by
 have hl:callL Tryz.prog zD 9 [.sl (yC L) false,.sl (zS I) false,.agg a.cells]=some (.bool (XM L.length I a)):=zHM ((zPd (yC L) false).trans (by simp[yC])) I a hI ha;by_cases hh:XM L.length I a=false∨150<a.size∨150<b.size
 ·exact Qc ha hb hl hh
 have e:XM L.length I a=true:=by
  cases e:XM L.length I a
  ·exact absurd (.inl e) hh
  ·rfl
 have h1 : ¬ 150<a.size:=fun h=>hh (.inr (.inl h));have h2 : ¬ 150<b.size:=fun h=>hh (.inr (.inr h));rw[e]at hl;obtain⟨l1,l2,l3,l4⟩:=zEu hp ca e;have sa:=ky a ca;have sb:=ky b cb;have ca':a.count≤150:=by omega
 have cb':b.count≤150:=by omega
 have li : ∀n:Node,n.ok→n.count≤1000→Light L I n:=fun n hn hc=>⟨hL,l1,hI,l2,fun p hp=>(l4 p hp).2,hn,hc⟩;have kP:(nP a b).ok:=US (by decide) (UT (by decide) ha hb);have kQ:(nQ a b).ok:=UT (by decide) (UT (by decide) (US (by decide) ha) hb) (UT (by decide) ha (US (by decide) hb));have kS:(nS a b).ok:=US (by decide) (UT (by decide) ha hb);have kY:(nY a b).ok:=UT (by decide) (US (by decide) ha) (US (by decide) hb);have lP:=li _ kP (by unfold nP;rw[qG,qs];omega);have lQ:=li _ kQ (by unfold nQ;simp only[qG,qs];omega);have lS:=li _ kS (by unfold nS;simp only[qG,qs];omega);have lY:=li _ kY (by unfold nY;simp only[qG,qs];omega);obtain⟨v,e1,hP,z1⟩:=Yi lP;by_cases c1:e1=0
 case neg=>exact Qd ha hb hl h1 h2 hP c1
 have sP:=z1 c1;subst c1;have gP:=WE lP sP
 cases xP:val 200 L I (nP a b) (0,0) false with
 | none=>rw[xP]at gP;exact Qe ha hb hl h1 h2 hP gP
 | some p =>
 rw[xP]at gP;obtain⟨w,e2,hQ,z2⟩:=Yi lQ;by_cases c2:e2=0
 case neg=>exact Qf ha hb hl h1 h2 hP gP hQ c2
 have sQ:=z2 c2;subst c2;have gQ:=WE lQ sQ
 cases xQ:val 200 L I (nQ a b) (0,0) false with
 | none=>rw[xQ]at gQ;exact Qg ha hb hl h1 h2 hP gP hQ gQ
 | some q =>
 rw[xQ]at gQ;obtain⟨⟨na,nb⟩,sS,sY⟩:=zTP ca' cb' sP;obtain⟨_,t2,t3,_⟩:=jF sP;have pq:=zMc (Vc t3) na nb xP xQ;obtain⟨x,vS,vY,fx⟩:=zMd (st:=L) (I:=I) (a:=a) (b:=b) xP;have vP:=ji lP sP (zFK (show 200≤4096 by omega) xP);have vQ:=ji lQ sQ (zFK (show 200≤4096 by omega) xQ);rw[←pq]at vQ;have fp:=uz (by omega) (YG (by omega) L I) (nP a b) _ _ _ (zz (by omega)) xP;exact zHd ha hb hl h1 h2 hP gP hQ gQ (x:=⟨yT x,words x.num.natAbs,words x.den⟩) (y:=⟨yT p.1,words p.1.num.natAbs,words p.1.den⟩) (ji lS sS vS) (ji lY sY vY) vP vQ (bO fx.1 (by omega)) (bO fx.2 (by omega)) (bO fp.1.1 (by omega)) (bO fp.1.2 (by omega))
theorem UU (pvs:List PV) (h:zBH Tryz.prog [30,30,35,22] pvs) (hb:uw pvs≤1048576):callL Tryz.prog zD 5 pvs=some (.bool true):=by
 obtain⟨x1,r1,k1,rfl,h1,t1⟩:=h.cons_inv;obtain⟨x2,r2,k2,rfl,h2,t2⟩:=t1.cons_inv;obtain⟨x3,r3,k3,rfl,h3,t3⟩:=t2.cons_inv;obtain⟨x4,r4,k4,rfl,h4,t4⟩:=t3.cons_inv;cases t4.nil_inv;obtain⟨a,ha,rfl⟩:=h1.node;obtain⟨b,hb',rfl⟩:=h2.node;obtain⟨L,_,hL,rfl⟩:=h3.state;obtain⟨I,_,hI,rfl⟩:=h4.prs;simp only[uw,pvB]at hb;have cna:=ZD a;have cnb:=ZD b;refine Vf hL hI ha hb' (fun p hp=>?_) (by omega) (by omega);have:=zFI I p hp;omega
end Go.Vs

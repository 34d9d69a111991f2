
import Derived.Test.YtkaeejkajfinhaaGreatMD9
import Derived.Test.YtkaeejkajfinhaaGreatMD18
import Derived.Test.YtkaeejkajfinhaaGreatMD20
set_option linter.unusedVariables false
set_option linter.unusedSimpArgs false
set_option maxRecDepth 100000
namespace Go.Vs
open Go Go.Proofs
section
theorem vv (id n:Nat) (is:List Nat) (rows:List (List PV)):zG Tryz.prog 28 id n is rows=if is=List.range n∧yO 6 rows=true∧(rows.all fun r=>r.all PV.cell)=true∧n*6≤16777216 then some {v:=.msl id 0 n true,new:=some (rows,some (some 6))} else none:=vq.buildSlice (by decide) id n is rows
theorem vO (a b c d e f:PV) (r:List PV):part (tyi Tryz.prog 30) (a::b::c::d::e::f::r)=some (.agg [a,b,c,d,e,f]):=by simp[part,jT,TI.isAgg,Yj,ZT]
def J8 (o:Int) (nm:ByteArray):Node:=.mk o nm false [] [] []
def zCV (o:Int) (nm:ByteArray):Node:=.mk o nm false [] [] [J5]
def Node.head (n:Node):Node:=if n.kids.length≠0 then zCV n.op n.name else J8 n.op n.name
theorem Xc {n:Node} (h:n.op=10∨n.op=37):n.sym=n.head:=by
 unfold Node.sym Node.head J8 zCV;have:yP n.op=true:=by rcases h with h | h <;> rw[h] <;> rfl
 rw[bA this];by_cases hk:n.kids.length≠0
 ·rw[bA ⟨h,hk⟩,bA hk]
 ·rw[hZ (fun x=>hk x.2),hZ hk]
theorem qp {n:Node} (h:n.op=11∨n.op=38∨n.op=61∨n.op=62∨n.op=56):n.sym=J8 n.op n.name:=by
 unfold Node.sym J8;have:yP n.op=true:=by rcases h with h | h | h | h | h <;> rw[h] <;> rfl
 rw[bA this,hZ (fun x=>by omega)]
theorem zEl {n:Node} (h:yP n.op=false):n.sym=nd0:=by
 unfold Node.sym;rw[h];rfl
theorem zLg (S:zB) (m:Node) (b:Bool):vI S (.tup [.agg m.cells,.bool b])=some (.tup [.agg m.cells,.bool b]):=by cases m;rfl
section
attribute [local irreducible] Vs.callL Vs.callRL tyi zO zn zg zR zY za zI zZ zA zK ze zX zG zJ zW zr yJ zq zL zf Vs.gc zH
noncomputable def zS4:FX:=⟨Tryz.f79,zD.of 79,[]⟩
instance ok79_:zS4.ok 79:=FX.mk'
theorem zEm (n:Node):callL Tryz.prog zD 79 [.agg n.cells]=some (.tup [.agg n.sym.cells,.bool (yP n.op)]):=by
 by_cases e10:n.op=10
 ·have ei:yP n.op=true:=by rw[e10];rfl
  rw[Xc (by omega),ei];unfold Node.head;by_cases hk:n.kids.length=0
  ·have hk' : ¬ 0<(n.kids.length:Int):=by omega
   rw[hZ (by omega),e10];apply FX.callV ok79_ 1000 rfl rfl
   ·((repeat((conv=>lhs;whnf);simp only[go_sem,simprocAttr,e10,hk',zj,vv,vO,vr,vF]));try rfl)
   ·rfl
  ·have hk':0<(n.kids.length:Int):=by omega
   rw[bA hk,e10];apply FX.callV ok79_ 1000 rfl rfl
   ·((repeat((conv=>lhs;whnf);simp only[go_sem,simprocAttr,e10,hk',zj,vv,vO,vr,vF]));try rfl)
   ·rfl
 by_cases e37:n.op=37
 ·have ei:yP n.op=true:=by rw[e37];rfl
  rw[Xc (by omega),ei];unfold Node.head;by_cases hk:n.kids.length=0
  ·have hk' : ¬ 0<(n.kids.length:Int):=by omega
   rw[hZ (by omega),e37];apply FX.callV ok79_ 1000 rfl rfl
   ·((repeat((conv=>lhs;whnf);simp only[go_sem,simprocAttr,e37,hk',zj,vv,vO,vr,vF]));try rfl)
   ·rfl
  ·have hk':0<(n.kids.length:Int):=by omega
   rw[bA hk,e37];apply FX.callV ok79_ 1000 rfl rfl
   ·((repeat((conv=>lhs;whnf);simp only[go_sem,simprocAttr,e37,hk',zj,vv,vO,vr,vF]));try rfl)
   ·rfl
 by_cases e11:n.op=11
 ·have ei:yP n.op=true:=by rw[e11];rfl
  rw[qp (by omega),ei,e11];apply FX.callV ok79_ 1000 rfl rfl
  ·((repeat((conv=>lhs;whnf);simp only[go_sem,simprocAttr,e11,zj,vv,vO,vr,vF]));try rfl)
  ·rfl
 by_cases e38:n.op=38
 ·have ei:yP n.op=true:=by rw[e38];rfl
  rw[qp (by omega),ei,e38];apply FX.callV ok79_ 1000 rfl rfl
  ·((repeat((conv=>lhs;whnf);simp only[go_sem,simprocAttr,e38,zj,vv,vO,vr,vF]));try rfl)
  ·rfl
 by_cases e61:n.op=61
 ·have ei:yP n.op=true:=by rw[e61];rfl
  rw[qp (by omega),ei,e61];apply FX.callV ok79_ 1000 rfl rfl
  ·((repeat((conv=>lhs;whnf);simp only[go_sem,simprocAttr,e61,zj,vv,vO,vr,vF]));try rfl)
  ·rfl
 by_cases e62:n.op=62
 ·have ei:yP n.op=true:=by rw[e62];rfl
  rw[qp (by omega),ei,e62];apply FX.callV ok79_ 1000 rfl rfl
  ·((repeat((conv=>lhs;whnf);simp only[go_sem,simprocAttr,e62,zj,vv,vO,vr,vF]));try rfl)
  ·rfl
 by_cases e56:n.op=56
 ·have ei:yP n.op=true:=by rw[e56];rfl
  rw[qp (by omega),ei,e56];apply FX.callV ok79_ 1000 rfl rfl
  ·((repeat((conv=>lhs;whnf);simp only[go_sem,simprocAttr,e56,zj,vv,vO,vr,vF]));try rfl)
  ·rfl
 have ei:yP n.op=false:=by simp only[yP,e10,e11,e37,e38,e61,e62,e56,decide_false,sX]
 rw[zEl ei,ei];apply FX.callV ok79_ 1000 rfl rfl
 ·((repeat((conv=>lhs;whnf);simp only[go_sem,simprocAttr,e10,e11,e37,e38,e61,e62,e56,zj,vv,vO,vr,vF]));try rfl)
 ·rfl
theorem ja (S:zB) (n:Node):zO (callL Tryz.prog zD) S 79 [.agg n.cells]=some {v:=.tup [.agg n.sym.cells,.bool (yP n.op)]} := uQ S (zEm n)
noncomputable def zS5:FX:=⟨Tryz.f38,zD.of 38,[]⟩
instance ok38_:zS5.ok 38:=FX.mk'
theorem Q0 (n:Node):callL Tryz.prog zD 38 [.agg n.cells]=some (.tup [.agg n.sym.cells,.bool (yP n.op)]):=by
 refine FX.callV (r:=(.tup [.agg n.sym.cells,.bool (yP n.op)],[.arr [n.cells] none false,.arr [n.sym.cells] none false])) ok38_ 1000 rfl rfl ?_ (zLg _ _ _);((repeat((conv=>lhs;whnf);simp only[go_sem,simprocAttr,ja]));try rfl)
theorem wP (S:zB) (n:Node):zO (callL Tryz.prog zD) S 38 [.agg n.cells]=some {v:=.tup [.agg n.sym.cells,.bool (yP n.op)]} := uQ S (Q0 n)
noncomputable def zPp:FX:=⟨Tryz.f134,zD.of 134,[]⟩
instance ok134_:zPp.ok 134:=FX.mk'
theorem zJf (n:Node):callL Tryz.prog zD 134 [.agg n.cells]=some (.agg n.head.cells):=by
 unfold Node.head;by_cases hk:n.kids.length=0
 ·have hk' : ¬ 0<(n.kids.length:Int):=by omega
  rw[hZ (by omega)];apply FX.callV ok134_ 1000 rfl rfl
  ·((repeat((conv=>lhs;whnf);simp only[go_sem,simprocAttr,hk',zj,vv,vO,vr,vF]));try rfl)
  ·rfl
 ·have hk':0<(n.kids.length:Int):=by omega
  rw[bA hk];apply FX.callV ok134_ 1000 rfl rfl
  ·((repeat((conv=>lhs;whnf);simp only[go_sem,simprocAttr,hk',zj,vv,vO,vr,vF]));try rfl)
  ·rfl
theorem zPq (S:zB) (n:Node):zO (callL Tryz.prog zD) S 134 [.agg n.cells]=some {v:=.agg n.head.cells} := uQ S (zJf n)
def Node.isSymbol (n:Node):Bool :=
 (yP n.op&&(yQ n.name&&(!n.neg&&(decide (n.num.length=0)&&decide (n.den.length=0))))) &&
 (decide (n.kids.length=0)||(decide (n.kids.length=1)&&((decide (n.op=10)||decide (n.op=37))&&decide ((n.kids.getD 0 nd0).cmp J5=0))))
theorem VZ:J5.ok:=by
 refine⟨by decide,by decide,⟨?_,?_,by decide,by decide⟩,by decide,trivial⟩
 ·intro w h;cases h
 ·intro w h;cases h
theorem zPr (S:zB) (n:Node) (h:n.ok):zO (callL Tryz.prog zD) S 43 [.agg n.cells,.agg [.int .i64 13,.str ⟨#[]⟩,.bool false,.sl [] true,.sl [] true,.sl [] true]]=some {v:=.bool (decide (n.cmp J5=0))} := by
 refine zIy (Ub n J5 h VZ) n.plain.fz ⟨rfl,fun S=>rfl⟩
noncomputable def zS6:FX:=⟨Tryz.f42,zD.of 42,[]⟩
instance ok42_:zS6.ok 42:=FX.mk'
theorem Q1 (n:Node) (hn:n.ok):callL Tryz.prog zD 42 [.agg n.cells]=some (.bool n.isSymbol):=by
 unfold Node.isSymbol
 cases e1:yP n.op
 ·rw[bB,bB];apply FX.callB2 ok42_ 1000 rfl rfl;((repeat((conv=>lhs;whnf);simp only[go_sem,simprocAttr,vu,e1]));try rfl)
 cases e2:yQ n.name
 ·rw[bB,bQ,bB];apply FX.callB2 ok42_ 1000 rfl rfl;((repeat((conv=>lhs;whnf);simp only[go_sem,simprocAttr,vu,e1,yL,e2]));try rfl)
 cases e3:n.neg
 case true =>
  rw[bT,bB,bQ,bQ,bB];apply FX.callB2 ok42_ 1000 rfl rfl;((repeat((conv=>lhs;whnf);simp only[go_sem,simprocAttr,vu,e1,yL,e2,e3]));try rfl)
 by_cases e4:n.num.length=0
 case neg =>
  have e4':0<(n.num.length:Int):=by omega
  rw[bI e4,bB,bQ,bQ,bQ,bB];apply FX.callB2 ok42_ 1000 rfl rfl;((repeat((conv=>lhs;whnf);simp only[go_sem,simprocAttr,vu,e1,yL,e2,e3,e4']));try rfl)
 have e4' : ¬ 0<(n.num.length:Int):=by omega
 by_cases e5:n.den.length=0
 case neg =>
  have e5':0<(n.den.length:Int):=by omega
  rw[bI e5,bQ,bQ,bQ,bQ,bB];apply FX.callB2 ok42_ 1000 rfl rfl;((repeat((conv=>lhs;whnf);simp only[go_sem,simprocAttr,vu,e1,yL,e2,e3,e4',e5']));try rfl)
 have e5' : ¬ 0<(n.den.length:Int):=by omega
 rw[bH e4,bH e5,bK,sH,sH,sH,sH,bC];by_cases e6:n.kids.length=0
 ·have e6':(n.kids.length:Int)=0:=by omega
  rw[bH e6,pI];apply FX.callB2 ok42_ 1000 rfl rfl;((repeat((conv=>lhs;whnf);simp only[go_sem,simprocAttr,vu,e1,yL,e2,e3,e4',e5',e6']));try rfl)
 have e6' : ¬(n.kids.length:Int)=0:=by omega
 have x0:(0:Int)<(n.kids.length:Int):=by omega
 rw[bI e6,bX];by_cases e7:n.kids.length=1
 case neg =>
  have e7' : ¬(n.kids.length:Int)=1:=by omega
  rw[bI e7,bB];apply FX.callB2 ok42_ 1000 rfl rfl;((repeat((conv=>lhs;whnf);simp only[go_sem,simprocAttr,vu,e1,yL,e2,e3,e4',e5',e6',e7',x0,sI,zj]));try rfl)
 have e7':(n.kids.length:Int)=1:=by omega
 have hk:=hn.kids _ (yA (l:=n.kids) (i:=0) (by omega));have hc:=fun S=>zPr S _ hk;rw[bH e7,bC];by_cases e10:n.op=10
 ·rw[e10]at e1;have o1:(decide (n.op=10)||decide (n.op=37))=true:=by rw[e10];rfl
  rw[o1,bC];apply FX.callB2 ok42_ 1000 rfl rfl;((repeat((conv=>lhs;whnf);simp only[go_sem,simprocAttr,vu,e1,yL,e2,e3,e4',e5',e6',e7',x0,sI,zj,e10,hc,Int.reduceLT,Int.reduceEq]));try rfl)
 by_cases e37:n.op=37
 ·rw[e37]at e1;have o1:(decide (n.op=10)||decide (n.op=37))=true:=by rw[e37];rfl
  rw[o1,bC];apply FX.callB2 ok42_ 1000 rfl rfl;((repeat((conv=>lhs;whnf);simp only[go_sem,simprocAttr,vu,e1,yL,e2,e3,e4',e5',e6',e7',x0,sI,zj,e37,hc,Int.reduceLT,Int.reduceEq]));try rfl)
 rw[bI e10,bI e37,sX,bB];apply FX.callB2 ok42_ 1000 rfl rfl;((repeat((conv=>lhs;whnf);simp only[go_sem,simprocAttr,vu,e1,yL,e2,e3,e4',e5',e6',e7',x0,sI,zj,e10,e37,Int.reduceLT,Int.reduceEq]));try rfl)
theorem zHF (S:zB) (n:Node) (hn:n.ok):zO (callL Tryz.prog zD) S 42 [.agg n.cells]=some {v:=.bool n.isSymbol} := uQ S (Q1 n hn)
end
end
theorem qM (x y:Int):qz x y=0↔x=0∧y=0:=by
 unfold qz;by_cases h:x=0 <;> simp[h]
theorem Ze (a b:Int):ul a b=0↔a=b:=by unfold ul;omega
theorem zJg {a b:ByteArray} (h:a.toList=b.toList):a=b:=by
 rw[ByteArray.toList_eq,ByteArray.toList_eq]at h;obtain⟨x⟩:=a;obtain⟨y⟩:=b
 congr 1
 exact Array.ext' h
theorem Us (a b:ByteArray):UA a b=0↔a=b:=by
 unfold UA;by_cases h:a.toList=b.toList
 ·have:=zJg h;simp[h,this]
 ·have h2:a≠b:=fun e=>h (by rw[e]);simp[h,h2,Xb]
theorem Ut (a b:Bool):UB a b=0↔a=b:=by
 unfold UB;by_cases h:a=b <;> simp[h,Xb]
theorem YE (a b:List Int) : ∀m,jU a b m=0↔∀i,i<m→a.getD i 0=b.getD i 0
 | 0=>by simp[jU]
 | m+1=>by
  rw[jU,qM,Ze,YE a b m];constructor
  ·rintro⟨h1,h2⟩ i hi
   by_cases e:i=m
   ·rw[e];exact h1
   ·exact h2 i (by omega)
  ·intro h;exact⟨h m (by omega),fun i hi=>h i (by omega)⟩
theorem V0 (a b:List Int):wM a b=0↔a=b:=by
 unfold wM;rw[qM,Ze,YE];constructor
 ·rintro⟨h1,h2⟩
  have hl:a.length=b.length:=by omega
  refine List.ext_getElem hl fun i h3 h4=>?_;have:=h2 i h3
  simpa [bM,h3,h4] using this
 ·rintro rfl
  exact⟨rfl,fun _ _=>rfl⟩
mutual
theorem cmp_eq : ∀a b:Node,a.cmp b=0↔a=b
 | .mk o nm ng nu de f,.mk o' nm' ng' nu' de' f'=>by
  have hk:=zIN f f';rw[Node.cmp_eq];simp only[qM,Ze,Us,Ut,V0,Node.op,Node.name,Node.neg,Node.num,Node.den,Node.kids,Node.mk.injEq];constructor
  ·rintro⟨h1,h2,h3,h4,h5,h6,h7⟩
   exact⟨h1,h2,h3,h4,h5,(hk (by omega)).1 h7⟩
  ·rintro⟨h1,h2,h3,h4,h5,h6⟩
   exact⟨h1,h2,h3,h4,h5,by rw[h6],(hk (by rw[h6])).2 h6⟩
theorem zIN : ∀a b:List Node,a.length=b.length→(Node.cmps a b=0↔a=b)
 | [],[],_=>by simp[Node.cmps]
 | n::r,m::s,h=>by
  have h1:=cmp_eq n m;have h2:=zIN r s (by simpa using h);rw[Node.cmps,qM,h1,h2];simp
end
mutual
def Node.syms:Node→List Node
 | .mk o nm ng nu de f=>(if yP o=true then [(Node.mk o nm ng nu de f).sym] else [])++Node.symss f
def Node.symss:List Node→List Node
 | []=>[]
 | n::r=>n.syms++Node.symss r
end
theorem Node.syms_eq (n:Node):n.syms=(if yP n.op=true then [n.sym] else [])++Node.symss n.kids:=by cases n;rfl
mutual
theorem kX : ∀n:Node,n.syms=[]↔n.has yP=false
 | .mk o nm ng nu de f=>by
  have h:=zA9 f;rw[Node.syms,Node.has]
  cases e:yP o
  ·simp[h]
  ·simp
theorem zA9 : ∀l:List Node,Node.symss l=[]↔Node.hass yP l=false
 | []=>by simp[Node.symss,Node.hass]
 | n::r=>by
  have h1:=kX n;have h2:=zA9 r;simp[Node.symss,Node.hass,h1,h2]
end
theorem zIO {n:Node} (h:n.ok):n.head.ok:=by
 unfold Node.head zCV J8;have hz:(RV.mk false [] []).ok:=VZ.val
 split
 ·exact⟨h.op,h.name,hz,by decide,VZ,trivial⟩
 ·exact⟨h.op,h.name,hz,by decide,trivial⟩
theorem zPs:nd0.ok:=⟨by decide,by decide,VZ.val,by decide,trivial⟩
theorem Y5 {n:Node} (h:n.ok):n.sym.ok:=by
 cases e:yP n.op
 ·rw[zEl e];exact zPs
 ·by_cases hf:n.op=10∨n.op=37
  ·rw[Xc hf];exact zIO h
  ·rw[qp]
   ·exact⟨h.op,h.name,VZ.val,by decide,trivial⟩
   ·simp only[yP,HD,bR]at e;omega
theorem jD {S:zB} : xW S=true↔∀(j:Nat) (rows:List (List PV)) (g:Option (Option Nat)) (f:Bool),S[j]? = some (Obj.arr rows g f)→∀x∈zV rows,x<S.length:=by
 simp only[xW,pH];constructor
 ·intro h j rows g f hj x hx;have:=h _ (pF hj);simp only[pH,bR]at this;exact this x hx
 ·intro h o ho;obtain⟨j,hj⟩:=HJ ho;cases o with
  | gone=>rfl
  | arr rows g f =>
   simp only[pH,bR];exact h j rows g f hj
theorem ZA {S:zB} (h:xW S=true) (j:Nat) {rows:List (List PV)} {g:Option (Option Nat)} {f:Bool} (hr : ∀x∈zV rows,x<S.length):xW (S.set j (.arr rows g f))=true:=by
 rw[jD]at h ⊢;intro i rows' g' f' hi x hx;rw[aY];by_cases e:j=i
 ·subst e;rw[HX]at hi
  split at hi
  ·split at hi
   ·simp only[Option.some.injEq,Obj.arr.injEq]at hi;exact hr x (by rw[hi.1];exact hx)
   ·cases hi
  ·exact absurd rfl (by assumption)
 ·rw[aL e]at hi;exact h i rows' g' f' hi x hx
theorem zEn {S:zB} (h:xW S=true) (j:Nat):xW (S.set j .gone)=true:=by
 rw[jD]at h ⊢;intro i rows' g' f' hi x hx;rw[aY];by_cases e:j=i
 ·subst e;rw[HX]at hi
  split at hi
  ·split at hi
   ·cases hi
   ·cases hi
  ·exact absurd rfl (by assumption)
 ·rw[aL e]at hi;exact h i rows' g' f' hi x hx
theorem qD {S U:zB} (h:xW S=true) (k:kG U):xW (S++U)=true:=by
 rw[jD]at h ⊢;intro i rows' g' f' hi x hx;rw[bN];by_cases e:i<S.length
 ·rw[sK e]at hi;have:=h i rows' g' f' hi x hx;omega
 ·rw[pA (by omega)]at hi;obtain⟨r,g,f,e1,e2⟩:=k _ (pF hi);cases e1;rw[e2]at hx;cases hx
theorem zHG (ids:List Nat) (v:PV) : ∀x∈(wZ ids v).refs,x∈v.refs:=by
 intro x hx;unfold wZ at hx
 split at hx
 ·cases hx
 ·exact hx
theorem J9 (ids:List Nat) : ∀l:List PV,∀x∈vX (l.map (wZ ids)),x∈vX l
 | [],x,hx=>hx
 | v::r,x,hx=>by
  rw[sD,yR]at hx;rw[yR]
  rcases sG.1 hx with h | h
  ·exact ST _ (zHG ids v x h)
  ·exact SO _ (J9 ids r x h)
theorem WA (ids:List Nat) : ∀rows:List (List PV),∀x∈zV (rows.map fun r=>r.map (wZ ids)),x∈zV rows
 | [],x,hx=>hx
 | v::r,x,hx=>by
  rw[sD,yq]at hx;rw[yq]
  rcases sG.1 hx with h | h
  ·exact ST _ (J9 ids v x h)
  ·exact SO _ (WA ids r x h)
theorem Q2 (ids:List Nat) (rows:List (List PV)) : ∀x∈zV (vZ ids rows),x∈zV rows:=by
 intro x hx;unfold vZ at hx
 split at hx
 ·exact WA ids rows x hx
 ·exact hx
theorem zEo {S:zB} (h:xW S=true) (ids:List Nat):xW (S.map (yu ids))=true:=by
 rw[jD]at h ⊢;intro i rows' g' f' hi x hx;rw[BX];rw[sC]at hi
 cases e:S[i]? with
 | none=>rw[e]at hi;cases hi
 | some o =>
  rw[e]at hi;cases o with
  | gone=>cases hi
  | arr rows g f =>
   simp only[pE,XD,Option.some.injEq,Obj.arr.injEq]at hi;rw[←hi.1]at hx;exact h i rows g f e x (Q2 ids rows x hx)
theorem zJh {S:zB} (h:xW S=true) (n:Nat) (e:Env):xW (Vs.gc n e S)=true:=by
 unfold Vs.gc
 split
 case isFalse=>exact h
 rename_i hc;obtain⟨_,h2⟩:=hc;rw[pH]at h2;rw[jD]at h ⊢;intro i rows g f hi x hx;have hl:=(bS.1 hi).1;have hm:=h2 _ (pF hi);simp only[pH,bR]at hm;have h3:=hm x hx;have h4:S[i]? = some (.arr rows g f):=by
  rw[HE]at hi
  split at hi
  ·exact hi
  ·cases hi
 have h5:=h i rows g f h4 x hx;rw[sM];omega
theorem V1 {ti:TI} {S:zB} {id i sz:Nat} {rows:List (List PV)} {g:Option (Option Nat)} {v:PV} (hk:ti.known=true) (hs:ti.size=sz) (h:S[id]? = some (.arr rows g false)) (hi:i<rows.length) (hr:(rows.getD i []).length=sz) (hv:v.cells.length=sz) (hc:v.cells.all PV.cell=true):zY ti S (.mp id i 0) v=some {v:=.skip,S:=S.set id (.arr (rows.set i v.cells) g false)} := by
 rw[Vo,bA hk];have:yW ti.size S (.mp id i 0) v=some (S.set id (.arr (rows.set i v.cells) g false)):=by
  simp only[yW,h,hs];rw[bA ⟨hi,by omega,hv,hc⟩,zAE,bA ⟨rfl,by omega⟩]
 rw[this];rfl
theorem jb (S U:zB):zl (S++U) S.length=zl U 0:=ZU S U
theorem kI (S:zB) (o:Obj) (U:zB):zl (S++o::U) (S.length+1)=zl U 0:=by
 have:S++o::U=(S++[o])++U:=by simp
 rw[this];have e:S.length+1=(S++[o]).length:=by simp
 rw[e];exact ZU _ U
theorem ut {S:zB} {j:Nat} {rows:List (List PV)} {g:Option (Option Nat)} {f:Bool} (h:S[j]? = some (.arr rows g f)) (U:zB):(S++U)[j]? = some (.arr rows g f):=by
 rw[sK (bS.1 h).1];exact h
theorem kZ (S:zB) (n:Node):zY (tyi Tryz.prog 30) (S++[.arr [[.int .i64 0,.str ⟨#[]⟩,.bool false,.sl [] true,.sl [] true,.sl [] true]] none false]) (.mp S.length 0 0) (.agg n.cells)=some {v:=.skip,S:=S++[.arr [n.cells] none false]} := by
 rw[V1 (sz:=6) (v:=.agg n.cells) (i:=0) (id:=S.length) (rows:=[[.int .i64 0,.str ⟨#[]⟩,.bool false,.sl [] true,.sl [] true,.sl [] true]]) (g:=none) jT ZT (by simp) (by decide) rfl (Node.cells_length n) (Node.cells_cell n)];simp[PI,zDX]
theorem jE (S:zB) (o:Obj) (n:Node):zY (tyi Tryz.prog 30) (S++[o,.arr [[.int .i64 0,.str ⟨#[]⟩,.bool false,.sl [] true,.sl [] true,.sl [] true]] none false]) (.mp (S.length+1) 0 0) (.agg n.cells)=some {v:=.skip,S:=S++[o,.arr [n.cells] none false]} := by
 have:=kZ (S++[o]) n
 simpa using this
section
inductive OutN (S:zB):PV→List Node→Prop
 | nil:OutN S (.sl [] true) []
 | arr (id:Nat) (L:List Node) (h3:3≤id) (h:S[id]? = some (.arr (Node.rows L) (some (some 6)) false)):OutN S (.msl id 0 L.length false) L
structure OS (S:zB) (L:List Node):Prop where
 walk:S[2]? = some (.arr [[.fn 81 [] [.mp 1 0 0,.mp 2 0 0]]] none false)
 out : ∃v,S[1]? = some (.arr [[v]] none false)∧OutN S v L
 closed:xW S=true
theorem OS.len {S:zB} {L:List Node} (h:OS S L):3≤S.length:=by
 have:=(bS.1 h.walk).1;omega
theorem OS.ext {S:zB} {L:List Node} (h:OS S L) {U:zB} (hU:kG U):OS (S++U) L:=by
 obtain⟨v,h1,h2⟩:=h.out;refine⟨ut h.walk U,⟨v,ut h1 U,?_⟩,qD h.closed hU⟩;cases h2 with
 | nil=>exact .nil
 | arr id L h3 hh=>exact .arr id L h3 (ut hh U)
theorem OS.gc {S:zB} {L:List Node} (h:OS S L) {n:Nat} (hn:3≤n) (hl:n≤S.length) (e:Env):OS (Vs.gc n e S) L:=by
 obtain⟨v,h1,h2⟩:=h.out;obtain⟨g1,g2⟩:=zKq (n:=n) (e:=e) (S:=S) hl;refine⟨by rw[g2 2 (by omega)];exact h.walk,⟨v,by rw[g2 1 (by omega)];exact h1,?_⟩,zJh h.closed n e⟩;cases h2 with
 | nil=>exact .nil
 | arr id L h3 hh =>
  refine .arr id L h3 ?_;unfold Vs.gc
  split
  case isFalse=>exact hh
  rename_i hc;obtain⟨_,hc2⟩:=hc;rw[pH]at hc2;have hm:(S.take n)[1]? = some (.arr [[.msl id 0 L.length false]] none false):=by rw[aC (by omega)];exact h1
  have:=hc2 _ (pF hm);simp only[pH,bR]at this;have hid:id<n:=this id (by simp[yq,yR,wQ,yy,XC]);rw[aC hid];exact hh
theorem UI (L:List Node) {i:Nat} (h:i<L.length):(Node.rows L).getD i []=(L.getD i nd0).cells:=by
 rw[Node.rows_eq];exact zBM L nd0 h
def zLh (S:zB) (f:PV) (n:Nat) (p:Nat→Bool):Prop:=∀i:Nat,i<n→zg Tryz.prog zD S f [.int .i64 i]=some {v:=.bool (p i),S:=S}
section
attribute [local irreducible] Vs.callL Vs.callRL tyi zO zn zg zR zY za zI zZ zA zK ze zX zG zJ zW zr yJ zq zL zf Vs.gc zH
theorem zCW {S:zB} {f:PV} {n:Nat} {p:Nat→Bool} (hf:zLh S f n p) (hn:n≤1000000000) : ∀(m i j:Nat),j-i≤m→i≤j→j≤n→∃r,i≤r∧r≤j∧zU S.length zL9 0 56 S.length [.blk 0,.seq 0 15] [(1,f),(5,.int .i64 i),(6,.int .i64 j)] S=some (.int .i64 r,S):=by
 have hg : ∀e,Vs.gc S.length e S=S:=fun e=>Kf (bF _);intro m
 induction m with
 | zero =>
  intro i j h1 h2 h4;have e:i=j:=by omega
  have c : ¬(i:Int)<(j:Int):=by omega
  refine⟨i,by omega,by omega,?_⟩;apply zC;(repeat((conv=>lhs;whnf);simp only[go_sem,simprocAttr,c,hg]));apply zN;((repeat((conv=>lhs;whnf);simp only[go_sem,simprocAttr]));try rfl)
 | succ m ih =>
  intro i j h1 h2 h4;by_cases c:i<j
  ·have c':(i:Int)<(j:Int):=by omega
   have w1:IntKind.i64.wrap ((i:Int)+j)=((i+j:Nat):Int):=by rw[bE];omega
   have w2:IntKind.u64.wrap ((i+j:Nat):Int)=((i+j:Nat):Int):=by rw[xL];omega
   have w3:((((i+j:Nat):Int)).fdiv (2^min 1 64))=(((i+j) / 2:Nat):Int):=by
    show (((i+j:Nat):Int)).fdiv 2=_
    rw[PB _ (by omega)];omega
   have w4:IntKind.i64.wrap ((((i+j) / 2:Nat)):Int)=(((i+j) / 2:Nat):Int):=by rw[bE];omega
   have ask:=hf ((i+j) / 2) (by omega);have zG2 : ¬(1:Int)<0:=by omega
   cases hp:p ((i+j) / 2)
   ·have w5:IntKind.i64.wrap ((((i+j) / 2:Nat):Int)+1)=(((i+j) / 2+1:Nat):Int):=by rw[bE];omega
    obtain⟨r,r1,r2,key⟩:=ih ((i+j) / 2+1) j (by omega) (by omega) h4;rw[hp]at ask;refine⟨r,by omega,r2,?_⟩;apply zC;(repeat((conv=>lhs;whnf);simp only[go_sem,simprocAttr,c',w1,w2,w3,w4,w5,ask,zG2,hg]));exact key
   ·obtain⟨r,r1,r2,key⟩:=ih i ((i+j) / 2) (by omega) (by omega) (by omega);rw[hp]at ask;refine⟨r,r1,by omega,?_⟩;apply zC;(repeat((conv=>lhs;whnf);simp only[go_sem,simprocAttr,c',w1,w2,w3,w4,ask,zG2,hg]));exact key
  ·have c' : ¬(i:Int)<(j:Int):=by omega
   refine⟨i,by omega,by omega,?_⟩;apply zC;(repeat((conv=>lhs;whnf);simp only[go_sem,simprocAttr,c',hg]));apply zN;((repeat((conv=>lhs;whnf);simp only[go_sem,simprocAttr]));try rfl)
theorem zCX {S:zB} {f:PV} {n:Nat} {p:Nat→Bool} (hf:zLh S f n p) (hn:n≤1000000000) : ∃r,r≤n∧callRL Tryz.prog zD 82 [.int .i64 n,f] S=some (.int .i64 r,S):=by
 obtain⟨r,_,h2,key⟩:=zCW hf hn n 0 n (by omega) (by omega) (bF _);refine⟨r,h2,?_⟩;refine FX.callRL (r:=(.int .i64 r,S)) ok82_ 1000 rfl rfl ?_;(repeat((conv=>lhs;whnf);simp only[go_sem,simprocAttr]));exact key
noncomputable def zS7:FX:=⟨Tryz.f83,zD.of 83,[]⟩
instance ok83_:zS7.ok 83:=FX.mk'
theorem zJi {S:zB} {id a:Nat} {L:List Node} {s:Node} (h1:zl S 1=some [[.msl id 0 L.length false]]) (h2:zl S id=some (Node.rows L)) (h3:zl S a=some [s.cells]) (hL : ∀m∈L,m.ok) (hs:s.ok) (i:Nat) (hi:i<L.length):callRL Tryz.prog zD 83 [.int .i64 i,.mp 1 0 0,.mp a 0 0] S=some (.bool (decide (0≤(L.getD i nd0).cmp s)),S):=by
 have ix:=vq.idxm (S:=S) (id:=id) (off:=0) (n:=L.length) (ex:=false) (rows:=Node.rows L) i h2 (by rw[Node.rows_length];omega) (Node.rows_ok L) hi;rw[pC]at ix;have gd:=UI L hi;have hc:=fun S=>WW S (VY _ (hL _ (yA hi)) s hs);refine FX.callRL (r:=(.bool (decide (0≤(L.getD i nd0).cmp s)),S)) ok83_ 1000 rfl rfl ?_;((repeat((conv=>lhs;whnf);simp only[go_sem,simprocAttr,h1,h2,h3,ix,gd,hi,hc]));try rfl)
end
end
def zc:List PV:=[.int .i64 0,.str ⟨#[]⟩,.bool false,.sl [] true,.sl [] true,.sl [] true]
theorem SlT.appOld {t el:TypeId} {sz bytes:Nat} (h:SlT t el sz bytes) {b:Nat} {S:zB} {id:Nat} {rows new:List (List PV)} {g:Option Nat} {p:PV} (hS:S[id]? = some (.arr rows (some g) false)) (hb : ¬b≤id) (hg:g=none∨g=some sz) (hp:RowsV S p new) (h1:yO sz rows=true) (h2:yO sz new=true) (h3:(rows.length+new.length)*bytes≤140737488355328) (h4:rows.length+new.length≤9223372036854775807) (h5:(zV rows++zV new).contains id=false) :
  zR Tryz.prog b t t S (.msl id 0 rows.length false) p=some {v:=.msl S.length 0 (rows.length+new.length) false,S:=((S.map (yu [id])).set id .gone)++[.arr (rows++new) (some (some sz)) false],kill:=[id]} := by
 have hk:=Wx (b:=0) (bytes:=bytes) (esz:=sz) (ex:=false) hS hp.rowsS (sN _) rfl hg h1 h2 h3 h4 h5;have hl:=(bS.1 hS).1;simp only[kM,bA (sN _)]at hk;have e:kM b bytes sz S (.msl id 0 rows.length false) p=some {v:=.msl S.length 0 (rows.length+new.length) false,S:=((S.map (yu [id])).set id .gone)++[.arr (rows++new) (some (some sz)) false],kill:=[id]} := by
  simp only[kM,hZ hb,hk,pE,kB,List.set_set]
  congr 4
  simp[bM,hl]
 rw[←e];simp only[zR,exact,bZ,if_false,h.d,Vg,h.z,and_self,if_true,h.b,h.s]
structure S4ok (S4:zB) (N:Nat) (n s:Node) (L:List Node):Prop where
 len:S4.length=N+4
 n3:3≤N
 at1 : ∃x,S4[1]? = some (.arr [[x]] none false)
 walk:S4[2]? = some (.arr [[.fn 81 [] [.mp 1 0 0,.mp 2 0 0]]] none false)
 atN:S4[N]? = some (.arr [n.cells] none false)
 atS:S4[N+1]? = some (.arr [s.cells] none false)
 atD:S4[N+3]? = some (.arr (Node.rows L++[zc]) (some (some 6)) false)
 closed:xW S4=true
theorem zS8 (n s:Node):kG [.arr [n.cells] none false,.arr [s.cells] none false,.arr [zc] (some (some 6)) false]:=.cons (yZ n) (.cons (yZ s) (.cons rfl .nil))
theorem zCY {rows:List (List PV)} {ids:List Nat} (h : ∀r∈zV rows,r ∉ ids) (g:Option (Option Nat)) (f:Bool):yu ids (.arr rows g f)=.arr rows g f:=by
 rw[XD,zD0 h]
theorem zNh {S:zB} {L:List Node} (h:OS S L) (hl:L.length≤1000000) (n s:Node) {v:PV} (hv:S[1]? = some (.arr [[v]] none false)) (ho:OutN S v L) :
  ∃S4 ks,zR Tryz.prog S.length 28 28 (S++[.arr [n.cells] none false,.arr [s.cells] none false,.arr [zc] (some (some 6)) false]) v (.msl (S.length+2) 0 1 true)=some {v:=.msl (S.length+3) 0 (L.length+1) false,S:=S4,kill:=ks} ∧ ks=v.refs∧S4ok S4 S.length n s L:=by
 have hN:=h.len;have hp:RowsV (S++[.arr [n.cells] none false,.arr [s.cells] none false,.arr [zc] (some (some 6)) false]) (.msl (S.length+2) 0 1 true) [zc]:=by
  refine RowsV.msl (S.length+2) [zc] true (some (some 6)) false ?_;rw[pA (by omega)];have:S.length+2-S.length=2:=by omega
  rw[this];rfl
 have hlen:(S++[Obj.arr [n.cells] none false,.arr [s.cells] none false,.arr [zc] (some (some 6)) false]).length=S.length+3:=by simp
 have hcl:=qD h.closed (zS8 n s);cases ho with
 | nil =>
  have ha:=vq.appNil S.length (S++[.arr [n.cells] none false,.arr [s.cells] none false,.arr [zc] (some (some 6)) false]) hp rfl (by decide) (by decide);rw[hlen]at ha;refine⟨_,[],ha,rfl,?_⟩;simp only[pB];refine⟨by simp,hN,⟨_,ut hv _⟩,ut h.walk _,?_,?_,?_,qD h.closed (.cons (yZ n) (.cons (yZ s) (.cons rfl (.cons rfl .nil))))⟩
  ·rw[pA (by omega)];simp
  ·rw[pA (by omega)];simp
  ·rw[pA (by omega)];simp[Node.rows]
 | arr id L h3 hh =>
  have hid:=(bS.1 hh).1;have ha:=vq.appOld (b:=S.length) (ut hh [.arr [n.cells] none false,.arr [s.cells] none false,.arr [zc] (some (some 6)) false]) (by omega) (.inr rfl) hp (Node.rows_ok L) rfl (by rw[Node.rows_length];simp only[aM];omega) (by rw[Node.rows_length];simp only[aM];omega) (by rw[Node.rows_refs];rfl);rw[hlen,Node.rows_length]at ha;refine⟨_,[id],ha,rfl,?_⟩;have kJ : ∀(j:Nat) (rows:List (List PV)) (g:Option (Option Nat)) (f:Bool),(S++[Obj.arr [n.cells] none false,.arr [s.cells] none false,.arr [zc] (some (some 6)) false])[j]? = some (.arr rows g f)→j≠id→j<S.length+3 →
    (List.set (List.map (yu [id]) (S++[Obj.arr [n.cells] none false,.arr [s.cells] none false,.arr [zc] (some (some 6)) false])) id .gone++[Obj.arr (Node.rows L++[zc]) (some (some 6)) false])[j]? = some (yu [id] (.arr rows g f)):=fun j rows g f hj hne hlt=>by
   rw[sK (by simp;omega),aL (Ne.symm hne),sC,hj];rfl
  refine⟨by simp,hN,?_,?_,?_,?_,?_,?_⟩
  ·have:=kJ 1 _ _ _ (ut hv _) (by omega) (by omega);rw[XD]at this;refine⟨wZ [id] (.msl id 0 L.length false),?_⟩;rw[this];simp only[zDZ,yq,yR,XC,yy,wQ,pX,BJ,BZ,List.contains_cons,List.contains_nil,beq_self_eq_true,pJ,if_true,sD,HZ]
  ·rw[kJ 2 _ _ _ (ut h.walk _) (by omega) (by omega)];rw[zCY];intro r hr;simp[yq,yR,wQ,yy,PV.refs]at hr;simp;omega
  ·rw[kJ S.length [n.cells] none false (by rw[pA (by omega)];simp) (by omega) (by omega)];rw[zCY (by rw[yZ];intro r hr;cases hr)]
  ·rw[kJ (S.length+1) [s.cells] none false (by rw[pA (by omega)];simp) (by omega) (by omega)];rw[zCY (by rw[yZ];intro r hr;cases hr)]
  ·rw[pA (by simp)];simp
  ·exact qD (zEn (zEo hcl _) _) (.cons (by
    have : ∀a b:List (List PV),zV (a++b)=zV a++zV b:=fun a b=>by
     induction a with
     | nil=>rfl
     | cons x r ih=>simp only[sB,yq,ih,pB]
    rw[this,Node.rows_refs];rfl) .nil)
theorem zLi (a b:List Node):Node.rows (a++b)=Node.rows a++Node.rows b:=by simp[Node.rows_eq]
theorem zJj (l:List Node) (i:Nat):(Node.rows l).drop i=Node.rows (l.drop i):=by simp[Node.rows_eq,List.map_drop]
theorem zLj (a b:List (List PV)):yO 6 (a++b)=(yO 6 a&&yO 6 b):=by simp[yO]
theorem Ja (a b:List (List PV)):zV (a++b)=zV a++zV b:=by
 induction a with
 | nil=>rfl
 | cons x r ih=>simp only[sB,yq,ih,pB]
theorem zEp {S:zB} {id n:Nat} {rows:List (List PV)} (i:Nat) (h:zl S id=some rows) (hn:n=rows.length) (ho:yO 6 rows=true) (hi:i≤n):zZ Tryz.prog 28 S (.msl id 0 n false) (some (.int .i64 i)) none none=some (.msl id i (n-i) false):=by
 have b1:vG 0 (some (.int .i64 (i:Int)))=some i:=by simp[vG]
 have b2 : ∀k,vG k none=some k:=fun k=>rfl;simp only[zZ,vq.el,vq.is,vq.k,vq.s,jG,vq.d,h,b1,b2,bG];simp[ho,hn];omega
theorem zLk {S:zB} {id n r:Nat} {rows:List (List PV)} {g:Option (Option Nat)} (h:S[id]? = some (.arr rows g false)) (hn:rows.length=n+1) (ho:yO 6 rows=true) (hr:r≤n):zq Tryz.prog 28 28 S (.msl id (r+1) (n-r) false) (.msl id r (n+1-r) false) =
  some {v:=.int .i64 ((n-r:Nat):Int),S:=S.set id (.arr (rows.take (r+1)++(rows.drop r).take (n-r)) g false)} := by
 have e1:rowsIn S (.msl id r (n+1-r) false)=some (rows.drop r):=by
  rw[YP,xH h];simp only[bG];rw[bA (by omega)];rw[aW (by rw[BD];omega)]
 have e2:yO 6 (rows.drop r)=true:=by
  simp only[yO,pH]at ho ⊢;intro x hx;exact ho x (BV hx)
 have e3:min (rows.drop r).length (n-r)=n-r:=by rw[BD];omega
 have e4:rows.drop (r+1+(n-r))=[]:=bU (by omega);have k:(tyi Tryz.prog 30).known=true:=jT;simp only[zq,vq.d,vq.k,if_true,vq.s,Yl,h,e1,bG];rw[bA ⟨by omega,ho,e2⟩,e3,e4,pX]
theorem zNi {S4:zB} {N:Nat} {n s:Node} {L:List Node} (h:S4ok S4 N n s L) (r:Nat) (hr:r≤L.length) : ∃S5 S6 S7 S8,
  zI Tryz.prog 28 S4 (.msl (N+3) 0 (L.length+1) false) (.int .i64 (L.length:Int))=some (.mp (N+3) L.length 0) ∧
  zY (tyi Tryz.prog 30) S4 (.mp (N+3) L.length 0) (.agg zc)=some {v:=.skip,S:=S5} ∧
  zY (tyi Tryz.prog 28) S5 (.mp 1 0 0) (.msl (N+3) 0 (L.length+1) false)=some {v:=.skip,S:=S6} ∧
  zl S6 1=some [[.msl (N+3) 0 (L.length+1) false]] ∧
  zZ Tryz.prog 28 S6 (.msl (N+3) 0 (L.length+1) false) (some (.int .i64 ((r+1:Nat):Int))) none none=some (.msl (N+3) (r+1) (L.length-r) false) ∧
  zZ Tryz.prog 28 S6 (.msl (N+3) 0 (L.length+1) false) (some (.int .i64 (r:Int))) none none=some (.msl (N+3) r (L.length+1-r) false) ∧
  zq Tryz.prog 28 28 S6 (.msl (N+3) (r+1) (L.length-r) false) (.msl (N+3) r (L.length+1-r) false)=some {v:=.int .i64 ((L.length-r:Nat):Int),S:=S7} ∧
  zl S7 1=some [[.msl (N+3) 0 (L.length+1) false]]∧zl S7 (N+1)=some [s.cells] ∧
  zI Tryz.prog 28 S7 (.msl (N+3) 0 (L.length+1) false) (.int .i64 (r:Int))=some (.mp (N+3) r 0) ∧
  zY (tyi Tryz.prog 30) S7 (.mp (N+3) r 0) (.agg s.cells)=some {v:=.skip,S:=S8} ∧
  zl S8 N=some [n.cells]∧S8.length=N+4∧OS S8 (L.take r++s::L.drop r):=by
 have n3:=h.n3;have hlen:=h.len;obtain⟨x,hx⟩:=h.at1;have rl:(Node.rows L++[zc]).length=L.length+1:=by rw[bN,Node.rows_length];rfl
 have ro:yO 6 (Node.rows L++[zc])=true:=by rw[zLj,Node.rows_ok];rfl
 have gd:(Node.rows L++[zc]).getD L.length []=zc:=by
  simp[bM,pA,Node.rows_length]
 have st:(Node.rows L++[zc]).set L.length zc=Node.rows L++[zc]:=by
  have:=PI (s:=Node.rows L) (t:=[zc]) (i:=L.length) (x:=zc) (by rw[Node.rows_length];exact bF _);rw[this,Node.rows_length,aB];rfl
 have i1:=vq.idxm (S:=S4) (id:=N+3) (off:=0) (n:=L.length+1) (ex:=false) (rows:=Node.rows L++[zc]) L.length (xH h.atD) (by omega) ro (by omega);rw[pC]at i1;have s5:=V1 (v:=.agg zc) (i:=L.length) jT ZT h.atD (by omega) (by rw[gd];rfl) rfl rfl;rw[show PV.cells (.agg zc)=zc from rfl,st]at s5;have f5 : ∀(j:Nat) o,S4[j]? = some o→j≠N+3→(S4.set (N+3) (.arr (Node.rows L++[zc]) (some (some 6)) false))[j]? = some o:=fun j o hj hne=>by rw[aL (Ne.symm hne)];exact hj
 have d5:(S4.set (N+3) (.arr (Node.rows L++[zc]) (some (some 6)) false))[N+3]? = some (.arr (Node.rows L++[zc]) (some (some 6)) false):=by rw[BO (by omega)]
 have l5:(S4.set (N+3) (.arr (Node.rows L++[zc]) (some (some 6)) false)).length=N+4:=by rw[aY];exact hlen
 have c5:xW (S4.set (N+3) (.arr (Node.rows L++[zc]) (some (some 6)) false))=true:=ZA h.closed _ (by rw[Ja,Node.rows_refs];intro x hx;cases hx);obtain⟨S5,hS5⟩ : ∃S5,S5=S4.set (N+3) (.arr (Node.rows L++[zc]) (some (some 6)) false):=⟨_,rfl⟩;rw[←hS5]at s5 f5 d5 l5 c5;have s6:=V1 (S:=S5) (id:=1) (i:=0) (rows:=[[x]]) (g:=none) (v:=.msl (N+3) 0 (L.length+1) false) vF vr (f5 1 _ hx (by omega)) (Nat.zero_lt_one) rfl rfl rfl;have f6 : ∀(j:Nat) o,S4[j]? = some o→j≠N+3→j≠1→(S5.set 1 (.arr ([[x]].set 0 (PV.cells (.msl (N+3) 0 (L.length+1) false))) none false))[j]? = some o:=fun j o hj hne h1=>by rw[aL (Ne.symm h1)];exact f5 j o hj hne
 have d6:(S5.set 1 (.arr ([[x]].set 0 (PV.cells (.msl (N+3) 0 (L.length+1) false))) none false))[N+3]? = some (.arr (Node.rows L++[zc]) (some (some 6)) false):=by rw[aL (by omega)];exact d5
 have b6:(S5.set 1 (.arr ([[x]].set 0 (PV.cells (.msl (N+3) 0 (L.length+1) false))) none false))[1]? = some (.arr [[.msl (N+3) 0 (L.length+1) false]] none false):=by rw[BO (by omega)];rfl
 have l6:(S5.set 1 (.arr ([[x]].set 0 (PV.cells (.msl (N+3) 0 (L.length+1) false))) none false)).length=N+4:=by rw[aY];exact l5
 have c6:xW (S5.set 1 (.arr ([[x]].set 0 (PV.cells (.msl (N+3) 0 (L.length+1) false))) none false))=true:=ZA c5 _ (by
  intro y hy;simp only[aG,zDY,yq,yR,XC,yy,wQ,pX,AC]at hy;omega)
 obtain⟨S6,hS6⟩ : ∃S6,S6=S5.set 1 (.arr ([[x]].set 0 (PV.cells (.msl (N+3) 0 (L.length+1) false))) none false):=⟨_,rfl⟩;rw[←hS6]at s6 f6 d6 b6 l6 c6;have t1:=zEp (S:=S6) (id:=N+3) (n:=L.length+1) (r+1) (xH d6) rl.symm ro (by omega);have t2:=zEp (S:=S6) (id:=N+3) (n:=L.length+1) r (xH d6) rl.symm ro (by omega);have e1:L.length+1-(r+1)=L.length-r:=by omega
 rw[e1]at t1;have cp:=zLk (S:=S6) (id:=N+3) (n:=L.length) (r:=r) d6 rl ro hr;have rows7:((Node.rows L++[zc]).drop r).take (L.length-r)=Node.rows (L.drop r):=by
  rw[List.drop_append_of_le_length (by rw[Node.rows_length];exact hr),zJj,List.take_append_of_le_length (by rw[Node.rows_length,BD];omega),aW (by rw[Node.rows_length,BD];omega)]
 rw[rows7]at cp;obtain⟨R7,hR7⟩ : ∃R7,R7=(Node.rows L++[zc]).take (r+1)++Node.rows (L.drop r):=⟨_,rfl⟩;rw[←hR7]at cp;have tl:((Node.rows L++[zc]).take (r+1)).length=r+1:=by rw[sM];omega
 have r7l:R7.length=L.length+1:=by rw[hR7,bN,tl,Node.rows_length,BD];omega
 have tok:yO 6 ((Node.rows L++[zc]).take (r+1))=true:=by
  simp only[yO,pH]at ro ⊢;intro y hy;exact ro y (HW hy)
 have r7o:yO 6 R7=true:=by rw[hR7,zLj,tok,Node.rows_ok];rfl
 have tref : ∀l:List (List PV),zV l=[]→∀k,zV (l.take k)=[]:=fun l=>by
  induction l with
  | nil=>intro _ k;simp[wQ]
  | cons y l ih =>
   intro hl k;rw[yq]at hl;have h1:=List.append_eq_nil_iff.1 hl;cases k with
   | zero=>rfl
   | succ k=>rw[SX,yq,h1.1,ih h1.2 k];rfl
 have r7r:zV R7=[]:=by
  rw[hR7,Ja,tref _ (by rw[Ja,Node.rows_refs];rfl),Node.rows_refs];rfl
 have d7:(S6.set (N+3) (.arr R7 (some (some 6)) false))[N+3]? = some (.arr R7 (some (some 6)) false):=by rw[BO (by omega)]
 have f7 : ∀(j:Nat) o,S6[j]? = some o→j≠N+3→(S6.set (N+3) (.arr R7 (some (some 6)) false))[j]? = some o:=fun j o hj hne=>by rw[aL (Ne.symm hne)];exact hj
 have l7:(S6.set (N+3) (.arr R7 (some (some 6)) false)).length=N+4:=by rw[aY];exact l6
 have c7:xW (S6.set (N+3) (.arr R7 (some (some 6)) false))=true:=ZA c6 _ (by rw[r7r];intro y hy;cases hy);obtain⟨S7,hS7⟩ : ∃S7,S7=S6.set (N+3) (.arr R7 (some (some 6)) false):=⟨_,rfl⟩;rw[←hS7]at cp d7 f7 l7 c7;have i2:=vq.idxm (S:=S7) (id:=N+3) (off:=0) (n:=L.length+1) (ex:=false) (rows:=R7) r (xH d7) (by omega) r7o (by omega);rw[pC]at i2;have g7:(R7.getD r []).length=6:=by
  have hm:R7.getD r []∈R7:=by
   have:r<R7.length:=by omega
   simp[bM,this]
  simp only[yO,pH,beq_iff_eq]at r7o;exact r7o _ hm
 have s8:=V1 (v:=.agg s.cells) (i:=r) jT ZT d7 (by omega) g7 (Node.cells_length s) (Node.cells_cell s);have rows8:R7.set r s.cells=Node.rows (L.take r++s::L.drop r):=by
  have tr:((Node.rows L++[zc]).take (r+1)).set r s.cells=Node.rows (L.take r)++[s.cells]:=by
   refine SB fun i=>?_;rw[HX,tl];by_cases hi:r=i
   ·subst hi;rw[bA rfl,bA (by omega)];rw[pA (by rw[Node.rows_length,sM];omega)];have:r-(Node.rows (List.take r L)).length=0:=by rw[Node.rows_length,sM];omega
    rw[this];rfl
   ·rw[hZ hi];by_cases hlt:i<r
    ·rw[aC (by omega),sK (by rw[Node.rows_length];omega),sK (by rw[Node.rows_length,sM];omega),←zA5,aC hlt]
    ·rw[sE (by rw[sM];omega),sE (by rw[bN,Node.rows_length,sM];simp only[aM];omega)]
  rw[hR7,List.set_append_left _ _ (by omega),tr,zLi];simp[Node.rows]
 rw[show PV.cells (.agg s.cells)=s.cells from rfl,rows8]at s8;have w7:=f7 2 _ (f6 2 _ h.walk (by omega) (by omega)) (by omega);have b7:=f7 1 _ b6 (by omega);have n7:=f7 N _ (f6 N _ h.atN (by omega) (by omega)) (by omega);have a7:=f7 (N+1) _ (f6 (N+1) _ h.atS (by omega) (by omega)) (by omega);refine⟨S5,S6,S7,_,i1,s5,s6,xH b6,t1,t2,cp,xH b7,xH a7,i2,s8,?_,?_,?_,?_,?_⟩
 ·exact xH (by rw[aL (by omega)];exact n7)
 ·rw[aY];exact l7
 ·rw[aL (by omega)];exact w7
 ·refine⟨_,by rw[aL (by omega)];exact b7,?_⟩;have e:L.length+1=(L.take r++s::L.drop r).length:=by rw[bN,bL,sM,BD];omega
  rw[e];exact .arr (N+3) _ (by omega) (by rw[BO (by omega)])
 ·exact ZA c7 _ (by rw[Node.rows_refs];intro y hy;cases hy)
section
variable {R:Type}
noncomputable def UJ (b0:Nat) (F:FX):List Oper→Env→zB→(List (Nat × Nat)→Option R)→Option R
 | [],e,S,k=>k []
 | o::r,e,S,k=>doK Tryz.prog zD F.h b0 o e S (fun e' S'=>UJ b0 F r e' S' fun q=>k ((kind zD o e,xz o e)::q)) (fun e' S'=>UJ b0 F r e' S' fun q=>k ((kind zD o e,xz o e)::q))
def zLl (ops:Array Oper) (q:List (Nat × Nat)):Bool :=
 let b:=Region.before ops
 (List.range ops.size).all fun j=>match ops[j]? with
  | none=>true
  | some o=>(o.after.all fun e => !Region.binds .any e||decide (e.on<j)) &&
   (List.range j).all fun i=>match ops[i]? with
    | none=>true
    | some p=>(b.getD j 0).testBit i||(WF ops (q.getD i (0,0)).1 (q.getD j (0,0)).1 p o||(Oper.apart ops p o&&zKL (q.getD i (0,0)).1 (q.getD j (0,0)).1 (q.getD i (0,0)).2 (q.getD j (0,0)).2))
theorem zLm {ops:Array Oper} {q:List (Nat × Nat)} (hq : ∀x∈q,x.1<8) (h:zLl ops q=true):ue ops (fun j=>(q.map fun x=>x.1+8*x.2).getD j 0)=true:=by
 have hx : ∀j,(q.map fun x=>x.1+8*x.2).getD j 0 % 8=(q.getD j (0,0)).1∧(q.map fun x=>x.1+8*x.2).getD j 0 / 8=(q.getD j (0,0)).2:=fun j=>by
  rw[bM,bM,sC]
  cases e:q[j]? with
  | none=>exact⟨rfl,rfl⟩
  | some x =>
   have:=hq x (pF e);simp only[pE,BM];omega
 unfold zLl at h;unfold ue;simp only[(hx _).1,(hx _).2];exact h
theorem V2 (b0:Nat) (F:FX) (ops:Array Oper) : ∀(l:List Oper) {e:Env} {S:zB} {k:List (Nat × Nat)→Option R} {z:R},(∀o∈l,o.guard=none)→UJ b0 F l e S k=some z→∃q,wK (F.C b0) ops l e S=q.map (fun x=>x.1+8*x.2)∧(∀x∈q,x.1<8)∧k q=some z
 | [],e,S,k,z,hg,h=>⟨[],rfl,by simp,h⟩
 | o::r,e,S,k,z,hg,h=>by
  rw[UJ,zBK]at h;have hw:wm ops e o=some true:=by simp only[wm,hg o (by simp)]
  have fin : ∀(e1:Env) (S1:zB),(jq (uj Tryz.prog zD b0 F.h) o.op e S).step o.dst e S=some (e1,S1)→(UJ b0 F r e1 S1 fun q=>k ((kind zD o e,xz o e)::q))=some z→∃q,wK (F.C b0) ops (o::r) e S=q.map (fun x=>x.1+8*x.2)∧(∀x∈q,x.1<8)∧k q=some z:=fun e1 S1 hs hr=>by
   have h1:vU (F.C b0) ops o e S=some (e1,S1):=by
    simp only[vU,hw,bG,if_true];exact Qw hs
   obtain⟨q,q1,q2,q3⟩:=V2 b0 F ops r (fun o ho=>hg o (by simp[ho])) hr;refine⟨(kind zD o e,xz o e)::q,?_,?_,q3⟩
   ·simp only[wK,h1,q1,sD];rfl
   ·intro x hx
    rcases aF.1 hx with rfl | hx
    ·exact Wo zD o e
    ·exact q2 x hx
  cases hq:jq (uj Tryz.prog zD b0 F.h) o.op e S with
  | val x =>
   rw[hq]at h;simp only[orK,vn,vK]at h;obtain⟨v,h1,h2⟩:=bind_some h;exact fin _ _ (by rw[hq];simp only[OR.step,h1,pE]) h2
  | out x =>
   rw[hq]at h;simp only[orK,vn,vK]at h;obtain⟨v,h1,h2⟩:=bind_some h;exact fin _ _ (by rw[hq];simp only[OR.step,h1,pE]) h2
  | eff x =>
   rw[hq]at h;simp only[orK,vn,Kd,vK]at h;obtain⟨v,h1,h2⟩:=bind_some h;exact fin _ _ (by rw[hq];simp only[OR.step,h1,pE]) h2
  | sto x =>
   rw[hq]at h;simp only[orK,vn,vK]at h;obtain⟨v,h1,h2⟩:=bind_some h;exact fin _ _ (by rw[hq];simp only[OR.step,h1,pE]) h2
noncomputable def zLn (F:FX) (p:Nat):Array Oper:=match sub F.root p with | .region _ ops _=>ops | _ => #[]
noncomputable def zO9 (F:FX) (p:Nat):Bool:=match sub F.root p with | .region _ ops _=>ops.toList.all fun o=>o.guard.isNone | _=>false
theorem Jb {b0:Nat} {F:FX} {p:Nat} {e:Env} {S:zB} (hr:zO9 F p=true) (q:List (Nat × Nat)) (h:UJ (R:=List (Nat × Nat)) b0 F (zLn F p).toList e S some=some q) (hd:zLl (zLn F p) q=true):zDU b0 F p e S=true:=by
 rw[zHs];unfold zNN;unfold zO9 at hr;unfold zLn at h hd
 cases hc:sub F.root p with
 | region id ops d =>
  rw[hc]at hr h hd;simp only at hr h hd ⊢;obtain⟨q',q1,q2,q3⟩:=V2 b0 F ops ops.toList (fun o ho=>by
   have:=pH.1 hr o ho
   simpa using this) h
  cases q3;rw[q1,zLm q2 hd,sU]
 | _=>rw[hc]at hr;cases hr
end
section
theorem Jc (v:PV) (r:List PV):part (tyi Tryz.prog 114) (v::r)=some v:=by
 have e:(tyi Tryz.prog 114).isAgg=false:=by kernel_rfl
 have k:(tyi Tryz.prog 114).known=true:=by kernel_rfl
 simp[part,k,e]
theorem Xd:(qH (.agg #[.int .i64 0,.string ⟨#[]⟩,.bool false,.slice none 0 0,.slice none 0 0,.slice none 0 0])).cells=[.int .i64 0,.str ⟨#[]⟩,.bool false,.sl [] true,.sl [] true,.sl [] true]:=by rfl
def zLo (n:Node):Prop:=∀(L:List Node) (S:zB),OS S L→(∀m∈L,m.ok)→L.length+n.count≤100000→∃S' L',callRL Tryz.prog zD 81 [.agg n.cells,.mp 1 0 0,.mp 2 0 0] S=some (.tup [],S')∧OS S' L'∧S.length≤S'.length∧L'.length≤L.length+n.count∧(∀m∈L',m.ok)∧∀x,x∈L'↔x∈L∨x∈n.syms
theorem zEq {l:List Node} {i:Nat} (h:i<l.length):Node.counts (l.drop i)=(l.getD i nd0).count+Node.counts (l.drop (i+1)):=by
 rw[xO h];rfl
theorem zHH {l:List Node} {i:Nat} (h:i<l.length):Node.symss (l.drop i)=(l.getD i nd0).syms++Node.symss (l.drop (i+1)):=by
 rw[xO h];rfl
section
attribute [local irreducible] Vs.callL Vs.callRL tyi zO zn zg zR zY za zI zZ zA zK ze zX zG zJ zW zr yJ zq zL zf Vs.gc zH
noncomputable def zEr:FX:=⟨Tryz.f81,zD.of 81,[5]⟩
instance ok81_:zEr.ok 81:=FX.mk'
theorem UK (n:Node) (hn:n.ok) (ih : ∀k∈n.kids,zLo k) (b k:Nat) (hk:3≤k) : ∀(m i:Nat),i+m=n.kids.length→∀(L:List Node) (S:zB),OS S L→k≤S.length→(∀m∈L,m.ok)→L.length+Node.counts (n.kids.drop i)≤100000 →
  ∃S' L',zU b zEr 0 60 k [.blk 0] [(2,.mp 2 0 0),(51,.sl (Node.rows n.kids) false),(52,.int .i64 n.kids.length),(53,.int .i64 i)] S=some (.tup [],S')∧OS S' L'∧k≤S'.length∧L'.length≤L.length+Node.counts (n.kids.drop i)∧(∀m∈L',m.ok)∧∀x,x∈L'↔x∈L∨x∈Node.symss (n.kids.drop i):=by
 intro m
 induction m with
 | zero =>
  intro i hi L S hS hkl hL hc;have h1 : ¬(i:Int)<(n.kids.length:Int):=by omega
  obtain⟨Sg,hG⟩ : ∃Sg,Vs.gc k [(2,.undef),(51,.undef),(52,.undef),(53,.undef),(54,.undef)] S=Sg:=⟨_,rfl⟩;have og:OS Sg L:=hG ▸ hS.gc hk hkl _;have kg:k≤Sg.length:=hG ▸ (zKq hkl).1;rw[bU (l:=n.kids) (by omega)]at hc ⊢;refine⟨Sg,L,?_,og,kg,by omega,hL,by simp[Node.symss]⟩;apply zC;(repeat((conv=>lhs;whnf);simp only[go_sem,↓reduceIte,Nat.reduceEqDiff,Nat.reduceBEq,Nat.reduceAdd,Nat.reduceMul,Nat.reduceSub,Nat.reduceLT,Nat.reduceLeDiff,reduceCtorEq,Int.reduceToNat,Int.reduceLE,Int.reduceLT,Int.reduceEq,h1,hG]));apply zN;((repeat((conv=>lhs;whnf);simp only[go_sem,↓reduceIte,Nat.reduceEqDiff,Nat.reduceBEq,Nat.reduceAdd,Nat.reduceMul,Nat.reduceSub,Nat.reduceLT,Nat.reduceLeDiff,reduceCtorEq,Int.reduceToNat,Int.reduceLE,Int.reduceLT,Int.reduceEq]));try rfl)
 | succ m hm =>
  intro i hi L S hS hkl hL hc;have h1:(i:Int)<(n.kids.length:Int):=by omega
  have h2:=zi (i:=i) (n:=n.kids.length) (by omega) hn.len;have h4:0≤(i:Int)∧(i:Int)<(n.kids.length:Int):=⟨by omega,h1⟩;rw[zEq (by omega)]at hc ⊢;rw[zHH (by omega)];have hf:kG [Obj.arr [(n.kids.getD i nd0).cells] none false]:=.cons (yZ _) .nil;have o1:=hS.ext hf;obtain⟨S1,L1,e1,e2,e3,e4,e5,e6⟩:=ih _ (yA (l:=n.kids) (i:=i) (by omega)) L _ o1 hL (by omega);have hl1:(S++[Obj.arr [(n.kids.getD i nd0).cells] none false]).length=S.length+1:=by simp
  have hcall:=wL (by kernel_rfl) e1 e3 o1.closed (by simp[wj,yR,yy,jN,Node.refs,vc,hl1];omega);have hmv:zg Tryz.prog zD (S++[Obj.arr [(n.kids.getD i nd0).cells] none false]) (.fn 81 [] [.mp 1 0 0,.mp 2 0 0]) [.agg (n.kids.getD i nd0).cells]=some {v:=.tup [],S:=S1} := by
   rw[Zz];exact hcall
  have hw:=xH o1.walk;obtain⟨Sg,hG⟩ : ∃Sg,Vs.gc k [(2,.mp 2 0 0),(51,.sl (Node.rows n.kids) false),(52,.int .i64 n.kids.length),(53,.int .i64 ((i+1:Nat):Int))] S1=Sg:=⟨_,rfl⟩;have og:OS Sg L1:=hG ▸ e2.gc hk (by omega) _;have kg:k≤Sg.length:=hG ▸ (zKq (by omega)).1;obtain⟨S',L',k1,k2,k3,k4,k5,k6⟩:=hm (i+1) (by omega) L1 Sg og kg e5 (by omega);refine⟨S',L',?_,k2,k3,by omega,k5,fun x=>?_⟩
  ·apply zC;(repeat((conv=>lhs;whnf);simp only[go_sem,↓reduceIte,Nat.reduceEqDiff,Nat.reduceBEq,Nat.reduceAdd,Nat.reduceMul,Nat.reduceSub,Nat.reduceLT,Nat.reduceLeDiff,reduceCtorEq,Int.reduceToNat,Int.reduceLE,Int.reduceLT,Int.reduceEq,h1,h2,h4,hG,kZ,jb,hw,Jc,hmv,zj]));exact k1
  ·rw[k6,e6,sG];constructor
   ·rintro ((h | h) | h)
    ·exact .inl h
    ·exact .inr (.inl h)
    ·exact .inr (.inr h)
   ·rintro (h | h | h)
    ·exact .inl (.inl h)
    ·exact .inl (.inr h)
    ·exact .inr h
theorem zJk : ∀n:Node,n.ok→zLo n:=by
 refine Node.ind' fun n ih0 hn=>?_;have ih : ∀k∈n.kids,zLo k:=fun k hk=>ih0 k hk (hn.kids k hk);intro L S hS hL hc;have hck:=JS n;have N3:=hS.len;have flat2:kG [Obj.arr [n.cells] none false,.arr [n.sym.cells] none false]:=.cons (yZ n) (.cons (yZ _) .nil);have hl2:(S++[Obj.arr [n.cells] none false,.arr [n.sym.cells] none false]).length=S.length+2:=by simp
 cases e:yP n.op
 ·obtain⟨S',L',k1,k2,k3,k4,k5,k6⟩:=UK n hn ih S.length (S.length+2) (by omega) n.kids.length 0 (by omega) L _ (hS.ext flat2) (by omega) hL (by rw[bY];omega);rw[bY]at k4 k6;refine⟨S',L',?_,k2,by omega,by omega,k5,fun x=>by rw[k6,Node.syms_eq,e];simp⟩;refine FX.callRL ok81_ 1000 rfl rfl ?_;(repeat((conv=>lhs;whnf);simp only[go_sem,↓reduceIte,Nat.reduceEqDiff,Nat.reduceBEq,Nat.reduceAdd,Nat.reduceMul,Nat.reduceSub,Nat.reduceLT,Nat.reduceLeDiff,reduceCtorEq,Int.reduceToNat,Int.reduceLE,Int.reduceLT,Int.reduceEq,ja,kZ,jE,jb,kI,pB,bN,zj,e]));exact k1
 ·obtain⟨v,hv,ho⟩:=hS.out;have v1:=xH (ut hv [Obj.arr [n.cells] none false,.arr [n.sym.cells] none false]);have aS:zl (S++[Obj.arr [n.cells] none false,.arr [n.sym.cells] none false]) (S.length+1)=some [n.sym.cells]:=kI S _ _;have hlen:yJ (tyi Tryz.prog 28) v=some (.int .i64 (L.length:Int)):=by
   cases ho with
   | nil=>exact zNb _ _
   | arr id L h3 hh=>exact zL2 _ _ _ _
  have asks:zLh (S++[Obj.arr [n.cells] none false,.arr [n.sym.cells] none false]) (.fn 83 [] [.mp 1 0 0,.mp (S.length+1) 0 0]) L.length (fun i=>decide (0≤(L.getD i nd0).cmp n.sym)):=by
   intro i hi;cases ho with
   | nil=>simp at hi
   | arr id L h3 hh =>
    have hp:=zJi v1 (xH (ut hh _)) aS hL (Y5 hn) i hi;have:=wL (by kernel_rfl) hp (bF _) (qD hS.closed flat2) (by simp[wj,yR,yy,jM,vc,hl2];try omega);rw[Zz];exact this
  obtain⟨r,hr,hse⟩:=zCX asks (by omega);have hsm:=wL (by kernel_rfl) hse (bF _) (qD hS.closed flat2) (by simp[wj,yR,yy,jM,vc,PV.refs,hl2];try omega);by_cases hin:r<L.length∧(L.getD r nd0).cmp n.sym=0
  ·obtain⟨hrl,heq⟩:=hin;have hmem:n.sym∈L:=by
    rw[←(cmp_eq _ _).1 heq];exact yA hrl
   obtain⟨S',L',k1,k2,k3,k4,k5,k6⟩:=UK n hn ih S.length (S.length+2) (by omega) n.kids.length 0 (by omega) L _ (hS.ext flat2) (by omega) hL (by rw[bY];omega);rw[bY]at k4 k6;refine⟨S',L',?_,k2,by omega,by omega,k5,fun x=>?_⟩
   ·cases ho with
    | nil=>simp at hrl
    | arr id L h3 hh =>
     have h2:=xH (ut hh [Obj.arr [n.cells] none false,.arr [n.sym.cells] none false]);have ix:=vq.idxm (S:=S++[Obj.arr [n.cells] none false,.arr [n.sym.cells] none false]) (id:=id) (off:=0) (n:=L.length) (ex:=false) (rows:=Node.rows L) r h2 (by rw[Node.rows_length];omega) (Node.rows_ok L) hrl;rw[pC]at ix;have gd:=UI L hrl;have hE:=fun S=>jZ S _ _ (hL _ (yA hrl)) (Y5 hn);have ne : ¬(r:Int)=(L.length:Int):=by omega
     refine FX.callRL ok81_ 1000 rfl rfl ?_;(repeat((conv=>lhs;whnf);simp only[go_sem,↓reduceIte,Nat.reduceEqDiff,Nat.reduceBEq,Nat.reduceAdd,Nat.reduceMul,Nat.reduceSub,Nat.reduceLT,Nat.reduceLeDiff,reduceCtorEq,Int.reduceToNat,Int.reduceLE,Int.reduceLT,Int.reduceEq,ja,kZ,jE,jb,kI,pB,bN,zj,e,v1,hlen,hsm,ne,ix,h2,gd,hrl,aS,hE,heq]));exact k1
   ·rw[k6,Node.syms_eq,e,bA rfl];constructor
    ·rintro (h | h)
     ·exact .inl h
     ·exact .inr (SO _ h)
    ·rintro (h | h)
     ·exact .inl h
     ·rcases sG.1 h with h | h
      ·rw[AC]at h;rw[h];exact .inl hmem
      ·exact .inr h
  ·obtain⟨S4,ks,hA,hks,h4⟩:=zNh hS (by omega) n n.sym hv ho;obtain⟨S5,S6,S7,S8,p1,p2,p3,p4,p5,p6,p7,p8,p9,p10,p11,p12,p13,p14⟩:=zNi h4 r hr;have w1:IntKind.i64.wrap ((r:Int)+1)=((r+1:Nat):Int):=by rw[bE];omega
   have oks : ∀m∈L.take r++n.sym::L.drop r,m.ok:=fun m hm=>by
    rcases sG.1 hm with h | h
    ·exact hL m (HW h)
    ·rcases aF.1 h with rfl | h
     ·exact Y5 hn
     ·exact hL m (BV h)
   have len1:(L.take r++n.sym::L.drop r).length=L.length+1:=by rw[bN,bL,sM,BD];omega
   obtain⟨S',L',k1,k2,k3,k4,k5,k6⟩:=UK n hn ih S.length S8.length (by omega) n.kids.length 0 (by omega) _ S8 p14 (bF _) oks (by rw[bY,len1];omega);rw[bY,len1]at k4;rw[bY]at k6;refine⟨S',L',?_,k2,by omega,by omega,k5,fun x=>?_⟩
   ·rw[hks]at hA;unfold zc at hA p2;cases ho with
    | nil =>
     have hr0:r=0:=by simpa using hr
     subst hr0;simp only[PV.refs,zHu]at hA;simp only[bV,AB]at hlen hsm hA p1 p2 p3 p4 p5 p6 p7 p8 p10;have w1':IntKind.i64.wrap (0+1)=((0+1:Nat):Int):=by rfl
     have hd:zDU S.length zEr 876 [(1,.mp 1 0 0),(2,.mp 2 0 0),(3,.mp S.length 0 0),(4,.mp (S.length+1) 0 0),(6,.int .i64 0),(14,.undef),(31,.bool true)] (S++[Obj.arr [n.cells] none false,.arr [n.sym.cells] none false])=true:=by
      refine Jb (by kernel_rfl) [(1,0),(0,0),(1,0),(2,0),(1,0),(1,S.length+3+1),(3,S.length+3+1),(3,1+1)] ?_ (by kernel_rfl);((repeat((conv=>lhs;whnf);simp only[go_sem,↓reduceIte,Nat.reduceEqDiff,Nat.reduceBEq,Nat.reduceAdd,Nat.reduceMul,Nat.reduceSub,Nat.reduceLT,Nat.reduceLeDiff,reduceCtorEq,Int.reduceToNat,Int.reduceLE,Int.reduceLT,Int.reduceEq,ja,kZ,jE,jb,kI,pB,bN,zj,v1,hlen,vv,Xd,hA,p1,p2,p3]));try rfl)
     refine FX.callRL ok81_ 1000 rfl rfl ?_;(repeat((conv=>lhs;whnf);simp only[go_sem,↓reduceIte,Nat.reduceEqDiff,Nat.reduceBEq,Nat.reduceAdd,Nat.reduceMul,Nat.reduceSub,Nat.reduceLT,Nat.reduceLeDiff,reduceCtorEq,Int.reduceToNat,Int.reduceLE,Int.reduceLT,Int.reduceEq,ja,kZ,jE,jb,kI,pB,bN,zj,e,v1,hlen,hsm,vv,Xd,hd,hA,p1,p2,p3,p4,p5,p6,p7,p8,p9,p10,p11,p12,w1']));exact k1
    | arr id L h3 hh =>
     have hid:=(bS.1 hh).1;have m1:WO [id] 1=false:=by rw[qI];simp;omega
     have m2:WO [id] 2=false:=by rw[qI];simp;omega
     have m3:WO [id] S.length=false:=by rw[qI];simp;omega
     have m4:WO [id] (S.length+1)=false:=by rw[qI];simp;omega
     have m5:WO [id] (S.length+2)=false:=by rw[qI];simp;omega
     have m6:WO [id] id=true:=by rw[qI];simp
     simp only[XC]at hA;by_cases hrl:r<L.length
     ·have hne0 : ¬(L.getD r nd0).cmp n.sym=0:=fun h=>hin ⟨hrl,h⟩;have h2:=xH (ut hh [Obj.arr [n.cells] none false,.arr [n.sym.cells] none false]);have ix:=vq.idxm (S:=S++[Obj.arr [n.cells] none false,.arr [n.sym.cells] none false]) (id:=id) (off:=0) (n:=L.length) (ex:=false) (rows:=Node.rows L) r h2 (by rw[Node.rows_length];omega) (Node.rows_ok L) hrl;rw[pC]at ix;have gd:=UI L hrl;have hE:=fun S=>jZ S _ _ (hL _ (yA hrl)) (Y5 hn);have ne : ¬(r:Int)=(L.length:Int):=by omega
      have hd:zDU S.length zEr 876 [(1,.mp 1 0 0),(2,.mp 2 0 0),(3,.mp S.length 0 0),(4,.mp (S.length+1) 0 0),(6,.int .i64 (r:Int)),(14,.undef),(31,.bool true)] (S++[Obj.arr [n.cells] none false,.arr [n.sym.cells] none false])=true:=by
       refine Jb (by kernel_rfl) [(1,0),(0,0),(1,0),(2,0),(4,0),(1,S.length+3+1),(3,S.length+3+1),(3,1+1)] ?_ (by kernel_rfl);((repeat((conv=>lhs;whnf);simp only[go_sem,↓reduceIte,Nat.reduceEqDiff,Nat.reduceBEq,Nat.reduceAdd,Nat.reduceMul,Nat.reduceSub,Nat.reduceLT,Nat.reduceLeDiff,reduceCtorEq,Int.reduceToNat,Int.reduceLE,Int.reduceLT,Int.reduceEq,ja,kZ,jE,jb,kI,pB,bN,zj,v1,hlen,vv,Xd,hA,p1,p2,p3,m1,m2,m3,m4,m5,m6]));try rfl)
      refine FX.callRL ok81_ 1000 rfl rfl ?_;(repeat((conv=>lhs;whnf);simp only[go_sem,↓reduceIte,Nat.reduceEqDiff,Nat.reduceBEq,Nat.reduceAdd,Nat.reduceMul,Nat.reduceSub,Nat.reduceLT,Nat.reduceLeDiff,reduceCtorEq,Int.reduceToNat,Int.reduceLE,Int.reduceLT,Int.reduceEq,ja,kZ,jE,jb,kI,pB,bN,zj,e,v1,hlen,hsm,ne,ix,h2,gd,hrl,aS,hE,hne0,vv,Xd,hd,hA,p1,p2,p3,p4,p5,p6,p7,p8,p9,p10,p11,p12,w1,m1,m2,m3,m4,m5,m6]));exact k1
     ·obtain rfl:r=L.length:=by omega
      have hd:zDU S.length zEr 876 [(1,.mp 1 0 0),(2,.mp 2 0 0),(3,.mp S.length 0 0),(4,.mp (S.length+1) 0 0),(6,.int .i64 (L.length:Int)),(14,.undef),(31,.bool true)] (S++[Obj.arr [n.cells] none false,.arr [n.sym.cells] none false])=true:=by
       refine Jb (by kernel_rfl) [(1,0),(0,0),(1,0),(2,0),(4,0),(1,S.length+3+1),(3,S.length+3+1),(3,1+1)] ?_ (by kernel_rfl);((repeat((conv=>lhs;whnf);simp only[go_sem,↓reduceIte,Nat.reduceEqDiff,Nat.reduceBEq,Nat.reduceAdd,Nat.reduceMul,Nat.reduceSub,Nat.reduceLT,Nat.reduceLeDiff,reduceCtorEq,Int.reduceToNat,Int.reduceLE,Int.reduceLT,Int.reduceEq,ja,kZ,jE,jb,kI,pB,bN,zj,v1,hlen,vv,Xd,hA,p1,p2,p3,m1,m2,m3,m4,m5,m6]));try rfl)
      refine FX.callRL ok81_ 1000 rfl rfl ?_;(repeat((conv=>lhs;whnf);simp only[go_sem,↓reduceIte,Nat.reduceEqDiff,Nat.reduceBEq,Nat.reduceAdd,Nat.reduceMul,Nat.reduceSub,Nat.reduceLT,Nat.reduceLeDiff,reduceCtorEq,Int.reduceToNat,Int.reduceLE,Int.reduceLT,Int.reduceEq,ja,kZ,jE,jb,kI,pB,bN,zj,e,v1,hlen,hsm,vv,Xd,hd,hA,p1,p2,p3,p4,p5,p6,p7,p8,p9,p10,p11,p12,w1,m1,m2,m3,m4,m5,m6]));exact k1
   ·rw[k6,Node.syms_eq,e,bA rfl];have mm:x∈L.take r++n.sym::L.drop r↔x∈L∨x=n.sym:=by
     have hL':x∈L↔x∈L.take r∨x∈L.drop r:=by rw[←sG,HR]
     rw[hL',sG,aF];constructor
     ·rintro (h | h | h)
      ·exact .inl (.inl h)
      ·exact .inr h
      ·exact .inl (.inr h)
     ·rintro ((h | h) | h)
      ·exact .inl h
      ·exact .inr (.inr h)
      ·exact .inr (.inl h)
    rw[mm,sG,AC];constructor
    ·rintro ((h | h) | h)
     ·exact .inl h
     ·exact .inr (.inl h)
     ·exact .inr (.inr h)
    ·rintro (h | h | h)
     ·exact .inl (.inl h)
     ·exact .inl (.inr h)
     ·exact .inr h
theorem Jd (f:FuncId) (a c:List PV):PV.cells (.fn f a c)=[.fn f a c]:=rfl
theorem zIP (f:FuncId) (a c:List PV):PV.cell (.fn f a c)=true:=rfl
noncomputable def zHI:PV:=((tyi Tryz.prog 114).zero.getD []).headD .undef
theorem zAa (id:Nat):zW (tyi Tryz.prog 114) id=some {v:=.mp id 0 0,new:=some ([[zHI]],none)} := by
 have e:(tyi Tryz.prog 114).zero=some [zHI]:=by kernel_rfl
 have e2:zHI.cell=true:=by kernel_rfl
 simp[zW,e,e2]
theorem zLp:(tyi Tryz.prog 114).known=true:=by kernel_rfl
theorem zLq:(tyi Tryz.prog 114).size=1:=by kernel_rfl
theorem zAb (id:Nat):zW (tyi Tryz.prog 28) id=some {v:=.mp id 0 0,new:=some ([[.sl [] true]],none)} := by
 have e:(tyi Tryz.prog 28).zero=some [.sl [] true]:=by kernel_rfl
 simp[zW,e,PV.cell]
theorem zLr (S:zB) (d:Nat) (L:List Node):xf (xf (vH S (d+2))) (Node.rows L)=some (Node.rows L):=by
 rw[Node.rows_eq];have:=Wy (f:=xf (vH S (d+2))) (g:=fun x=>x) (l:=L.map Node.cells) (fun a ha=>by
  obtain⟨w,_,rfl⟩:=aU.1 ha;rw[Node.cells_eq];rfl)
 rw[show (L.map Node.cells).map (fun x=>x)=L.map Node.cells by simp]at this;exact this
theorem zLs {S:zB} {id:Nat} {L:List Node} (h:zl S id=some (Node.rows L)):vI S (.msl id 0 L.length false)=some (.sl (Node.rows L) false):=by
 have e1:rowsIn S (.msl id 0 L.length false)=some (Node.rows L):=by
  rw[YP,h];simp only[bG,pC,bY,Node.rows_length,bF,if_true];rw[←Node.rows_length L,SF]
 show ((rowsIn S (.msl id 0 L.length false)).bind fun rows=>(xf (xf (vH S 7)) rows).map fun rows=>PV.sl rows false)=_
 rw[e1];simp only[bG,zLr S 5,pE]
noncomputable def zS9:FX:=⟨Tryz.f41,zD.of 41,[]⟩
instance ok41_:zS9.ok 41:=FX.mk'
theorem Yh (n:Node) (hn:n.ok) (hc:n.count≤100000) : ∃L ex,callL Tryz.prog zD 41 [.agg n.cells]=some (.sl (Node.rows L) ex)∧(ex=true→L=[])∧(∀m∈L,m.ok)∧(∀x,x∈L↔x∈n.syms)∧L.length≤n.count:=by
 have o0:OS [.arr [n.cells] none false,.arr [[.sl [] true]] none false,.arr [[.fn 81 [] [.mp 1 0 0,.mp 2 0 0]]] none false] []:=by
  refine⟨rfl,⟨_,rfl,.nil⟩,?_⟩;rw[jD];intro j rows g f hj x hx
  match j with
  | 0 =>
   simp at hj;rw[←hj.1,yZ]at hx;cases hx
  | 1 =>
   simp at hj;rw[←hj.1]at hx;cases hx
  | 2 =>
   simp at hj;rw[←hj.1]at hx;simp[yq,yR,wQ,yy,PV.refs]at hx;simp;omega
  | j+3=>simp at hj
 obtain⟨S',L,e1,e2,e3,e4,e5,e6⟩:=zJk n hn [] _ o0 (fun m hm=>by cases hm) (by simpa using hc);have hcall:=wL (by kernel_rfl) e1 e3 o0.closed (by simp[wj,yR,yy,jN,Node.refs,vc]);have hmv:zg Tryz.prog zD [.arr [n.cells] none false,.arr [[.sl [] true]] none false,.arr [[.fn 81 [] [.mp 1 0 0,.mp 2 0 0]]] none false] (.fn 81 [] [.mp 1 0 0,.mp 2 0 0]) [.agg n.cells]=some {v:=.tup [],S:=S'} := by
  rw[Zz];exact hcall
 obtain⟨v,hv,ho⟩:=e2.out;have h1:=xH hv;have hm : ∀x,x∈L↔x∈n.syms:=fun x=>by rw[e6];simp
 cases ho with
 | nil =>
  refine⟨[],true,?_,fun _=>rfl,e5,hm,by simp⟩;apply FX.callV (r:=(.sl [] true,S')) ok41_ 1000 rfl rfl
  ·((repeat((conv=>lhs;whnf);simp only[go_sem,↓reduceIte,Nat.reduceEqDiff,Nat.reduceBEq,Nat.reduceAdd,Nat.reduceMul,Nat.reduceSub,Nat.reduceLT,Nat.reduceLeDiff,reduceCtorEq,Int.reduceToNat,Int.reduceLE,Int.reduceLT,Int.reduceEq,zAb,zAa,zLp,zLq,Jd,zIP,Jc,hmv,h1]));try rfl)
  ·rfl
 | arr id L h3 hh =>
  refine⟨L,false,?_,(fun h=>by cases h),e5,hm,by simpa using e4⟩;apply FX.callV (r:=(.msl id 0 L.length false,S')) ok41_ 1000 rfl rfl
  ·((repeat((conv=>lhs;whnf);simp only[go_sem,↓reduceIte,Nat.reduceEqDiff,Nat.reduceBEq,Nat.reduceAdd,Nat.reduceMul,Nat.reduceSub,Nat.reduceLT,Nat.reduceLeDiff,reduceCtorEq,Int.reduceToNat,Int.reduceLE,Int.reduceLT,Int.reduceEq,zAb,zAa,zLp,zLq,Jd,zIP,Jc,hmv,h1]));try rfl)
  ·exact zLs (xH hh)
theorem Je (n:Node) (hn:n.ok) (hc:n.count≤100000) : ∃L ex,callL Tryz.prog zD 41 [.agg n.cells]=some (.sl (Node.rows L) ex)∧(ex=true→L=[])∧(∀m∈L,m.ok)∧∀x,x∈L↔x∈n.syms:=by
 obtain⟨L,ex,h1,h2,h3,h4,_⟩:=Yh n hn hc;exact⟨L,ex,h1,h2,h3,h4⟩
theorem zEs (n:Node) (hn:n.ok) (hc:n.count≤100000) : ∃L ex,(∀S,zO (callL Tryz.prog zD) S 41 [.agg n.cells]=some {v:=.sl (Node.rows L) ex})∧(∀m∈L,m.ok)∧(∀x,x∈L↔x∈n.syms)∧L.length≤n.count:=by
 obtain⟨L,ex,h1,h2,h3,h4,h5⟩:=Yh n hn hc;exact⟨L,ex,fun S=>uQ S h1,h3,h4,h5⟩
theorem Z2 (n:Node) (hn:n.ok) (hc:n.count≤100000) : ∃L ex,(∀S,zO (callL Tryz.prog zD) S 41 [.agg n.cells]=some {v:=.sl (Node.rows L) ex})∧(L=[]↔n.syms=[])∧(∀m∈L,m.ok)∧∀x,x∈L↔x∈n.syms:=by
 obtain⟨L,ex,h1,h2,h3,h4⟩:=Je n hn hc;refine⟨L,ex,fun S=>uQ S h1,?_,h3,h4⟩;rw[List.eq_nil_iff_forall_not_mem,List.eq_nil_iff_forall_not_mem];simp only[h4]
end
end
end Go.Vs


import Derived.Test.YtkaeejkajfinhaaGreatMV9
import Derived.Test.YtkaeejkajfinhaaGreatMV18
import Derived.Test.YtkaeejkajfinhaaGreatMV20
set_option linter.unusedVariables false
set_option linter.unusedSimpArgs false
set_option maxRecDepth 100000
namespace Go.Vs
open Go Go.Proofs
section
theorem uM (id n:Nat) (is:List Nat) (rows:List (List PV)):zG Tryz.prog 28 id n is rows=if is=List.range n∧yM 6 rows=true∧(rows.all fun r=>r.all PV.cell)=true∧n*6≤16777216 then some {v:=.msl id 0 n true,new:=some (rows,some (some 6))} else none:=vf.buildSlice (by decide) id n is rows
theorem vj (a b c d e f:PV) (r:List PV):part (tyi Tryz.prog 30) (a::b::c::d::e::f::r)=some (.agg [a,b,c,d,e,f]):=by simp[part,jB,TI.isAgg,YW,qu]
def Kx (o:Int) (nm:ByteArray):Node:=.mk o nm false [] [] []
def zBd (o:Int) (nm:ByteArray):Node:=.mk o nm false [] [] [Ku]
def Node.head (n:Node):Node:=if n.kids.length≠0 then zBd n.op n.name else Kx n.op n.name
theorem XQ {n:Node} (h:n.op=10∨n.op=37):n.sym=n.head:=by
 unfold Node.sym Node.head Kx zBd;have:yO n.op=true:=by rcases h with h | h <;> rw[h] <;> rfl
 rw[bA this];by_cases hk:n.kids.length≠0
 ·rw[bA ⟨h,hk⟩,bA hk]
 ·rw[hZ (fun x=>hk x.2),hZ hk]
theorem qR {n:Node} (h:n.op=11∨n.op=38∨n.op=61∨n.op=62∨n.op=56):n.sym=Kx n.op n.name:=by
 unfold Node.sym Kx;have:yO n.op=true:=by rcases h with h | h | h | h | h <;> rw[h] <;> rfl
 rw[bA this,hZ (fun x=>by omega)]
theorem zEE {n:Node} (h:yO n.op=false):n.sym=nd0:=by
 unfold Node.sym;rw[h];rfl
theorem zKy (S:zB) (m:Node) (b:Bool):wy S (.tup [.agg m.cells,.bool b])=some (.tup [.agg m.cells,.bool b]):=by cases m;rfl
section
attribute [local irreducible] Vs.callL Vs.callRL tyi zO zl zf zR zW za zI zY zA zK zb zV zG zJ zU zn yI zm zL ze Vs.gc zH
noncomputable def zRf:FX:=⟨Tryz.f79,zE.of 79,[]⟩
instance ok79_:zRf.ok 79:=FX.mk'
theorem zEF (n:Node):callL Tryz.prog zE 79 [.agg n.cells]=some (.tup [.agg n.sym.cells,.bool (yO n.op)]):=by
 by_cases e10:n.op=10
 ·have ei:yO n.op=true:=by rw[e10];rfl
  rw[XQ (by omega),ei];unfold Node.head;by_cases hk:n.kids.length=0
  ·have hk' : ¬ 0<(n.kids.length:Int):=by omega
   rw[hZ (by omega),e10];apply FX.callV ok79_ 1000 rfl rfl
   ·((repeat((conv=>lhs;whnf);simp only[go_sem,simprocAttr,e10,hk',zr,uM,vj,vg,wv]));try rfl)
   ·rfl
  ·have hk':0<(n.kids.length:Int):=by omega
   rw[bA hk,e10];apply FX.callV ok79_ 1000 rfl rfl
   ·((repeat((conv=>lhs;whnf);simp only[go_sem,simprocAttr,e10,hk',zr,uM,vj,vg,wv]));try rfl)
   ·rfl
 by_cases e37:n.op=37
 ·have ei:yO n.op=true:=by rw[e37];rfl
  rw[XQ (by omega),ei];unfold Node.head;by_cases hk:n.kids.length=0
  ·have hk' : ¬ 0<(n.kids.length:Int):=by omega
   rw[hZ (by omega),e37];apply FX.callV ok79_ 1000 rfl rfl
   ·((repeat((conv=>lhs;whnf);simp only[go_sem,simprocAttr,e37,hk',zr,uM,vj,vg,wv]));try rfl)
   ·rfl
  ·have hk':0<(n.kids.length:Int):=by omega
   rw[bA hk,e37];apply FX.callV ok79_ 1000 rfl rfl
   ·((repeat((conv=>lhs;whnf);simp only[go_sem,simprocAttr,e37,hk',zr,uM,vj,vg,wv]));try rfl)
   ·rfl
 by_cases e11:n.op=11
 ·have ei:yO n.op=true:=by rw[e11];rfl
  rw[qR (by omega),ei,e11];apply FX.callV ok79_ 1000 rfl rfl
  ·((repeat((conv=>lhs;whnf);simp only[go_sem,simprocAttr,e11,zr,uM,vj,vg,wv]));try rfl)
  ·rfl
 by_cases e38:n.op=38
 ·have ei:yO n.op=true:=by rw[e38];rfl
  rw[qR (by omega),ei,e38];apply FX.callV ok79_ 1000 rfl rfl
  ·((repeat((conv=>lhs;whnf);simp only[go_sem,simprocAttr,e38,zr,uM,vj,vg,wv]));try rfl)
  ·rfl
 by_cases e61:n.op=61
 ·have ei:yO n.op=true:=by rw[e61];rfl
  rw[qR (by omega),ei,e61];apply FX.callV ok79_ 1000 rfl rfl
  ·((repeat((conv=>lhs;whnf);simp only[go_sem,simprocAttr,e61,zr,uM,vj,vg,wv]));try rfl)
  ·rfl
 by_cases e62:n.op=62
 ·have ei:yO n.op=true:=by rw[e62];rfl
  rw[qR (by omega),ei,e62];apply FX.callV ok79_ 1000 rfl rfl
  ·((repeat((conv=>lhs;whnf);simp only[go_sem,simprocAttr,e62,zr,uM,vj,vg,wv]));try rfl)
  ·rfl
 by_cases e56:n.op=56
 ·have ei:yO n.op=true:=by rw[e56];rfl
  rw[qR (by omega),ei,e56];apply FX.callV ok79_ 1000 rfl rfl
  ·((repeat((conv=>lhs;whnf);simp only[go_sem,simprocAttr,e56,zr,uM,vj,vg,wv]));try rfl)
  ·rfl
 have ei:yO n.op=false:=by simp only[yO,e10,e11,e37,e38,e61,e62,e56,decide_false,sO]
 rw[zEE ei,ei];apply FX.callV ok79_ 1000 rfl rfl
 ·((repeat((conv=>lhs;whnf);simp only[go_sem,simprocAttr,e10,e11,e37,e38,e61,e62,e56,zr,uM,vj,vg,wv]));try rfl)
 ·rfl
theorem jJ (S:zB) (n:Node):zO (callL Tryz.prog zE) S 79 [.agg n.cells]=some {v:=.tup [.agg n.sym.cells,.bool (yO n.op)]} := uR S (zEF n)
noncomputable def zRg:FX:=⟨Tryz.f38,zE.of 38,[]⟩
instance ok38_:zRg.ok 38:=FX.mk'
theorem Jo (n:Node):callL Tryz.prog zE 38 [.agg n.cells]=some (.tup [.agg n.sym.cells,.bool (yO n.op)]):=by
 refine FX.callV (r:=(.tup [.agg n.sym.cells,.bool (yO n.op)],[.arr [n.cells] none false,.arr [n.sym.cells] none false])) ok38_ 1000 rfl rfl ?_ (zKy _ _ _);((repeat((conv=>lhs;whnf);simp only[go_sem,simprocAttr,jJ]));try rfl)
theorem wG (S:zB) (n:Node):zO (callL Tryz.prog zE) S 38 [.agg n.cells]=some {v:=.tup [.agg n.sym.cells,.bool (yO n.op)]} := uR S (Jo n)
noncomputable def zPC:FX:=⟨Tryz.f134,zE.of 134,[]⟩
instance ok134_:zPC.ok 134:=FX.mk'
theorem zIx (n:Node):callL Tryz.prog zE 134 [.agg n.cells]=some (.agg n.head.cells):=by
 unfold Node.head;by_cases hk:n.kids.length=0
 ·have hk' : ¬ 0<(n.kids.length:Int):=by omega
  rw[hZ (by omega)];apply FX.callV ok134_ 1000 rfl rfl
  ·((repeat((conv=>lhs;whnf);simp only[go_sem,simprocAttr,hk',zr,uM,vj,vg,wv]));try rfl)
  ·rfl
 ·have hk':0<(n.kids.length:Int):=by omega
  rw[bA hk];apply FX.callV ok134_ 1000 rfl rfl
  ·((repeat((conv=>lhs;whnf);simp only[go_sem,simprocAttr,hk',zr,uM,vj,vg,wv]));try rfl)
  ·rfl
theorem zPD (S:zB) (n:Node):zO (callL Tryz.prog zE) S 134 [.agg n.cells]=some {v:=.agg n.head.cells} := uR S (zIx n)
def Node.isSymbol (n:Node):Bool :=
 (yO n.op&&(yP n.name&&(!n.neg&&(decide (n.num.length=0)&&decide (n.den.length=0))))) &&
 (decide (n.kids.length=0)||(decide (n.kids.length=1)&&((decide (n.op=10)||decide (n.op=37))&&decide ((n.kids.getD 0 nd0).cmp Ku=0))))
theorem Wz:Ku.ok:=by
 refine⟨by decide,by decide,⟨?_,?_,by decide,by decide⟩,by decide,trivial⟩
 ·intro w h;cases h
 ·intro w h;cases h
theorem zPE (S:zB) (n:Node) (h:n.ok):zO (callL Tryz.prog zE) S 43 [.agg n.cells,.agg [.int .i64 13,.str ⟨#[]⟩,.bool false,.sl [] true,.sl [] true,.sl [] true]]=some {v:=.bool (decide (n.cmp Ku=0))} := by
 refine zIP (UG n Ku h Wz) n.plain.fz ⟨rfl,fun S=>rfl⟩
noncomputable def zRh:FX:=⟨Tryz.f42,zE.of 42,[]⟩
instance ok42_:zRh.ok 42:=FX.mk'
theorem Jp (n:Node) (hn:n.ok):callL Tryz.prog zE 42 [.agg n.cells]=some (.bool n.isSymbol):=by
 unfold Node.isSymbol
 cases e1:yO n.op
 ·rw[bB,bB];apply FX.callB2 ok42_ 1000 rfl rfl;((repeat((conv=>lhs;whnf);simp only[go_sem,simprocAttr,vi,e1]));try rfl)
 cases e2:yP n.name
 ·rw[bB,bQ,bB];apply FX.callB2 ok42_ 1000 rfl rfl;((repeat((conv=>lhs;whnf);simp only[go_sem,simprocAttr,vi,e1,yK,e2]));try rfl)
 cases e3:n.neg
 case true =>
  rw[bS,bB,bQ,bQ,bB];apply FX.callB2 ok42_ 1000 rfl rfl;((repeat((conv=>lhs;whnf);simp only[go_sem,simprocAttr,vi,e1,yK,e2,e3]));try rfl)
 by_cases e4:n.num.length=0
 case neg =>
  have e4':0<(n.num.length:Int):=by omega
  rw[bH e4,bB,bQ,bQ,bQ,bB];apply FX.callB2 ok42_ 1000 rfl rfl;((repeat((conv=>lhs;whnf);simp only[go_sem,simprocAttr,vi,e1,yK,e2,e3,e4']));try rfl)
 have e4' : ¬ 0<(n.num.length:Int):=by omega
 by_cases e5:n.den.length=0
 case neg =>
  have e5':0<(n.den.length:Int):=by omega
  rw[bH e5,bQ,bQ,bQ,bQ,bB];apply FX.callB2 ok42_ 1000 rfl rfl;((repeat((conv=>lhs;whnf);simp only[go_sem,simprocAttr,vi,e1,yK,e2,e3,e4',e5']));try rfl)
 have e5' : ¬ 0<(n.den.length:Int):=by omega
 rw[bG e4,bG e5,bJ,sC,sC,sC,sC,bC];by_cases e6:n.kids.length=0
 ·have e6':(n.kids.length:Int)=0:=by omega
  rw[bG e6,pI];apply FX.callB2 ok42_ 1000 rfl rfl;((repeat((conv=>lhs;whnf);simp only[go_sem,simprocAttr,vi,e1,yK,e2,e3,e4',e5',e6']));try rfl)
 have e6' : ¬(n.kids.length:Int)=0:=by omega
 have x0:(0:Int)<(n.kids.length:Int):=by omega
 rw[bH e6,bW];by_cases e7:n.kids.length=1
 case neg =>
  have e7' : ¬(n.kids.length:Int)=1:=by omega
  rw[bH e7,bB];apply FX.callB2 ok42_ 1000 rfl rfl;((repeat((conv=>lhs;whnf);simp only[go_sem,simprocAttr,vi,e1,yK,e2,e3,e4',e5',e6',e7',x0,sD,zr]));try rfl)
 have e7':(n.kids.length:Int)=1:=by omega
 have hk:=hn.kids _ (yA (l:=n.kids) (i:=0) (by omega));have hc:=fun S=>zPE S _ hk;rw[bG e7,bC];by_cases e10:n.op=10
 ·rw[e10]at e1;have o1:(decide (n.op=10)||decide (n.op=37))=true:=by rw[e10];rfl
  rw[o1,bC];apply FX.callB2 ok42_ 1000 rfl rfl;((repeat((conv=>lhs;whnf);simp only[go_sem,simprocAttr,vi,e1,yK,e2,e3,e4',e5',e6',e7',x0,sD,zr,e10,hc,Int.reduceLT,Int.reduceEq]));try rfl)
 by_cases e37:n.op=37
 ·rw[e37]at e1;have o1:(decide (n.op=10)||decide (n.op=37))=true:=by rw[e37];rfl
  rw[o1,bC];apply FX.callB2 ok42_ 1000 rfl rfl;((repeat((conv=>lhs;whnf);simp only[go_sem,simprocAttr,vi,e1,yK,e2,e3,e4',e5',e6',e7',x0,sD,zr,e37,hc,Int.reduceLT,Int.reduceEq]));try rfl)
 rw[bH e10,bH e37,sO,bB];apply FX.callB2 ok42_ 1000 rfl rfl;((repeat((conv=>lhs;whnf);simp only[go_sem,simprocAttr,vi,e1,yK,e2,e3,e4',e5',e6',e7',x0,sD,zr,e10,e37,Int.reduceLT,Int.reduceEq]));try rfl)
theorem zGV (S:zB) (n:Node) (hn:n.ok):zO (callL Tryz.prog zE) S 42 [.agg n.cells]=some {v:=.bool n.isSymbol} := uR S (Jp n hn)
end
end
theorem jp (x y:Int):qZ x y=0↔x=0∧y=0:=by
 unfold qZ;by_cases h:x=0 <;> simp[h]
theorem ZP (a b:Int):uZ a b=0↔a=b:=by unfold uZ;omega
theorem zIy {a b:ByteArray} (h:a.toList=b.toList):a=b:=by
 rw[ByteArray.toList_eq,ByteArray.toList_eq]at h;obtain⟨x⟩:=a;obtain⟨y⟩:=b
 congr 1
 exact Array.ext' h
theorem UX (a b:ByteArray):V8 a b=0↔a=b:=by
 unfold V8;by_cases h:a.toList=b.toList
 ·have:=zIy h;simp[h,this]
 ·have h2:a≠b:=fun e=>h (by rw[e]);simp[h,h2,XP]
theorem UY (a b:Bool):V9 a b=0↔a=b:=by
 unfold V9;by_cases h:a=b <;> simp[h,XP]
theorem Zf (a b:List Int) : ∀m,jC a b m=0↔∀i,i<m→a.getD i 0=b.getD i 0
 | 0=>by simp[jC]
 | m+1=>by
  rw[jC,jp,ZP,Zf a b m];constructor
  ·rintro⟨h1,h2⟩ i hi
   by_cases e:i=m
   ·rw[e];exact h1
   ·exact h2 i (by omega)
  ·intro h;exact⟨h m (by omega),fun i hi=>h i (by omega)⟩
theorem VA (a b:List Int):wE a b=0↔a=b:=by
 unfold wE;rw[jp,ZP,Zf];constructor
 ·rintro⟨h1,h2⟩
  have hl:a.length=b.length:=by omega
  refine List.ext_getElem hl fun i h3 h4=>?_;have:=h2 i h3
  simpa [bL,h3,h4] using this
 ·rintro rfl
  exact⟨rfl,fun _ _=>rfl⟩
mutual
theorem cmp_eq : ∀a b:Node,a.cmp b=0↔a=b
 | .mk o nm ng nu de f,.mk o' nm' ng' nu' de' f'=>by
  have hk:=zH2 f f';rw[Node.cmp_eq];simp only[jp,ZP,UX,UY,VA,Node.op,Node.name,Node.neg,Node.num,Node.den,Node.kids,Node.mk.injEq];constructor
  ·rintro⟨h1,h2,h3,h4,h5,h6,h7⟩
   exact⟨h1,h2,h3,h4,h5,(hk (by omega)).1 h7⟩
  ·rintro⟨h1,h2,h3,h4,h5,h6⟩
   exact⟨h1,h2,h3,h4,h5,by rw[h6],(hk (by rw[h6])).2 h6⟩
theorem zH2 : ∀a b:List Node,a.length=b.length→(Node.cmps a b=0↔a=b)
 | [],[],_=>by simp[Node.cmps]
 | n::r,m::s,h=>by
  have h1:=cmp_eq n m;have h2:=zH2 r s (by simpa using h);rw[Node.cmps,jp,h1,h2];simp
end
mutual
def Node.syms:Node→List Node
 | .mk o nm ng nu de f=>(if yO o=true then [(Node.mk o nm ng nu de f).sym] else [])++Node.symss f
def Node.symss:List Node→List Node
 | []=>[]
 | n::r=>n.syms++Node.symss r
end
theorem Node.syms_eq (n:Node):n.syms=(if yO n.op=true then [n.sym] else [])++Node.symss n.kids:=by cases n;rfl
mutual
theorem kE : ∀n:Node,n.syms=[]↔n.has yO=false
 | .mk o nm ng nu de f=>by
  have h:=Qq f;rw[Node.syms,Node.has]
  cases e:yO o
  ·simp[h]
  ·simp
theorem Qq : ∀l:List Node,Node.symss l=[]↔Node.hass yO l=false
 | []=>by simp[Node.symss,Node.hass]
 | n::r=>by
  have h1:=kE n;have h2:=Qq r;simp[Node.symss,Node.hass,h1,h2]
end
theorem zH3 {n:Node} (h:n.ok):n.head.ok:=by
 unfold Node.head zBd Kx;have hz:(RV.mk false [] []).ok:=Wz.val
 split
 ·exact⟨h.op,h.name,hz,by decide,Wz,trivial⟩
 ·exact⟨h.op,h.name,hz,by decide,trivial⟩
theorem zPF:nd0.ok:=⟨by decide,by decide,Wz.val,by decide,trivial⟩
theorem YG {n:Node} (h:n.ok):n.sym.ok:=by
 cases e:yO n.op
 ·rw[zEE e];exact zPF
 ·by_cases hf:n.op=10∨n.op=37
  ·rw[XQ hf];exact zH3 h
  ·rw[qR]
   ·exact⟨h.op,h.name,Wz.val,by decide,trivial⟩
   ·simp only[yO,aV,pA]at e;omega
theorem kY {S:zB} : xS S=true↔∀(j:Nat) (rows:List (List PV)) (g:Option (Option Nat)) (f:Bool),S[j]? = some (Obj.arr rows g f)→∀x∈zT rows,x<S.length:=by
 simp only[xS,pH];constructor
 ·intro h j rows g f hj x hx;have:=h _ (pF hj);simp only[pH,pA]at this;exact this x hx
 ·intro h o ho;obtain⟨j,hj⟩:=HB ho;cases o with
  | gone=>rfl
  | arr rows g f =>
   simp only[pH,pA];exact h j rows g f hj
theorem qb {S:zB} (h:xS S=true) (j:Nat) {rows:List (List PV)} {g:Option (Option Nat)} {f:Bool} (hr : ∀x∈zT rows,x<S.length):xS (S.set j (.arr rows g f))=true:=by
 rw[kY]at h ⊢;intro i rows' g' f' hi x hx;rw[aP];by_cases e:j=i
 ·subst e;rw[HO]at hi
  split at hi
  ·split at hi
   ·simp only[Option.some.injEq,Obj.arr.injEq]at hi;exact hr x (by rw[hi.1];exact hx)
   ·cases hi
  ·exact absurd rfl (by assumption)
 ·rw[aD e]at hi;exact h i rows' g' f' hi x hx
theorem zEG {S:zB} (h:xS S=true) (j:Nat):xS (S.set j .gone)=true:=by
 rw[kY]at h ⊢;intro i rows' g' f' hi x hx;rw[aP];by_cases e:j=i
 ·subst e;rw[HO]at hi
  split at hi
  ·split at hi
   ·cases hi
   ·cases hi
  ·exact absurd rfl (by assumption)
 ·rw[aD e]at hi;exact h i rows' g' f' hi x hx
theorem jg {S U:zB} (h:xS S=true) (k:uq U):xS (S++U)=true:=by
 rw[kY]at h ⊢;intro i rows' g' f' hi x hx;rw[bM];by_cases e:i<S.length
 ·rw[sG e]at hi;have:=h i rows' g' f' hi x hx;omega
 ·rw[bZ (by omega)]at hi;obtain⟨r,g,f,e1,e2⟩:=k _ (pF hi);cases e1;rw[e2]at hx;cases hx
theorem zGW (ids:List Nat) (v:PV) : ∀x∈(wS ids v).refs,x∈v.refs:=by
 intro x hx;unfold wS at hx
 split at hx
 ·cases hx
 ·exact hx
theorem Ky (ids:List Nat) : ∀l:List PV,∀x∈vK (l.map (wS ids)),x∈vK l
 | [],x,hx=>hx
 | v::r,x,hx=>by
  rw[pZ,yQ]at hx;rw[yQ]
  rcases sB.1 hx with h | h
  ·exact SK _ (zGW ids v x h)
  ·exact SG _ (Ky ids r x h)
theorem Xe (ids:List Nat) : ∀rows:List (List PV),∀x∈zT (rows.map fun r=>r.map (wS ids)),x∈zT rows
 | [],x,hx=>hx
 | v::r,x,hx=>by
  rw[pZ,yn]at hx;rw[yn]
  rcases sB.1 hx with h | h
  ·exact SK _ (Ky ids v x h)
  ·exact SG _ (Xe ids r x h)
theorem Jq (ids:List Nat) (rows:List (List PV)) : ∀x∈zT (vL ids rows),x∈zT rows:=by
 intro x hx;unfold vL at hx
 split at hx
 ·exact Xe ids rows x hx
 ·exact hx
theorem zEH {S:zB} (h:xS S=true) (ids:List Nat):xS (S.map (yr ids))=true:=by
 rw[kY]at h ⊢;intro i rows' g' f' hi x hx;rw[BP];rw[pY]at hi
 cases e:S[i]? with
 | none=>rw[e]at hi;cases hi
 | some o =>
  rw[e]at hi;cases o with
  | gone=>cases hi
  | arr rows g f =>
   simp only[pE,Yh,Option.some.injEq,Obj.arr.injEq]at hi;rw[←hi.1]at hx;exact h i rows g f e x (Jq ids rows x hx)
theorem zIz {S:zB} (h:xS S=true) (n:Nat) (e:Env):xS (Vs.gc n e S)=true:=by
 unfold Vs.gc
 split
 case isFalse=>exact h
 rename_i hc;obtain⟨_,h2⟩:=hc;rw[pH]at h2;rw[kY]at h ⊢;intro i rows g f hi x hx;have hl:=(bR.1 hi).1;have hm:=h2 _ (pF hi);simp only[pH,pA]at hm;have h3:=hm x hx;have h4:S[i]? = some (.arr rows g f):=by
  rw[aW]at hi
  split at hi
  ·exact hi
  ·cases hi
 have h5:=h i rows g f h4 x hx;rw[sI];omega
theorem VB {ti:TI} {S:zB} {id i sz:Nat} {rows:List (List PV)} {g:Option (Option Nat)} {v:PV} (hk:ti.known=true) (hs:ti.size=sz) (h:S[id]? = some (.arr rows g false)) (hi:i<rows.length) (hr:(rows.getD i []).length=sz) (hv:v.cells.length=sz) (hc:v.cells.all PV.cell=true):zW ti S (.mp id i 0) v=some {v:=.skip,S:=S.set id (.arr (rows.set i v.cells) g false)} := by
 rw[VX,bA hk];have:yV ti.size S (.mp id i 0) v=some (S.set id (.arr (rows.set i v.cells) g false)):=by
  simp only[yV,h,hs];rw[bA ⟨hi,by omega,hv,hc⟩,QW,bA ⟨rfl,by omega⟩]
 rw[this];rfl
theorem jK (S U:zB):zj (S++U) S.length=zj U 0:=qv S U
theorem ut (S:zB) (o:Obj) (U:zB):zj (S++o::U) (S.length+1)=zj U 0:=by
 have:S++o::U=(S++[o])++U:=by simp
 rw[this];have e:S.length+1=(S++[o]).length:=by simp
 rw[e];exact qv _ U
theorem ue {S:zB} {j:Nat} {rows:List (List PV)} {g:Option (Option Nat)} {f:Bool} (h:S[j]? = some (.arr rows g f)) (U:zB):(S++U)[j]? = some (.arr rows g f):=by
 rw[sG (bR.1 h).1];exact h
theorem kF (S:zB) (n:Node):zW (tyi Tryz.prog 30) (S++[.arr [[.int .i64 0,.str ⟨#[]⟩,.bool false,.sl [] true,.sl [] true,.sl [] true]] none false]) (.mp S.length 0 0) (.agg n.cells)=some {v:=.skip,S:=S++[.arr [n.cells] none false]} := by
 rw[VB (sz:=6) (v:=.agg n.cells) (i:=0) (id:=S.length) (rows:=[[.int .i64 0,.str ⟨#[]⟩,.bool false,.sl [] true,.sl [] true,.sl [] true]]) (g:=none) jB qu (by simp) (by decide) rfl (Node.cells_length n) (Node.cells_cell n)];simp[BY,zCg]
theorem kZ (S:zB) (o:Obj) (n:Node):zW (tyi Tryz.prog 30) (S++[o,.arr [[.int .i64 0,.str ⟨#[]⟩,.bool false,.sl [] true,.sl [] true,.sl [] true]] none false]) (.mp (S.length+1) 0 0) (.agg n.cells)=some {v:=.skip,S:=S++[o,.arr [n.cells] none false]} := by
 have:=kF (S++[o]) n
 simpa using this
section
inductive OutN (S:zB):PV→List Node→Prop
 | nil:OutN S (.sl [] true) []
 | arr (id:Nat) (L:List Node) (h3:3≤id) (h:S[id]? = some (.arr (Node.rows L) (some (some 6)) false)):OutN S (.msl id 0 L.length false) L
structure OS (S:zB) (L:List Node):Prop where
 walk:S[2]? = some (.arr [[.fn 81 [] [.mp 1 0 0,.mp 2 0 0]]] none false)
 out : ∃v,S[1]? = some (.arr [[v]] none false)∧OutN S v L
 closed:xS S=true
theorem OS.len {S:zB} {L:List Node} (h:OS S L):3≤S.length:=by
 have:=(bR.1 h.walk).1;omega
theorem OS.ext {S:zB} {L:List Node} (h:OS S L) {U:zB} (hU:uq U):OS (S++U) L:=by
 obtain⟨v,h1,h2⟩:=h.out;refine⟨ue h.walk U,⟨v,ue h1 U,?_⟩,jg h.closed hU⟩;cases h2 with
 | nil=>exact .nil
 | arr id L h3 hh=>exact .arr id L h3 (ue hh U)
theorem OS.gc {S:zB} {L:List Node} (h:OS S L) {n:Nat} (hn:3≤n) (hl:n≤S.length) (e:Env):OS (Vs.gc n e S) L:=by
 obtain⟨v,h1,h2⟩:=h.out;obtain⟨g1,g2⟩:=zKI (n:=n) (e:=e) (S:=S) hl;refine⟨by rw[g2 2 (by omega)];exact h.walk,⟨v,by rw[g2 1 (by omega)];exact h1,?_⟩,zIz h.closed n e⟩;cases h2 with
 | nil=>exact .nil
 | arr id L h3 hh =>
  refine .arr id L h3 ?_;unfold Vs.gc
  split
  case isFalse=>exact hh
  rename_i hc;obtain⟨_,hc2⟩:=hc;rw[pH]at hc2;have hm:(S.take n)[1]? = some (.arr [[.msl id 0 L.length false]] none false):=by rw[sR (by omega)];exact h1
  have:=hc2 _ (pF hm);simp only[pH,pA]at this;have hid:id<n:=this id (by simp[yn,yQ,wH,yt,Yg]);rw[sR hid];exact hh
theorem Vg (L:List Node) {i:Nat} (h:i<L.length):(Node.rows L).getD i []=(L.getD i nd0).cells:=by
 rw[Node.rows_eq];exact zA2 L nd0 h
def zKz (S:zB) (f:PV) (n:Nat) (p:Nat→Bool):Prop:=∀i:Nat,i<n→zf Tryz.prog zE S f [.int .i64 i]=some {v:=.bool (p i),S:=S}
section
attribute [local irreducible] Vs.callL Vs.callRL tyi zO zl zf zR zW za zI zY zA zK zb zV zG zJ zU zn yI zm zL ze Vs.gc zH
theorem zBe {S:zB} {f:PV} {n:Nat} {p:Nat→Bool} (hf:zKz S f n p) (hn:n≤1000000000) : ∀(m i j:Nat),j-i≤m→i≤j→j≤n→∃r,i≤r∧r≤j∧zS S.length zKr 0 56 S.length [.blk 0,.seq 0 15] [(1,f),(5,.int .i64 i),(6,.int .i64 j)] S=some (.int .i64 r,S):=by
 have hg : ∀e,Vs.gc S.length e S=S:=fun e=>KD (bF _);intro m
 induction m with
 | zero =>
  intro i j h1 h2 h4;have e:i=j:=by omega
  have c : ¬(i:Int)<(j:Int):=by omega
  refine⟨i,by omega,by omega,?_⟩;apply zC;(repeat((conv=>lhs;whnf);simp only[go_sem,simprocAttr,c,hg]));apply zN;((repeat((conv=>lhs;whnf);simp only[go_sem,simprocAttr]));try rfl)
 | succ m ih =>
  intro i j h1 h2 h4;by_cases c:i<j
  ·have c':(i:Int)<(j:Int):=by omega
   have w1:IntKind.i64.wrap ((i:Int)+j)=((i+j:Nat):Int):=by rw[bE];omega
   have w2:IntKind.u64.wrap ((i+j:Nat):Int)=((i+j:Nat):Int):=by rw[xJ];omega
   have w3:((((i+j:Nat):Int)).fdiv (2^min 1 64))=(((i+j) / 2:Nat):Int):=by
    show (((i+j:Nat):Int)).fdiv 2=_
    rw[BS _ (by omega)];omega
   have w4:IntKind.i64.wrap ((((i+j) / 2:Nat)):Int)=(((i+j) / 2:Nat):Int):=by rw[bE];omega
   have ask:=hf ((i+j) / 2) (by omega);have zFi : ¬(1:Int)<0:=by omega
   cases hp:p ((i+j) / 2)
   ·have w5:IntKind.i64.wrap ((((i+j) / 2:Nat):Int)+1)=(((i+j) / 2+1:Nat):Int):=by rw[bE];omega
    obtain⟨r,r1,r2,key⟩:=ih ((i+j) / 2+1) j (by omega) (by omega) h4;rw[hp]at ask;refine⟨r,by omega,r2,?_⟩;apply zC;(repeat((conv=>lhs;whnf);simp only[go_sem,simprocAttr,c',w1,w2,w3,w4,w5,ask,zFi,hg]));exact key
   ·obtain⟨r,r1,r2,key⟩:=ih i ((i+j) / 2) (by omega) (by omega) (by omega);rw[hp]at ask;refine⟨r,r1,by omega,?_⟩;apply zC;(repeat((conv=>lhs;whnf);simp only[go_sem,simprocAttr,c',w1,w2,w3,w4,ask,zFi,hg]));exact key
  ·have c' : ¬(i:Int)<(j:Int):=by omega
   refine⟨i,by omega,by omega,?_⟩;apply zC;(repeat((conv=>lhs;whnf);simp only[go_sem,simprocAttr,c',hg]));apply zN;((repeat((conv=>lhs;whnf);simp only[go_sem,simprocAttr]));try rfl)
theorem zBf {S:zB} {f:PV} {n:Nat} {p:Nat→Bool} (hf:zKz S f n p) (hn:n≤1000000000) : ∃r,r≤n∧callRL Tryz.prog zE 82 [.int .i64 n,f] S=some (.int .i64 r,S):=by
 obtain⟨r,_,h2,key⟩:=zBe hf hn n 0 n (by omega) (by omega) (bF _);refine⟨r,h2,?_⟩;refine FX.callRL (r:=(.int .i64 r,S)) ok82_ 1000 rfl rfl ?_;(repeat((conv=>lhs;whnf);simp only[go_sem,simprocAttr]));exact key
noncomputable def zRi:FX:=⟨Tryz.f83,zE.of 83,[]⟩
instance ok83_:zRi.ok 83:=FX.mk'
theorem zJA {S:zB} {id a:Nat} {L:List Node} {s:Node} (h1:zj S 1=some [[.msl id 0 L.length false]]) (h2:zj S id=some (Node.rows L)) (h3:zj S a=some [s.cells]) (hL : ∀m∈L,m.ok) (hs:s.ok) (i:Nat) (hi:i<L.length):callRL Tryz.prog zE 83 [.int .i64 i,.mp 1 0 0,.mp a 0 0] S=some (.bool (decide (0≤(L.getD i nd0).cmp s)),S):=by
 have ix:=vf.idxm (S:=S) (id:=id) (off:=0) (n:=L.length) (ex:=false) (rows:=Node.rows L) i h2 (by rw[Node.rows_length];omega) (Node.rows_ok L) hi;rw[pC]at ix;have gd:=Vg L hi;have hc:=fun S=>Xz S (Wy _ (hL _ (yA hi)) s hs);refine FX.callRL (r:=(.bool (decide (0≤(L.getD i nd0).cmp s)),S)) ok83_ 1000 rfl rfl ?_;((repeat((conv=>lhs;whnf);simp only[go_sem,simprocAttr,h1,h2,h3,ix,gd,hi,hc]));try rfl)
end
end
def zc:List PV:=[.int .i64 0,.str ⟨#[]⟩,.bool false,.sl [] true,.sl [] true,.sl [] true]
theorem SlT.appOld {t el:TypeId} {sz bytes:Nat} (h:SlT t el sz bytes) {b:Nat} {S:zB} {id:Nat} {rows new:List (List PV)} {g:Option Nat} {p:PV} (hS:S[id]? = some (.arr rows (some g) false)) (hb : ¬b≤id) (hg:g=none∨g=some sz) (hp:RowsV S p new) (h1:yM sz rows=true) (h2:yM sz new=true) (h3:(rows.length+new.length)*bytes≤140737488355328) (h4:rows.length+new.length≤9223372036854775807) (h5:(zT rows++zT new).contains id=false) :
  zR Tryz.prog b t t S (.msl id 0 rows.length false) p=some {v:=.msl S.length 0 (rows.length+new.length) false,S:=((S.map (yr [id])).set id .gone)++[.arr (rows++new) (some (some sz)) false],kill:=[id]} := by
 have hk:=W7 (b:=0) (bytes:=bytes) (esz:=sz) (ex:=false) hS hp.rowsS (sJ _) rfl hg h1 h2 h3 h4 h5;have hl:=(bR.1 hS).1;simp only[uw,bA (sJ _)]at hk;have e:uw b bytes sz S (.msl id 0 rows.length false) p=some {v:=.msl S.length 0 (rows.length+new.length) false,S:=((S.map (yr [id])).set id .gone)++[.arr (rows++new) (some (some sz)) false],kill:=[id]} := by
  simp only[uw,hZ hb,hk,pE,uj,List.set_set]
  congr 4
  simp[bL,hl]
 rw[←e];simp only[zR,exact,bY,if_false,h.d,VO,h.z,and_self,if_true,h.b,h.s]
structure S4ok (S4:zB) (N:Nat) (n s:Node) (L:List Node):Prop where
 len:S4.length=N+4
 n3:3≤N
 at1 : ∃x,S4[1]? = some (.arr [[x]] none false)
 walk:S4[2]? = some (.arr [[.fn 81 [] [.mp 1 0 0,.mp 2 0 0]]] none false)
 atN:S4[N]? = some (.arr [n.cells] none false)
 atS:S4[N+1]? = some (.arr [s.cells] none false)
 atD:S4[N+3]? = some (.arr (Node.rows L++[zc]) (some (some 6)) false)
 closed:xS S4=true
theorem zRj (n s:Node):uq [.arr [n.cells] none false,.arr [s.cells] none false,.arr [zc] (some (some 6)) false]:=.cons (yZ n) (.cons (yZ s) (.cons rfl .nil))
theorem zBg {rows:List (List PV)} {ids:List Nat} (h : ∀r∈zT rows,r ∉ ids) (g:Option (Option Nat)) (f:Bool):yr ids (.arr rows g f)=.arr rows g f:=by
 rw[Yh,zCj h]
theorem zMv {S:zB} {L:List Node} (h:OS S L) (hl:L.length≤1000000) (n s:Node) {v:PV} (hv:S[1]? = some (.arr [[v]] none false)) (ho:OutN S v L) :
  ∃S4 ks,zR Tryz.prog S.length 28 28 (S++[.arr [n.cells] none false,.arr [s.cells] none false,.arr [zc] (some (some 6)) false]) v (.msl (S.length+2) 0 1 true)=some {v:=.msl (S.length+3) 0 (L.length+1) false,S:=S4,kill:=ks} ∧ ks=v.refs∧S4ok S4 S.length n s L:=by
 have hN:=h.len;have hp:RowsV (S++[.arr [n.cells] none false,.arr [s.cells] none false,.arr [zc] (some (some 6)) false]) (.msl (S.length+2) 0 1 true) [zc]:=by
  refine RowsV.msl (S.length+2) [zc] true (some (some 6)) false ?_;rw[bZ (by omega)];have:S.length+2-S.length=2:=by omega
  rw[this];rfl
 have hlen:(S++[Obj.arr [n.cells] none false,.arr [s.cells] none false,.arr [zc] (some (some 6)) false]).length=S.length+3:=by simp
 have hcl:=jg h.closed (zRj n s);cases ho with
 | nil =>
  have ha:=vf.appNil S.length (S++[.arr [n.cells] none false,.arr [s.cells] none false,.arr [zc] (some (some 6)) false]) hp rfl (by decide) (by decide);rw[hlen]at ha;refine⟨_,[],ha,rfl,?_⟩;simp only[pB];refine⟨by simp,hN,⟨_,ue hv _⟩,ue h.walk _,?_,?_,?_,jg h.closed (.cons (yZ n) (.cons (yZ s) (.cons rfl (.cons rfl .nil))))⟩
  ·rw[bZ (by omega)];simp
  ·rw[bZ (by omega)];simp
  ·rw[bZ (by omega)];simp[Node.rows]
 | arr id L h3 hh =>
  have hid:=(bR.1 hh).1;have ha:=vf.appOld (b:=S.length) (ue hh [.arr [n.cells] none false,.arr [s.cells] none false,.arr [zc] (some (some 6)) false]) (by omega) (.inr rfl) hp (Node.rows_ok L) rfl (by rw[Node.rows_length];simp only[aE];omega) (by rw[Node.rows_length];simp only[aE];omega) (by rw[Node.rows_refs];rfl);rw[hlen,Node.rows_length]at ha;refine⟨_,[id],ha,rfl,?_⟩;have ka : ∀(j:Nat) (rows:List (List PV)) (g:Option (Option Nat)) (f:Bool),(S++[Obj.arr [n.cells] none false,.arr [s.cells] none false,.arr [zc] (some (some 6)) false])[j]? = some (.arr rows g f)→j≠id→j<S.length+3 →
    (List.set (List.map (yr [id]) (S++[Obj.arr [n.cells] none false,.arr [s.cells] none false,.arr [zc] (some (some 6)) false])) id .gone++[Obj.arr (Node.rows L++[zc]) (some (some 6)) false])[j]? = some (yr [id] (.arr rows g f)):=fun j rows g f hj hne hlt=>by
   rw[sG (by simp;omega),aD (Ne.symm hne),pY,hj];rfl
  refine⟨by simp,hN,?_,?_,?_,?_,?_,?_⟩
  ·have:=ka 1 _ _ _ (ue hv _) (by omega) (by omega);rw[Yh]at this;refine⟨wS [id] (.msl id 0 L.length false),?_⟩;rw[this];simp only[zCi,yn,yQ,Yg,yt,wH,pU,BA,BQ,List.contains_cons,List.contains_nil,beq_self_eq_true,pJ,if_true,pZ,HQ]
  ·rw[ka 2 _ _ _ (ue h.walk _) (by omega) (by omega)];rw[zBg];intro r hr;simp[yn,yQ,wH,yt,PV.refs]at hr;simp;omega
  ·rw[ka S.length [n.cells] none false (by rw[bZ (by omega)];simp) (by omega) (by omega)];rw[zBg (by rw[yZ];intro r hr;cases hr)]
  ·rw[ka (S.length+1) [s.cells] none false (by rw[bZ (by omega)];simp) (by omega) (by omega)];rw[zBg (by rw[yZ];intro r hr;cases hr)]
  ·rw[bZ (by simp)];simp
  ·exact jg (zEG (zEH hcl _) _) (.cons (by
    have : ∀a b:List (List PV),zT (a++b)=zT a++zT b:=fun a b=>by
     induction a with
     | nil=>rfl
     | cons x r ih=>simp only[pX,yn,ih,pB]
    rw[this,Node.rows_refs];rfl) .nil)
theorem zLA (a b:List Node):Node.rows (a++b)=Node.rows a++Node.rows b:=by simp[Node.rows_eq]
theorem zJB (l:List Node) (i:Nat):(Node.rows l).drop i=Node.rows (l.drop i):=by simp[Node.rows_eq,List.map_drop]
theorem zLB (a b:List (List PV)):yM 6 (a++b)=(yM 6 a&&yM 6 b):=by simp[yM]
theorem Kz (a b:List (List PV)):zT (a++b)=zT a++zT b:=by
 induction a with
 | nil=>rfl
 | cons x r ih=>simp only[pX,yn,ih,pB]
theorem zEI {S:zB} {id n:Nat} {rows:List (List PV)} (i:Nat) (h:zj S id=some rows) (hn:n=rows.length) (ho:yM 6 rows=true) (hi:i≤n):zY Tryz.prog 28 S (.msl id 0 n false) (some (.int .i64 i)) none none=some (.msl id i (n-i) false):=by
 have b1:ww 0 (some (.int .i64 (i:Int)))=some i:=by simp[ww]
 have b2 : ∀k,ww k none=some k:=fun k=>rfl;simp only[zY,vf.el,vf.is,vf.k,vf.s,kb,vf.d,h,b1,b2,bI];simp[ho,hn];omega
theorem zLC {S:zB} {id n r:Nat} {rows:List (List PV)} {g:Option (Option Nat)} (h:S[id]? = some (.arr rows g false)) (hn:rows.length=n+1) (ho:yM 6 rows=true) (hr:r≤n):zm Tryz.prog 28 28 S (.msl id (r+1) (n-r) false) (.msl id r (n+1-r) false) =
  some {v:=.int .i64 ((n-r:Nat):Int),S:=S.set id (.arr (rows.take (r+1)++(rows.drop r).take (n-r)) g false)} := by
 have e1:rowsIn S (.msl id r (n+1-r) false)=some (rows.drop r):=by
  rw[Zq,xE h];simp only[bI];rw[bA (by omega)];rw[aN (by rw[HU];omega)]
 have e2:yM 6 (rows.drop r)=true:=by
  simp only[yM,pH]at ho ⊢;intro x hx;exact ho x (BN hx)
 have e3:min (rows.drop r).length (n-r)=n-r:=by rw[HU];omega
 have e4:rows.drop (r+1+(n-r))=[]:=bT (by omega);have k:(tyi Tryz.prog 30).known=true:=jB;simp only[zm,vf.d,vf.k,if_true,vf.s,YZ,h,e1,bI];rw[bA ⟨by omega,ho,e2⟩,e3,e4,pU]
theorem zMw {S4:zB} {N:Nat} {n s:Node} {L:List Node} (h:S4ok S4 N n s L) (r:Nat) (hr:r≤L.length) : ∃S5 S6 S7 S8,
  zI Tryz.prog 28 S4 (.msl (N+3) 0 (L.length+1) false) (.int .i64 (L.length:Int))=some (.mp (N+3) L.length 0) ∧
  zW (tyi Tryz.prog 30) S4 (.mp (N+3) L.length 0) (.agg zc)=some {v:=.skip,S:=S5} ∧
  zW (tyi Tryz.prog 28) S5 (.mp 1 0 0) (.msl (N+3) 0 (L.length+1) false)=some {v:=.skip,S:=S6} ∧
  zj S6 1=some [[.msl (N+3) 0 (L.length+1) false]] ∧
  zY Tryz.prog 28 S6 (.msl (N+3) 0 (L.length+1) false) (some (.int .i64 ((r+1:Nat):Int))) none none=some (.msl (N+3) (r+1) (L.length-r) false) ∧
  zY Tryz.prog 28 S6 (.msl (N+3) 0 (L.length+1) false) (some (.int .i64 (r:Int))) none none=some (.msl (N+3) r (L.length+1-r) false) ∧
  zm Tryz.prog 28 28 S6 (.msl (N+3) (r+1) (L.length-r) false) (.msl (N+3) r (L.length+1-r) false)=some {v:=.int .i64 ((L.length-r:Nat):Int),S:=S7} ∧
  zj S7 1=some [[.msl (N+3) 0 (L.length+1) false]]∧zj S7 (N+1)=some [s.cells] ∧
  zI Tryz.prog 28 S7 (.msl (N+3) 0 (L.length+1) false) (.int .i64 (r:Int))=some (.mp (N+3) r 0) ∧
  zW (tyi Tryz.prog 30) S7 (.mp (N+3) r 0) (.agg s.cells)=some {v:=.skip,S:=S8} ∧
  zj S8 N=some [n.cells]∧S8.length=N+4∧OS S8 (L.take r++s::L.drop r):=by
 have n3:=h.n3;have hlen:=h.len;obtain⟨x,hx⟩:=h.at1;have rl:(Node.rows L++[zc]).length=L.length+1:=by rw[bM,Node.rows_length];rfl
 have ro:yM 6 (Node.rows L++[zc])=true:=by rw[zLB,Node.rows_ok];rfl
 have gd:(Node.rows L++[zc]).getD L.length []=zc:=by
  simp[bL,bZ,Node.rows_length]
 have st:(Node.rows L++[zc]).set L.length zc=Node.rows L++[zc]:=by
  have:=BY (s:=Node.rows L) (t:=[zc]) (i:=L.length) (x:=zc) (by rw[Node.rows_length];exact bF _);rw[this,Node.rows_length,sQ];rfl
 have i1:=vf.idxm (S:=S4) (id:=N+3) (off:=0) (n:=L.length+1) (ex:=false) (rows:=Node.rows L++[zc]) L.length (xE h.atD) (by omega) ro (by omega);rw[pC]at i1;have s5:=VB (v:=.agg zc) (i:=L.length) jB qu h.atD (by omega) (by rw[gd];rfl) rfl rfl;rw[show PV.cells (.agg zc)=zc from rfl,st]at s5;have f5 : ∀(j:Nat) o,S4[j]? = some o→j≠N+3→(S4.set (N+3) (.arr (Node.rows L++[zc]) (some (some 6)) false))[j]? = some o:=fun j o hj hne=>by rw[aD (Ne.symm hne)];exact hj
 have d5:(S4.set (N+3) (.arr (Node.rows L++[zc]) (some (some 6)) false))[N+3]? = some (.arr (Node.rows L++[zc]) (some (some 6)) false):=by rw[BG (by omega)]
 have l5:(S4.set (N+3) (.arr (Node.rows L++[zc]) (some (some 6)) false)).length=N+4:=by rw[aP];exact hlen
 have c5:xS (S4.set (N+3) (.arr (Node.rows L++[zc]) (some (some 6)) false))=true:=qb h.closed _ (by rw[Kz,Node.rows_refs];intro x hx;cases hx);obtain⟨S5,hS5⟩ : ∃S5,S5=S4.set (N+3) (.arr (Node.rows L++[zc]) (some (some 6)) false):=⟨_,rfl⟩;rw[←hS5]at s5 f5 d5 l5 c5;have s6:=VB (S:=S5) (id:=1) (i:=0) (rows:=[[x]]) (g:=none) (v:=.msl (N+3) 0 (L.length+1) false) wv vg (f5 1 _ hx (by omega)) (Nat.zero_lt_one) rfl rfl rfl;have f6 : ∀(j:Nat) o,S4[j]? = some o→j≠N+3→j≠1→(S5.set 1 (.arr ([[x]].set 0 (PV.cells (.msl (N+3) 0 (L.length+1) false))) none false))[j]? = some o:=fun j o hj hne h1=>by rw[aD (Ne.symm h1)];exact f5 j o hj hne
 have d6:(S5.set 1 (.arr ([[x]].set 0 (PV.cells (.msl (N+3) 0 (L.length+1) false))) none false))[N+3]? = some (.arr (Node.rows L++[zc]) (some (some 6)) false):=by rw[aD (by omega)];exact d5
 have b6:(S5.set 1 (.arr ([[x]].set 0 (PV.cells (.msl (N+3) 0 (L.length+1) false))) none false))[1]? = some (.arr [[.msl (N+3) 0 (L.length+1) false]] none false):=by rw[BG (by omega)];rfl
 have l6:(S5.set 1 (.arr ([[x]].set 0 (PV.cells (.msl (N+3) 0 (L.length+1) false))) none false)).length=N+4:=by rw[aP];exact l5
 have c6:xS (S5.set 1 (.arr ([[x]].set 0 (PV.cells (.msl (N+3) 0 (L.length+1) false))) none false))=true:=qb c5 _ (by
  intro y hy;simp only[sX,zCh,yn,yQ,Yg,yt,wH,pU,SU]at hy;omega)
 obtain⟨S6,hS6⟩ : ∃S6,S6=S5.set 1 (.arr ([[x]].set 0 (PV.cells (.msl (N+3) 0 (L.length+1) false))) none false):=⟨_,rfl⟩;rw[←hS6]at s6 f6 d6 b6 l6 c6;have t1:=zEI (S:=S6) (id:=N+3) (n:=L.length+1) (r+1) (xE d6) rl.symm ro (by omega);have t2:=zEI (S:=S6) (id:=N+3) (n:=L.length+1) r (xE d6) rl.symm ro (by omega);have e1:L.length+1-(r+1)=L.length-r:=by omega
 rw[e1]at t1;have cp:=zLC (S:=S6) (id:=N+3) (n:=L.length) (r:=r) d6 rl ro hr;have rows7:((Node.rows L++[zc]).drop r).take (L.length-r)=Node.rows (L.drop r):=by
  rw[List.drop_append_of_le_length (by rw[Node.rows_length];exact hr),zJB,List.take_append_of_le_length (by rw[Node.rows_length,HU];omega),aN (by rw[Node.rows_length,HU];omega)]
 rw[rows7]at cp;obtain⟨R7,hR7⟩ : ∃R7,R7=(Node.rows L++[zc]).take (r+1)++Node.rows (L.drop r):=⟨_,rfl⟩;rw[←hR7]at cp;have tl:((Node.rows L++[zc]).take (r+1)).length=r+1:=by rw[sI];omega
 have r7l:R7.length=L.length+1:=by rw[hR7,bM,tl,Node.rows_length,HU];omega
 have tok:yM 6 ((Node.rows L++[zc]).take (r+1))=true:=by
  simp only[yM,pH]at ro ⊢;intro y hy;exact ro y (HN hy)
 have r7o:yM 6 R7=true:=by rw[hR7,zLB,tok,Node.rows_ok];rfl
 have tref : ∀l:List (List PV),zT l=[]→∀k,zT (l.take k)=[]:=fun l=>by
  induction l with
  | nil=>intro _ k;simp[wH]
  | cons y l ih =>
   intro hl k;rw[yn]at hl;have h1:=List.append_eq_nil_iff.1 hl;cases k with
   | zero=>rfl
   | succ k=>rw[SO,yn,h1.1,ih h1.2 k];rfl
 have r7r:zT R7=[]:=by
  rw[hR7,Kz,tref _ (by rw[Kz,Node.rows_refs];rfl),Node.rows_refs];rfl
 have d7:(S6.set (N+3) (.arr R7 (some (some 6)) false))[N+3]? = some (.arr R7 (some (some 6)) false):=by rw[BG (by omega)]
 have f7 : ∀(j:Nat) o,S6[j]? = some o→j≠N+3→(S6.set (N+3) (.arr R7 (some (some 6)) false))[j]? = some o:=fun j o hj hne=>by rw[aD (Ne.symm hne)];exact hj
 have l7:(S6.set (N+3) (.arr R7 (some (some 6)) false)).length=N+4:=by rw[aP];exact l6
 have c7:xS (S6.set (N+3) (.arr R7 (some (some 6)) false))=true:=qb c6 _ (by rw[r7r];intro y hy;cases hy);obtain⟨S7,hS7⟩ : ∃S7,S7=S6.set (N+3) (.arr R7 (some (some 6)) false):=⟨_,rfl⟩;rw[←hS7]at cp d7 f7 l7 c7;have i2:=vf.idxm (S:=S7) (id:=N+3) (off:=0) (n:=L.length+1) (ex:=false) (rows:=R7) r (xE d7) (by omega) r7o (by omega);rw[pC]at i2;have g7:(R7.getD r []).length=6:=by
  have hm:R7.getD r []∈R7:=by
   have:r<R7.length:=by omega
   simp[bL,this]
  simp only[yM,pH,beq_iff_eq]at r7o;exact r7o _ hm
 have s8:=VB (v:=.agg s.cells) (i:=r) jB qu d7 (by omega) g7 (Node.cells_length s) (Node.cells_cell s);have rows8:R7.set r s.cells=Node.rows (L.take r++s::L.drop r):=by
  have tr:((Node.rows L++[zc]).take (r+1)).set r s.cells=Node.rows (L.take r)++[s.cells]:=by
   refine PR fun i=>?_;rw[HO,tl];by_cases hi:r=i
   ·subst hi;rw[bA rfl,bA (by omega)];rw[bZ (by rw[Node.rows_length,sI];omega)];have:r-(Node.rows (List.take r L)).length=0:=by rw[Node.rows_length,sI];omega
    rw[this];rfl
   ·rw[hZ hi];by_cases hlt:i<r
    ·rw[sR (by omega),sG (by rw[Node.rows_length];omega),sG (by rw[Node.rows_length,sI];omega),←Qm,sR hlt]
    ·rw[sA (by rw[sI];omega),sA (by rw[bM,Node.rows_length,sI];simp only[aE];omega)]
  rw[hR7,List.set_append_left _ _ (by omega),tr,zLA];simp[Node.rows]
 rw[show PV.cells (.agg s.cells)=s.cells from rfl,rows8]at s8;have w7:=f7 2 _ (f6 2 _ h.walk (by omega) (by omega)) (by omega);have b7:=f7 1 _ b6 (by omega);have n7:=f7 N _ (f6 N _ h.atN (by omega) (by omega)) (by omega);have a7:=f7 (N+1) _ (f6 (N+1) _ h.atS (by omega) (by omega)) (by omega);refine⟨S5,S6,S7,_,i1,s5,s6,xE b6,t1,t2,cp,xE b7,xE a7,i2,s8,?_,?_,?_,?_,?_⟩
 ·exact xE (by rw[aD (by omega)];exact n7)
 ·rw[aP];exact l7
 ·rw[aD (by omega)];exact w7
 ·refine⟨_,by rw[aD (by omega)];exact b7,?_⟩;have e:L.length+1=(L.take r++s::L.drop r).length:=by rw[bM,bK,sI,HU];omega
  rw[e];exact .arr (N+3) _ (by omega) (by rw[BG (by omega)])
 ·exact qb c7 _ (by rw[Node.rows_refs];intro y hy;cases hy)
section
variable {R:Type}
noncomputable def Vh (b0:Nat) (F:FX):List Oper→Env→zB→(List (Nat × Nat)→Option R)→Option R
 | [],e,S,k=>k []
 | o::r,e,S,k=>doK Tryz.prog zE F.h b0 o e S (fun e' S'=>Vh b0 F r e' S' fun q=>k ((kind zE o e,xt o e)::q)) (fun e' S'=>Vh b0 F r e' S' fun q=>k ((kind zE o e,xt o e)::q))
def zLD (ops:Array Oper) (q:List (Nat × Nat)):Bool :=
 let b:=Region.before ops
 (List.range ops.size).all fun j=>match ops[j]? with
  | none=>true
  | some o=>(o.after.all fun e => !Region.binds .any e||decide (e.on<j)) &&
   (List.range j).all fun i=>match ops[i]? with
    | none=>true
    | some p=>(b.getD j 0).testBit i||(Xh ops (q.getD i (0,0)).1 (q.getD j (0,0)).1 p o||(Oper.apart ops p o&&zJ3 (q.getD i (0,0)).1 (q.getD j (0,0)).1 (q.getD i (0,0)).2 (q.getD j (0,0)).2))
theorem zLE {ops:Array Oper} {q:List (Nat × Nat)} (hq : ∀x∈q,x.1<8) (h:zLD ops q=true):uS ops (fun j=>(q.map fun x=>x.1+8*x.2).getD j 0)=true:=by
 have hx : ∀j,(q.map fun x=>x.1+8*x.2).getD j 0 % 8=(q.getD j (0,0)).1∧(q.map fun x=>x.1+8*x.2).getD j 0 / 8=(q.getD j (0,0)).2:=fun j=>by
  rw[bL,bL,pY]
  cases e:q[j]? with
  | none=>exact⟨rfl,rfl⟩
  | some x =>
   have:=hq x (pF e);simp only[pE,BE];omega
 unfold zLD at h;unfold uS;simp only[(hx _).1,(hx _).2];exact h
theorem VC (b0:Nat) (F:FX) (ops:Array Oper) : ∀(l:List Oper) {e:Env} {S:zB} {k:List (Nat × Nat)→Option R} {z:R},(∀o∈l,o.guard=none)→Vh b0 F l e S k=some z→∃q,wB (F.C b0) ops l e S=q.map (fun x=>x.1+8*x.2)∧(∀x∈q,x.1<8)∧k q=some z
 | [],e,S,k,z,hg,h=>⟨[],rfl,by simp,h⟩
 | o::r,e,S,k,z,hg,h=>by
  rw[Vh,zA0]at h;have hw:wV ops e o=some true:=by simp only[wV,hg o (by simp)]
  have fin : ∀(e1:Env) (S1:zB),(jT (uX Tryz.prog zE b0 F.h) o.op e S).step o.dst e S=some (e1,S1)→(Vh b0 F r e1 S1 fun q=>k ((kind zE o e,xt o e)::q))=some z→∃q,wB (F.C b0) ops (o::r) e S=q.map (fun x=>x.1+8*x.2)∧(∀x∈q,x.1<8)∧k q=some z:=fun e1 S1 hs hr=>by
   have h1:vI (F.C b0) ops o e S=some (e1,S1):=by
    simp only[vI,hw,bI,if_true];exact QO hs
   obtain⟨q,q1,q2,q3⟩:=VC b0 F ops r (fun o ho=>hg o (by simp[ho])) hr;refine⟨(kind zE o e,xt o e)::q,?_,?_,q3⟩
   ·simp only[wB,h1,q1,pZ];rfl
   ·intro x hx
    rcases sW.1 hx with rfl | hx
    ·exact WY zE o e
    ·exact q2 x hx
  cases hq:jT (uX Tryz.prog zE b0 F.h) o.op e S with
  | val x =>
   rw[hq]at h;simp only[orK,vZ,vC]at h;obtain⟨v,h1,h2⟩:=bind_some h;exact fin _ _ (by rw[hq];simp only[OR.step,h1,pE]) h2
  | out x =>
   rw[hq]at h;simp only[orK,vZ,vC]at h;obtain⟨v,h1,h2⟩:=bind_some h;exact fin _ _ (by rw[hq];simp only[OR.step,h1,pE]) h2
  | eff x =>
   rw[hq]at h;simp only[orK,vZ,KB,vC]at h;obtain⟨v,h1,h2⟩:=bind_some h;exact fin _ _ (by rw[hq];simp only[OR.step,h1,pE]) h2
  | sto x =>
   rw[hq]at h;simp only[orK,vZ,vC]at h;obtain⟨v,h1,h2⟩:=bind_some h;exact fin _ _ (by rw[hq];simp only[OR.step,h1,pE]) h2
noncomputable def zLF (F:FX) (p:Nat):Array Oper:=match sub F.root p with | .region _ ops _=>ops | _ => #[]
noncomputable def zNm (F:FX) (p:Nat):Bool:=match sub F.root p with | .region _ ops _=>ops.toList.all fun o=>o.guard.isNone | _=>false
theorem JA {b0:Nat} {F:FX} {p:Nat} {e:Env} {S:zB} (hr:zNm F p=true) (q:List (Nat × Nat)) (h:Vh (R:=List (Nat × Nat)) b0 F (zLF F p).toList e S some=some q) (hd:zLD (zLF F p) q=true):zCd b0 F p e S=true:=by
 rw[zHH];unfold zM1;unfold zNm at hr;unfold zLF at h hd
 cases hc:sub F.root p with
 | region id ops d =>
  rw[hc]at hr h hd;simp only at hr h hd ⊢;obtain⟨q',q1,q2,q3⟩:=VC b0 F ops ops.toList (fun o ho=>by
   have:=pH.1 hr o ho
   simpa using this) h
  cases q3;rw[q1,zLE q2 hd,sM]
 | _=>rw[hc]at hr;cases hr
end
section
theorem JB (v:PV) (r:List PV):part (tyi Tryz.prog 114) (v::r)=some v:=by
 have e:(tyi Tryz.prog 114).isAgg=false:=by kernel_rfl
 have k:(tyi Tryz.prog 114).known=true:=by kernel_rfl
 simp[part,k,e]
theorem XR:(jk (.agg #[.int .i64 0,.string ⟨#[]⟩,.bool false,.slice none 0 0,.slice none 0 0,.slice none 0 0])).cells=[.int .i64 0,.str ⟨#[]⟩,.bool false,.sl [] true,.sl [] true,.sl [] true]:=by rfl
def zLG (n:Node):Prop:=∀(L:List Node) (S:zB),OS S L→(∀m∈L,m.ok)→L.length+n.count≤100000→∃S' L',callRL Tryz.prog zE 81 [.agg n.cells,.mp 1 0 0,.mp 2 0 0] S=some (.tup [],S')∧OS S' L'∧S.length≤S'.length∧L'.length≤L.length+n.count∧(∀m∈L',m.ok)∧∀x,x∈L'↔x∈L∨x∈n.syms
theorem zEJ {l:List Node} {i:Nat} (h:i<l.length):Node.counts (l.drop i)=(l.getD i nd0).count+Node.counts (l.drop (i+1)):=by
 rw[xM h];rfl
theorem zGX {l:List Node} {i:Nat} (h:i<l.length):Node.symss (l.drop i)=(l.getD i nd0).syms++Node.symss (l.drop (i+1)):=by
 rw[xM h];rfl
section
attribute [local irreducible] Vs.callL Vs.callRL tyi zO zl zf zR zW za zI zY zA zK zb zV zG zJ zU zn yI zm zL ze Vs.gc zH
noncomputable def zEK:FX:=⟨Tryz.f81,zE.of 81,[5]⟩
instance ok81_:zEK.ok 81:=FX.mk'
theorem Vi (n:Node) (hn:n.ok) (ih : ∀k∈n.kids,zLG k) (b k:Nat) (hk:3≤k) : ∀(m i:Nat),i+m=n.kids.length→∀(L:List Node) (S:zB),OS S L→k≤S.length→(∀m∈L,m.ok)→L.length+Node.counts (n.kids.drop i)≤100000 →
  ∃S' L',zS b zEK 0 60 k [.blk 0] [(2,.mp 2 0 0),(51,.sl (Node.rows n.kids) false),(52,.int .i64 n.kids.length),(53,.int .i64 i)] S=some (.tup [],S')∧OS S' L'∧k≤S'.length∧L'.length≤L.length+Node.counts (n.kids.drop i)∧(∀m∈L',m.ok)∧∀x,x∈L'↔x∈L∨x∈Node.symss (n.kids.drop i):=by
 intro m
 induction m with
 | zero =>
  intro i hi L S hS hkl hL hc;have h1 : ¬(i:Int)<(n.kids.length:Int):=by omega
  obtain⟨Sg,hG⟩ : ∃Sg,Vs.gc k [(2,.undef),(51,.undef),(52,.undef),(53,.undef),(54,.undef)] S=Sg:=⟨_,rfl⟩;have og:OS Sg L:=hG ▸ hS.gc hk hkl _;have kg:k≤Sg.length:=hG ▸ (zKI hkl).1;rw[bT (l:=n.kids) (by omega)]at hc ⊢;refine⟨Sg,L,?_,og,kg,by omega,hL,by simp[Node.symss]⟩;apply zC;(repeat((conv=>lhs;whnf);simp only[go_sem,↓reduceIte,Nat.reduceEqDiff,Nat.reduceBEq,Nat.reduceAdd,Nat.reduceMul,Nat.reduceSub,Nat.reduceLT,Nat.reduceLeDiff,reduceCtorEq,Int.reduceToNat,Int.reduceLE,Int.reduceLT,Int.reduceEq,h1,hG]));apply zN;((repeat((conv=>lhs;whnf);simp only[go_sem,↓reduceIte,Nat.reduceEqDiff,Nat.reduceBEq,Nat.reduceAdd,Nat.reduceMul,Nat.reduceSub,Nat.reduceLT,Nat.reduceLeDiff,reduceCtorEq,Int.reduceToNat,Int.reduceLE,Int.reduceLT,Int.reduceEq]));try rfl)
 | succ m hm =>
  intro i hi L S hS hkl hL hc;have h1:(i:Int)<(n.kids.length:Int):=by omega
  have h2:=zg (i:=i) (n:=n.kids.length) (by omega) hn.len;have h4:0≤(i:Int)∧(i:Int)<(n.kids.length:Int):=⟨by omega,h1⟩;rw[zEJ (by omega)]at hc ⊢;rw[zGX (by omega)];have hf:uq [Obj.arr [(n.kids.getD i nd0).cells] none false]:=.cons (yZ _) .nil;have o1:=hS.ext hf;obtain⟨S1,L1,e1,e2,e3,e4,e5,e6⟩:=ih _ (yA (l:=n.kids) (i:=i) (by omega)) L _ o1 hL (by omega);have hl1:(S++[Obj.arr [(n.kids.getD i nd0).cells] none false]).length=S.length+1:=by simp
  have hcall:=wC (by kernel_rfl) e1 e3 o1.closed (by simp[wU,yQ,yt,kr,Node.refs,vM,hl1];omega);have hmv:zf Tryz.prog zE (S++[Obj.arr [(n.kids.getD i nd0).cells] none false]) (.fn 81 [] [.mp 1 0 0,.mp 2 0 0]) [.agg (n.kids.getD i nd0).cells]=some {v:=.tup [],S:=S1} := by
   rw[Za];exact hcall
  have hw:=xE o1.walk;obtain⟨Sg,hG⟩ : ∃Sg,Vs.gc k [(2,.mp 2 0 0),(51,.sl (Node.rows n.kids) false),(52,.int .i64 n.kids.length),(53,.int .i64 ((i+1:Nat):Int))] S1=Sg:=⟨_,rfl⟩;have og:OS Sg L1:=hG ▸ e2.gc hk (by omega) _;have kg:k≤Sg.length:=hG ▸ (zKI (by omega)).1;obtain⟨S',L',k1,k2,k3,k4,k5,k6⟩:=hm (i+1) (by omega) L1 Sg og kg e5 (by omega);refine⟨S',L',?_,k2,k3,by omega,k5,fun x=>?_⟩
  ·apply zC;(repeat((conv=>lhs;whnf);simp only[go_sem,↓reduceIte,Nat.reduceEqDiff,Nat.reduceBEq,Nat.reduceAdd,Nat.reduceMul,Nat.reduceSub,Nat.reduceLT,Nat.reduceLeDiff,reduceCtorEq,Int.reduceToNat,Int.reduceLE,Int.reduceLT,Int.reduceEq,h1,h2,h4,hG,kF,jK,hw,JB,hmv,zr]));exact k1
  ·rw[k6,e6,sB];constructor
   ·rintro ((h | h) | h)
    ·exact .inl h
    ·exact .inr (.inl h)
    ·exact .inr (.inr h)
   ·rintro (h | h | h)
    ·exact .inl (.inl h)
    ·exact .inl (.inr h)
    ·exact .inr h
theorem zJC : ∀n:Node,n.ok→zLG n:=by
 refine Node.ind' fun n ih0 hn=>?_;have ih : ∀k∈n.kids,zLG k:=fun k hk=>ih0 k hk (hn.kids k hk);intro L S hS hL hc;have hck:=Kh n;have N3:=hS.len;have flat2:uq [Obj.arr [n.cells] none false,.arr [n.sym.cells] none false]:=.cons (yZ n) (.cons (yZ _) .nil);have hl2:(S++[Obj.arr [n.cells] none false,.arr [n.sym.cells] none false]).length=S.length+2:=by simp
 cases e:yO n.op
 ·obtain⟨S',L',k1,k2,k3,k4,k5,k6⟩:=Vi n hn ih S.length (S.length+2) (by omega) n.kids.length 0 (by omega) L _ (hS.ext flat2) (by omega) hL (by rw[bX];omega);rw[bX]at k4 k6;refine⟨S',L',?_,k2,by omega,by omega,k5,fun x=>by rw[k6,Node.syms_eq,e];simp⟩;refine FX.callRL ok81_ 1000 rfl rfl ?_;(repeat((conv=>lhs;whnf);simp only[go_sem,↓reduceIte,Nat.reduceEqDiff,Nat.reduceBEq,Nat.reduceAdd,Nat.reduceMul,Nat.reduceSub,Nat.reduceLT,Nat.reduceLeDiff,reduceCtorEq,Int.reduceToNat,Int.reduceLE,Int.reduceLT,Int.reduceEq,jJ,kF,kZ,jK,ut,pB,bM,zr,e]));exact k1
 ·obtain⟨v,hv,ho⟩:=hS.out;have v1:=xE (ue hv [Obj.arr [n.cells] none false,.arr [n.sym.cells] none false]);have aS:zj (S++[Obj.arr [n.cells] none false,.arr [n.sym.cells] none false]) (S.length+1)=some [n.sym.cells]:=ut S _ _;have hlen:yI (tyi Tryz.prog 28) v=some (.int .i64 (L.length:Int)):=by
   cases ho with
   | nil=>exact zMp _ _
   | arr id L h3 hh=>exact zKk _ _ _ _
  have asks:zKz (S++[Obj.arr [n.cells] none false,.arr [n.sym.cells] none false]) (.fn 83 [] [.mp 1 0 0,.mp (S.length+1) 0 0]) L.length (fun i=>decide (0≤(L.getD i nd0).cmp n.sym)):=by
   intro i hi;cases ho with
   | nil=>simp at hi
   | arr id L h3 hh =>
    have hp:=zJA v1 (xE (ue hh _)) aS hL (YG hn) i hi;have:=wC (by kernel_rfl) hp (bF _) (jg hS.closed flat2) (by simp[wU,yQ,yt,kq,vM,hl2];try omega);rw[Za];exact this
  obtain⟨r,hr,hse⟩:=zBf asks (by omega);have hsm:=wC (by kernel_rfl) hse (bF _) (jg hS.closed flat2) (by simp[wU,yQ,yt,kq,vM,PV.refs,hl2];try omega);by_cases hin:r<L.length∧(L.getD r nd0).cmp n.sym=0
  ·obtain⟨hrl,heq⟩:=hin;have hmem:n.sym∈L:=by
    rw[←(cmp_eq _ _).1 heq];exact yA hrl
   obtain⟨S',L',k1,k2,k3,k4,k5,k6⟩:=Vi n hn ih S.length (S.length+2) (by omega) n.kids.length 0 (by omega) L _ (hS.ext flat2) (by omega) hL (by rw[bX];omega);rw[bX]at k4 k6;refine⟨S',L',?_,k2,by omega,by omega,k5,fun x=>?_⟩
   ·cases ho with
    | nil=>simp at hrl
    | arr id L h3 hh =>
     have h2:=xE (ue hh [Obj.arr [n.cells] none false,.arr [n.sym.cells] none false]);have ix:=vf.idxm (S:=S++[Obj.arr [n.cells] none false,.arr [n.sym.cells] none false]) (id:=id) (off:=0) (n:=L.length) (ex:=false) (rows:=Node.rows L) r h2 (by rw[Node.rows_length];omega) (Node.rows_ok L) hrl;rw[pC]at ix;have gd:=Vg L hrl;have hE:=fun S=>jI S _ _ (hL _ (yA hrl)) (YG hn);have ne : ¬(r:Int)=(L.length:Int):=by omega
     refine FX.callRL ok81_ 1000 rfl rfl ?_;(repeat((conv=>lhs;whnf);simp only[go_sem,↓reduceIte,Nat.reduceEqDiff,Nat.reduceBEq,Nat.reduceAdd,Nat.reduceMul,Nat.reduceSub,Nat.reduceLT,Nat.reduceLeDiff,reduceCtorEq,Int.reduceToNat,Int.reduceLE,Int.reduceLT,Int.reduceEq,jJ,kF,kZ,jK,ut,pB,bM,zr,e,v1,hlen,hsm,ne,ix,h2,gd,hrl,aS,hE,heq]));exact k1
   ·rw[k6,Node.syms_eq,e,bA rfl];constructor
    ·rintro (h | h)
     ·exact .inl h
     ·exact .inr (SG _ h)
    ·rintro (h | h)
     ·exact .inl h
     ·rcases sB.1 h with h | h
      ·rw[SU]at h;rw[h];exact .inl hmem
      ·exact .inr h
  ·obtain⟨S4,ks,hA,hks,h4⟩:=zMv hS (by omega) n n.sym hv ho;obtain⟨S5,S6,S7,S8,p1,p2,p3,p4,p5,p6,p7,p8,p9,p10,p11,p12,p13,p14⟩:=zMw h4 r hr;have w1:IntKind.i64.wrap ((r:Int)+1)=((r+1:Nat):Int):=by rw[bE];omega
   have oks : ∀m∈L.take r++n.sym::L.drop r,m.ok:=fun m hm=>by
    rcases sB.1 hm with h | h
    ·exact hL m (HN h)
    ·rcases sW.1 h with rfl | h
     ·exact YG hn
     ·exact hL m (BN h)
   have len1:(L.take r++n.sym::L.drop r).length=L.length+1:=by rw[bM,bK,sI,HU];omega
   obtain⟨S',L',k1,k2,k3,k4,k5,k6⟩:=Vi n hn ih S.length S8.length (by omega) n.kids.length 0 (by omega) _ S8 p14 (bF _) oks (by rw[bX,len1];omega);rw[bX,len1]at k4;rw[bX]at k6;refine⟨S',L',?_,k2,by omega,by omega,k5,fun x=>?_⟩
   ·rw[hks]at hA;unfold zc at hA p2;cases ho with
    | nil =>
     have hr0:r=0:=by simpa using hr
     subst hr0;simp only[PV.refs,zHJ]at hA;simp only[bU,ST]at hlen hsm hA p1 p2 p3 p4 p5 p6 p7 p8 p10;have w1':IntKind.i64.wrap (0+1)=((0+1:Nat):Int):=by rfl
     have hd:zCd S.length zEK 876 [(1,.mp 1 0 0),(2,.mp 2 0 0),(3,.mp S.length 0 0),(4,.mp (S.length+1) 0 0),(6,.int .i64 0),(14,.undef),(31,.bool true)] (S++[Obj.arr [n.cells] none false,.arr [n.sym.cells] none false])=true:=by
      refine JA (by kernel_rfl) [(1,0),(0,0),(1,0),(2,0),(1,0),(1,S.length+3+1),(3,S.length+3+1),(3,1+1)] ?_ (by kernel_rfl);((repeat((conv=>lhs;whnf);simp only[go_sem,↓reduceIte,Nat.reduceEqDiff,Nat.reduceBEq,Nat.reduceAdd,Nat.reduceMul,Nat.reduceSub,Nat.reduceLT,Nat.reduceLeDiff,reduceCtorEq,Int.reduceToNat,Int.reduceLE,Int.reduceLT,Int.reduceEq,jJ,kF,kZ,jK,ut,pB,bM,zr,v1,hlen,uM,XR,hA,p1,p2,p3]));try rfl)
     refine FX.callRL ok81_ 1000 rfl rfl ?_;(repeat((conv=>lhs;whnf);simp only[go_sem,↓reduceIte,Nat.reduceEqDiff,Nat.reduceBEq,Nat.reduceAdd,Nat.reduceMul,Nat.reduceSub,Nat.reduceLT,Nat.reduceLeDiff,reduceCtorEq,Int.reduceToNat,Int.reduceLE,Int.reduceLT,Int.reduceEq,jJ,kF,kZ,jK,ut,pB,bM,zr,e,v1,hlen,hsm,uM,XR,hd,hA,p1,p2,p3,p4,p5,p6,p7,p8,p9,p10,p11,p12,w1']));exact k1
    | arr id L h3 hh =>
     have hid:=(bR.1 hh).1;have m1:Xq [id] 1=false:=by rw[jl];simp;omega
     have m2:Xq [id] 2=false:=by rw[jl];simp;omega
     have m3:Xq [id] S.length=false:=by rw[jl];simp;omega
     have m4:Xq [id] (S.length+1)=false:=by rw[jl];simp;omega
     have m5:Xq [id] (S.length+2)=false:=by rw[jl];simp;omega
     have m6:Xq [id] id=true:=by rw[jl];simp
     simp only[Yg]at hA;by_cases hrl:r<L.length
     ·have hne0 : ¬(L.getD r nd0).cmp n.sym=0:=fun h=>hin ⟨hrl,h⟩;have h2:=xE (ue hh [Obj.arr [n.cells] none false,.arr [n.sym.cells] none false]);have ix:=vf.idxm (S:=S++[Obj.arr [n.cells] none false,.arr [n.sym.cells] none false]) (id:=id) (off:=0) (n:=L.length) (ex:=false) (rows:=Node.rows L) r h2 (by rw[Node.rows_length];omega) (Node.rows_ok L) hrl;rw[pC]at ix;have gd:=Vg L hrl;have hE:=fun S=>jI S _ _ (hL _ (yA hrl)) (YG hn);have ne : ¬(r:Int)=(L.length:Int):=by omega
      have hd:zCd S.length zEK 876 [(1,.mp 1 0 0),(2,.mp 2 0 0),(3,.mp S.length 0 0),(4,.mp (S.length+1) 0 0),(6,.int .i64 (r:Int)),(14,.undef),(31,.bool true)] (S++[Obj.arr [n.cells] none false,.arr [n.sym.cells] none false])=true:=by
       refine JA (by kernel_rfl) [(1,0),(0,0),(1,0),(2,0),(4,0),(1,S.length+3+1),(3,S.length+3+1),(3,1+1)] ?_ (by kernel_rfl);((repeat((conv=>lhs;whnf);simp only[go_sem,↓reduceIte,Nat.reduceEqDiff,Nat.reduceBEq,Nat.reduceAdd,Nat.reduceMul,Nat.reduceSub,Nat.reduceLT,Nat.reduceLeDiff,reduceCtorEq,Int.reduceToNat,Int.reduceLE,Int.reduceLT,Int.reduceEq,jJ,kF,kZ,jK,ut,pB,bM,zr,v1,hlen,uM,XR,hA,p1,p2,p3,m1,m2,m3,m4,m5,m6]));try rfl)
      refine FX.callRL ok81_ 1000 rfl rfl ?_;(repeat((conv=>lhs;whnf);simp only[go_sem,↓reduceIte,Nat.reduceEqDiff,Nat.reduceBEq,Nat.reduceAdd,Nat.reduceMul,Nat.reduceSub,Nat.reduceLT,Nat.reduceLeDiff,reduceCtorEq,Int.reduceToNat,Int.reduceLE,Int.reduceLT,Int.reduceEq,jJ,kF,kZ,jK,ut,pB,bM,zr,e,v1,hlen,hsm,ne,ix,h2,gd,hrl,aS,hE,hne0,uM,XR,hd,hA,p1,p2,p3,p4,p5,p6,p7,p8,p9,p10,p11,p12,w1,m1,m2,m3,m4,m5,m6]));exact k1
     ·obtain rfl:r=L.length:=by omega
      have hd:zCd S.length zEK 876 [(1,.mp 1 0 0),(2,.mp 2 0 0),(3,.mp S.length 0 0),(4,.mp (S.length+1) 0 0),(6,.int .i64 (L.length:Int)),(14,.undef),(31,.bool true)] (S++[Obj.arr [n.cells] none false,.arr [n.sym.cells] none false])=true:=by
       refine JA (by kernel_rfl) [(1,0),(0,0),(1,0),(2,0),(4,0),(1,S.length+3+1),(3,S.length+3+1),(3,1+1)] ?_ (by kernel_rfl);((repeat((conv=>lhs;whnf);simp only[go_sem,↓reduceIte,Nat.reduceEqDiff,Nat.reduceBEq,Nat.reduceAdd,Nat.reduceMul,Nat.reduceSub,Nat.reduceLT,Nat.reduceLeDiff,reduceCtorEq,Int.reduceToNat,Int.reduceLE,Int.reduceLT,Int.reduceEq,jJ,kF,kZ,jK,ut,pB,bM,zr,v1,hlen,uM,XR,hA,p1,p2,p3,m1,m2,m3,m4,m5,m6]));try rfl)
      refine FX.callRL ok81_ 1000 rfl rfl ?_;(repeat((conv=>lhs;whnf);simp only[go_sem,↓reduceIte,Nat.reduceEqDiff,Nat.reduceBEq,Nat.reduceAdd,Nat.reduceMul,Nat.reduceSub,Nat.reduceLT,Nat.reduceLeDiff,reduceCtorEq,Int.reduceToNat,Int.reduceLE,Int.reduceLT,Int.reduceEq,jJ,kF,kZ,jK,ut,pB,bM,zr,e,v1,hlen,hsm,uM,XR,hd,hA,p1,p2,p3,p4,p5,p6,p7,p8,p9,p10,p11,p12,w1,m1,m2,m3,m4,m5,m6]));exact k1
   ·rw[k6,Node.syms_eq,e,bA rfl];have mm:x∈L.take r++n.sym::L.drop r↔x∈L∨x=n.sym:=by
     have hL':x∈L↔x∈L.take r∨x∈L.drop r:=by rw[←sB,HJ]
     rw[hL',sB,sW];constructor
     ·rintro (h | h | h)
      ·exact .inl (.inl h)
      ·exact .inr h
      ·exact .inl (.inr h)
     ·rintro ((h | h) | h)
      ·exact .inl h
      ·exact .inr (.inr h)
      ·exact .inr (.inl h)
    rw[mm,sB,SU];constructor
    ·rintro ((h | h) | h)
     ·exact .inl h
     ·exact .inr (.inl h)
     ·exact .inr (.inr h)
    ·rintro (h | h | h)
     ·exact .inl (.inl h)
     ·exact .inl (.inr h)
     ·exact .inr h
theorem JC (f:FuncId) (a c:List PV):PV.cells (.fn f a c)=[.fn f a c]:=rfl
theorem zH4 (f:FuncId) (a c:List PV):PV.cell (.fn f a c)=true:=rfl
noncomputable def zGY:PV:=((tyi Tryz.prog 114).zero.getD []).headD .undef
theorem Qr (id:Nat):zU (tyi Tryz.prog 114) id=some {v:=.mp id 0 0,new:=some ([[zGY]],none)} := by
 have e:(tyi Tryz.prog 114).zero=some [zGY]:=by kernel_rfl
 have e2:zGY.cell=true:=by kernel_rfl
 simp[zU,e,e2]
theorem zLH:(tyi Tryz.prog 114).known=true:=by kernel_rfl
theorem zLI:(tyi Tryz.prog 114).size=1:=by kernel_rfl
theorem Qs (id:Nat):zU (tyi Tryz.prog 28) id=some {v:=.mp id 0 0,new:=some ([[.sl [] true]],none)} := by
 have e:(tyi Tryz.prog 28).zero=some [.sl [] true]:=by kernel_rfl
 simp[zU,e,PV.cell]
theorem zLJ (S:zB) (d:Nat) (L:List Node):xY (xY (wx S (d+2))) (Node.rows L)=some (Node.rows L):=by
 rw[Node.rows_eq];have:=W8 (f:=xY (wx S (d+2))) (g:=fun x=>x) (l:=L.map Node.cells) (fun a ha=>by
  obtain⟨w,_,rfl⟩:=aL.1 ha;rw[Node.cells_eq];rfl)
 rw[show (L.map Node.cells).map (fun x=>x)=L.map Node.cells by simp]at this;exact this
theorem zLK {S:zB} {id:Nat} {L:List Node} (h:zj S id=some (Node.rows L)):wy S (.msl id 0 L.length false)=some (.sl (Node.rows L) false):=by
 have e1:rowsIn S (.msl id 0 L.length false)=some (Node.rows L):=by
  rw[Zq,h];simp only[bI,pC,bX,Node.rows_length,bF,if_true];rw[←Node.rows_length L,PX]
 show ((rowsIn S (.msl id 0 L.length false)).bind fun rows=>(xY (xY (wx S 7)) rows).map fun rows=>PV.sl rows false)=_
 rw[e1];simp only[bI,zLJ S 5,pE]
noncomputable def zRk:FX:=⟨Tryz.f41,zE.of 41,[]⟩
instance ok41_:zRk.ok 41:=FX.mk'
theorem YT (n:Node) (hn:n.ok) (hc:n.count≤100000) : ∃L ex,callL Tryz.prog zE 41 [.agg n.cells]=some (.sl (Node.rows L) ex)∧(ex=true→L=[])∧(∀m∈L,m.ok)∧(∀x,x∈L↔x∈n.syms)∧L.length≤n.count:=by
 have o0:OS [.arr [n.cells] none false,.arr [[.sl [] true]] none false,.arr [[.fn 81 [] [.mp 1 0 0,.mp 2 0 0]]] none false] []:=by
  refine⟨rfl,⟨_,rfl,.nil⟩,?_⟩;rw[kY];intro j rows g f hj x hx
  match j with
  | 0 =>
   simp at hj;rw[←hj.1,yZ]at hx;cases hx
  | 1 =>
   simp at hj;rw[←hj.1]at hx;cases hx
  | 2 =>
   simp at hj;rw[←hj.1]at hx;simp[yn,yQ,wH,yt,PV.refs]at hx;simp;omega
  | j+3=>simp at hj
 obtain⟨S',L,e1,e2,e3,e4,e5,e6⟩:=zJC n hn [] _ o0 (fun m hm=>by cases hm) (by simpa using hc);have hcall:=wC (by kernel_rfl) e1 e3 o0.closed (by simp[wU,yQ,yt,kr,Node.refs,vM]);have hmv:zf Tryz.prog zE [.arr [n.cells] none false,.arr [[.sl [] true]] none false,.arr [[.fn 81 [] [.mp 1 0 0,.mp 2 0 0]]] none false] (.fn 81 [] [.mp 1 0 0,.mp 2 0 0]) [.agg n.cells]=some {v:=.tup [],S:=S'} := by
  rw[Za];exact hcall
 obtain⟨v,hv,ho⟩:=e2.out;have h1:=xE hv;have hm : ∀x,x∈L↔x∈n.syms:=fun x=>by rw[e6];simp
 cases ho with
 | nil =>
  refine⟨[],true,?_,fun _=>rfl,e5,hm,by simp⟩;apply FX.callV (r:=(.sl [] true,S')) ok41_ 1000 rfl rfl
  ·((repeat((conv=>lhs;whnf);simp only[go_sem,↓reduceIte,Nat.reduceEqDiff,Nat.reduceBEq,Nat.reduceAdd,Nat.reduceMul,Nat.reduceSub,Nat.reduceLT,Nat.reduceLeDiff,reduceCtorEq,Int.reduceToNat,Int.reduceLE,Int.reduceLT,Int.reduceEq,Qs,Qr,zLH,zLI,JC,zH4,JB,hmv,h1]));try rfl)
  ·rfl
 | arr id L h3 hh =>
  refine⟨L,false,?_,(fun h=>by cases h),e5,hm,by simpa using e4⟩;apply FX.callV (r:=(.msl id 0 L.length false,S')) ok41_ 1000 rfl rfl
  ·((repeat((conv=>lhs;whnf);simp only[go_sem,↓reduceIte,Nat.reduceEqDiff,Nat.reduceBEq,Nat.reduceAdd,Nat.reduceMul,Nat.reduceSub,Nat.reduceLT,Nat.reduceLeDiff,reduceCtorEq,Int.reduceToNat,Int.reduceLE,Int.reduceLT,Int.reduceEq,Qs,Qr,zLH,zLI,JC,zH4,JB,hmv,h1]));try rfl)
  ·exact zLK (xE hh)
theorem JD (n:Node) (hn:n.ok) (hc:n.count≤100000) : ∃L ex,callL Tryz.prog zE 41 [.agg n.cells]=some (.sl (Node.rows L) ex)∧(ex=true→L=[])∧(∀m∈L,m.ok)∧∀x,x∈L↔x∈n.syms:=by
 obtain⟨L,ex,h1,h2,h3,h4,_⟩:=YT n hn hc;exact⟨L,ex,h1,h2,h3,h4⟩
theorem zEL (n:Node) (hn:n.ok) (hc:n.count≤100000) : ∃L ex,(∀S,zO (callL Tryz.prog zE) S 41 [.agg n.cells]=some {v:=.sl (Node.rows L) ex})∧(∀m∈L,m.ok)∧(∀x,x∈L↔x∈n.syms)∧L.length≤n.count:=by
 obtain⟨L,ex,h1,h2,h3,h4,h5⟩:=YT n hn hc;exact⟨L,ex,fun S=>uR S h1,h3,h4,h5⟩
theorem ZE (n:Node) (hn:n.ok) (hc:n.count≤100000) : ∃L ex,(∀S,zO (callL Tryz.prog zE) S 41 [.agg n.cells]=some {v:=.sl (Node.rows L) ex})∧(L=[]↔n.syms=[])∧(∀m∈L,m.ok)∧∀x,x∈L↔x∈n.syms:=by
 obtain⟨L,ex,h1,h2,h3,h4⟩:=JD n hn hc;refine⟨L,ex,fun S=>uR S h1,?_,h3,h4⟩;rw[List.eq_nil_iff_forall_not_mem,List.eq_nil_iff_forall_not_mem];simp only[h4]
end
end
end Go.Vs


import Derived.Test.YtkaeejkajfinhaaGreatMT21
set_option linter.unusedVariables false
set_option linter.unusedSimpArgs false
set_option maxRecDepth 100000
namespace Go.Vs
open Go Go.Proofs
section
structure Pr where
 what:Node
 wth:Node
 rates:List Node
def Pr.cells (p:Pr):List PV:=p.what.cells++(p.wth.cells++[.sl (Node.rows p.rates) false])
structure Pr.ok (p:Pr):Prop where
 what:p.what.ok
 wth:p.wth.ok
 rates:p.rates.length≤maxLen
def pr0:Pr:=⟨nd0,nd0,[]⟩
def zY (I:List Pr):List (List PV):=I.map Pr.cells
theorem Pr.cells_len (p:Pr):p.cells.length=13:=by simp[Pr.cells,Node.cells_length]
@[go_sem] theorem QN (I:List Pr):(zY I).length=I.length:=nr (by simp[zY])
@[go_sem] theorem zJ0 (I:List Pr):yR 13 (zY I)=true:=nr (zFW (enc:=Pr.cells) Pr.cells_len I)
theorem ZZ:(tyi Tryz.prog 69).d=.struct [(0,6,true),(6,6,true),(12,1,false)]:=by kernel_rfl
@[go_sem] theorem zJ1:(tyi Tryz.prog 69).size=13:=nr (by kernel_rfl)
@[go_sem] theorem zGh:(tyi Tryz.prog 69).known=true:=nr (by kernel_rfl)
@[go_sem] theorem zJ2:(tyi Tryz.prog 69).zero=some [.int .i64 0,.str ⟨#[]⟩,.bool false,.sl [] true,.sl [] true,.sl [] true,.int .i64 0,.str ⟨#[]⟩,.bool false,.sl [] true,.sl [] true,.sl [] true,.sl [] true]:=nr (by kernel_rfl)
@[go_sem] theorem yK (n:Nat):zU (tyi Tryz.prog 69) n=some {v:=.mp n 0 0,new:=some ([[.int .i64 0,.str ⟨#[]⟩,.bool false,.sl [] true,.sl [] true,.sl [] true,.int .i64 0,.str ⟨#[]⟩,.bool false,.sl [] true,.sl [] true,.sl [] true,.sl [] true]],none)} := nr (by unfold zU;rw[zJ2];rfl)
@[go_sem] theorem zQs (id i off:Nat):zA (tyi Tryz.prog 69) 0 (.mp id i off)=some (.mp id i (off+0)):=by simp[zA,ZZ]
@[go_sem] theorem zQt (r:List PV):zA (tyi Tryz.prog 69) 0 (.cp r)=some (.cp (r.drop 0)):=by simp[zA,ZZ]
@[go_sem] theorem zQu (cs:List PV):zK (tyi Tryz.prog 69) 0 (.agg cs)=if 0+6≤cs.length then some (.agg ((cs.drop 0).take 6)) else none:=by simp[zK,ZZ]
@[go_sem] theorem zQv (id i off:Nat):zA (tyi Tryz.prog 69) 1 (.mp id i off)=some (.mp id i (off+6)):=by simp[zA,ZZ]
@[go_sem] theorem zQw (r:List PV):zA (tyi Tryz.prog 69) 1 (.cp r)=some (.cp (r.drop 6)):=by simp[zA,ZZ]
@[go_sem] theorem zQx (cs:List PV):zK (tyi Tryz.prog 69) 1 (.agg cs)=if 6+6≤cs.length then some (.agg ((cs.drop 6).take 6)) else none:=by simp[zK,ZZ]
@[go_sem] theorem zQy (id i off:Nat):zA (tyi Tryz.prog 69) 2 (.mp id i off)=some (.mp id i (off+12)):=by simp[zA,ZZ]
@[go_sem] theorem zQz (r:List PV):zA (tyi Tryz.prog 69) 2 (.cp r)=some (.cp (r.drop 12)):=by simp[zA,ZZ]
@[go_sem] theorem zRA (cs:List PV):zK (tyi Tryz.prog 69) 2 (.agg cs)=cs[12]? := by simp[zK,ZZ]
theorem zGi:SlT 22 69 13 232:=⟨by kernel_rfl,by kernel_rfl,by kernel_rfl,by kernel_rfl,by kernel_rfl⟩
@[go_sem] theorem zUN (r:List (List PV)) (ex:Bool):yL (tyi Tryz.prog 22) (.sl r ex)=some (.int .i64 r.length):=nr (zGi.len r ex)
@[go_sem] theorem zUO (S:zB) (I:List Pr) (ex:Bool) (i:Int):zI Tryz.prog 22 S (.sl (zY I) ex) (.int .i64 i)=if 0≤i∧i<I.length then some (.cp (I.getD i.toNat pr0).cells) else none:=nr (zGi.idx Pr.cells_len pr0 S I ex i)
theorem zE6 (I:List Pr) (i:Nat):(zY I).take i=zY (I.take i):=by simp[zY,List.map_take]
theorem KC (S:zB) (I:List Pr) (i:Nat) (h:i≤I.length):zX Tryz.prog 22 S (.sl (zY I) false) none (some (.int .i64 i)) none=some (.sl (zY (I.take i)) false):=by
 have:=zGi.firsts S (rows:=zY I) false i (by rw[QN];exact h) (zJ0 I);rw[zE6]at this;exact this
@[go_sem] theorem Pr.clen (p:Pr):p.cells.length=13:=nr p.cells_len
@[go_sem] theorem Pr.call_ (p:Pr):p.cells.all PV.cell=true:=nr (by simp[Pr.cells,List.all_append,Node.cells_cell,PV.cell])
theorem YS : ∀a b:List PV,vO (a++b)=vO a++vO b
 | [],b=>rfl
 | v::r,b=>by rw[pO,yF,yF,YS r b,bS]
@[go_sem] theorem Pr.refs (p:Pr):vO p.cells=[]:=nr (by
 rw[Pr.cells,YS,YS,Node.refs,Node.refs];rfl)
@[go_sem] theorem zRB (p:Pr):part (tyi Tryz.prog 69) p.cells=some (.agg p.cells):=by
 simp[Pr.cells,Node.cells_eq,part,zGh,TI.isAgg,ZZ,zJ1]
@[go_sem] theorem zRC (p:Pr):part (tyi Tryz.prog 30) p.cells=some (.agg p.what.cells):=by
 simp[Pr.cells,Node.cells_eq,part,jJ,TI.isAgg,Y8,ZD]
@[go_sem] theorem zO8 (p:Pr):part (tyi Tryz.prog 3) p.cells=some (.int .i64 p.what.op):=by
 have e:(tyi Tryz.prog 3).isAgg=false:=by kernel_rfl
 simp[Pr.cells,Node.cells_eq,part,Kp,e]
@[go_sem] theorem Pr.drop5 (p:Pr):p.cells.drop 5=.sl (Node.rows p.what.kids) false::(p.wth.cells++[.sl (Node.rows p.rates) false]):=nr (by simp[Pr.cells,Node.cells_eq])
@[go_sem] theorem Pr.drop6 (p:Pr):p.cells.drop 6=p.wth.cells++[.sl (Node.rows p.rates) false]:=nr (by simp[Pr.cells,Node.cells_eq])
@[go_sem] theorem Pr.drop12 (p:Pr):p.cells.drop 12=[.sl (Node.rows p.rates) false]:=nr (by simp[Pr.cells,Node.cells_eq])
@[go_sem] theorem zSi (m:Node) (r:List PV):part (tyi Tryz.prog 30) (m.cells++r)=some (.agg m.cells):=by
 simp[Node.cells_eq,part,jJ,TI.isAgg,Y8,ZD]
theorem VX {I:List Pr} {i:Nat} (h:i<I.length):I.drop i=I.getD i pr0::I.drop (i+1):=by
 rw[PM h];simp[bN,h]
theorem vc {I:List Pr} {i:Nat} (h:i<I.length):I.getD i pr0∈I:=by
 simp[bN,h]
def XC:Int→List Pr→Bool
 | a,[]=>decide (a≤1000)
 | a,p::r=>decide (p.rates.length≤10)&&XC (IntKind.i64.wrap (a+IntKind.i64.wrap (p.wth.size+p.what.size))) r
def UF (ls:Nat) (I:List Pr) (n:Node):Bool:=decide (ls≤100)&&(decide (I.length≤60)&&decide (n.size≤1000))&&XC 0 I
section
attribute [local irreducible] Vs.callL Vs.callRL tyi zO zk zf zQ zW zZ zI zX zA zK zb zV zG zJ zU zs yL zr zL za Vs.gc zH
noncomputable def zSj:FX:=⟨Tryz.f9,zE.of 9,[]⟩
instance ok9_:zSj.ok 9:=FX.mk'
theorem zGj (I:List Pr) (n:Node) (hI : ∀p∈I,p.ok) (hl:I.length≤60) : ∀(m i:Nat),i+m=I.length→∀a:Int,zT 0 zSj 0 244 1 [.blk 0,.seq 0 31] [(1,.sl (zY I) false),(7,.int .i64 a),(8,.int .i64 i)] [.arr [n.cells] none false]=some (.bool (XC a (I.drop i)),[.arr [n.cells] none false]):=by
 intro m
 induction m with
 | zero =>
  intro i hi a;have h1 : ¬(i:Int)<(I.length:Int):=by omega
  rw[bW (by omega)];apply zC;(repeat((conv=>lhs;whnf);simp only[go_sem,simprocAttr,h1]));apply zN;unfold XC;((repeat((conv=>lhs;whnf);simp only[go_sem,simprocAttr]));try rfl)
 | succ m hm =>
  intro i hi a;have h1:(i:Int)<(I.length:Int):=by omega
  have h2:=zh (i:=i) (n:=I.length) (by omega) (by unfold maxLen;omega);have h4:0≤(i:Int)∧(i:Int)<(I.length:Int):=⟨by omega,h1⟩;have hp:=hI _ (vc (I:=I) (i:=i) (by omega));have s1:=fun S=>uV S (XZ _ hp.wth);have s2:=fun S=>uV S (XZ _ hp.what);rw[VX (by omega)];unfold XC;by_cases c:(I.getD i pr0).rates.length≤10
  ·have c' : ¬ 10<((I.getD i pr0).rates.length:Int):=by omega
   have key:=hm (i+1) (by omega) (IntKind.i64.wrap (a+IntKind.i64.wrap ((I.getD i pr0).wth.size+(I.getD i pr0).what.size)));rw[bG c,bC];apply zC;(repeat((conv=>lhs;whnf);simp only[go_sem,simprocAttr,h1,h2,h4,bD,c',s1,s2]));exact key
  ·have c':10<((I.getD i pr0).rates.length:Int):=by omega
   rw[bH c,bB];apply zC;((repeat((conv=>lhs;whnf);simp only[go_sem,simprocAttr,h1,h2,h4,bD,c']));try rfl)
theorem zGk {sV:PV} {ls:Nat} (hs:yL (tyi Tryz.prog 35) sV=some (.int .i64 (ls:Int))) (I:List Pr) (n:Node) (hI : ∀p∈I,p.ok) (hn:n.ok):callL Tryz.prog zE 9 [sV,.sl (zY I) false,.agg n.cells]=some (.bool (UF ls I n)):=by
 have s1:=fun S=>uV S (XZ n hn);unfold UF;by_cases c1:ls≤100
 case neg =>
  have c1':100<(ls:Int):=by omega
  rw[bH c1,bB,bB];apply FX.callB2 ok9_ 1000 rfl rfl;((repeat((conv=>lhs;whnf);simp only[go_sem,simprocAttr,hs,c1']));try rfl)
 have c1' : ¬ 100<(ls:Int):=by omega
 rw[bG c1,bC];by_cases c2:I.length≤60
 case neg =>
  have c2':60<(I.length:Int):=by omega
  rw[bH c2,bB,bB];apply FX.callB2 ok9_ 1000 rfl rfl;((repeat((conv=>lhs;whnf);simp only[go_sem,simprocAttr,hs,c1',c2']));try rfl)
 have c2' : ¬ 60<(I.length:Int):=by omega
 rw[bG c2,bC];by_cases c3:n.size≤1000
 case neg =>
  have c3':1000<n.size:=by omega
  rw[bH c3,bB];apply FX.callB2 ok9_ 1000 rfl rfl;((repeat((conv=>lhs;whnf);simp only[go_sem,simprocAttr,hs,c1',c2',s1,c3']));try rfl)
 have c3' : ¬ 1000<n.size:=by omega
 have key:=zGj I n hI c2 I.length 0 (by omega) 0;rw[pA]at key;rw[bG c3,bC];apply FX.callB2 ok9_ 1000 rfl rfl;(repeat((conv=>lhs;whnf);simp only[go_sem,simprocAttr,hs,c1',c2',s1,c3']));exact key
end
theorem U2 : ∀(I:List Pr) (a:Int),0≤a→a≤1000000000000→(∀p∈I,p.wth.count≤1000000000∧p.what.count≤1000000000)→I.length≤60→a+2000000000*(I.length:Int)≤1000000000000→XC a I=true→∀p∈I,p.rates.length≤10∧a+(p.wth.count:Int)+p.what.count≤1000
 | [],a,_,_,_,_,_,_=>by simp
 | p::r,a,h0,h1,hc,hl,hb,h=>by
  unfold XC at h;simp only[bO,pC]at h;obtain⟨h2,h3⟩:=h;obtain⟨k1,k2⟩:=hc p (by simp);rw[ql _ k1,ql _ k2]at h3;have w1:IntKind.i64.wrap ((p.wth.count:Int)+p.what.count)=(p.wth.count:Int)+p.what.count:=by rw[bE];omega
  rw[w1]at h3;have w2:IntKind.i64.wrap (a+((p.wth.count:Int)+p.what.count))=a+((p.wth.count:Int)+p.what.count):=by rw[bE];omega
  rw[w2]at h3;simp only[bL]at hb hl;have ih:=U2 r (a+((p.wth.count:Int)+p.what.count)) (by omega) (by omega) (fun q hq=>hc q (by simp[hq])) (by omega) (by omega) h3;have last:a+((p.wth.count:Int)+p.what.count)≤1000:=by
   cases r with
   | nil=>unfold XC at h3;simpa using h3
   | cons q r =>
    have:=(ih q (by simp)).2;omega
  intro q hq
  rcases sU.1 hq with rfl | hq
  ·exact⟨h2,by omega⟩
  ·have:=ih q hq;exact⟨this.1,by omega⟩
theorem zE7 {ls:Nat} {I:List Pr} {n:Node} (hc : ∀p∈I,p.wth.count≤1000000000∧p.what.count≤1000000000) (hn:n.count≤1000000000) (h:UF ls I n=true):ls≤100∧I.length≤60∧n.count≤1000∧∀p∈I,p.rates.length≤10∧p.wth.count≤1000∧p.what.count≤1000:=by
 unfold UF at h;simp only[bO,pC]at h;obtain⟨⟨h1,h2,h3⟩,h4⟩:=h;rw[ql n hn]at h3;refine⟨h1,h2,by omega,fun p hp=>?_⟩;have:=U2 I 0 (by omega) (by omega) hc h2 (by omega) h4 p hp;exact⟨this.1,by omega,by omega⟩
end
section
def vo (o:Int):Int:=if o=10∨o=11 then 1 else if o=37∨o=38 then 2 else 0
def kY:List Int:=[33,34,35,36,39,12,3]
def XD (I:List Pr) (i:Nat) (p:Pr):Bool:=(I.take i).any fun q=>decide (q.what.cmp p.what=0)
def okP (I:List Pr) (i:Nat) (p:Pr):Bool :=
 decide (vo p.what.op≠0)&&(decide (p.what.check (vo p.what.op)=0)&&(decide (p.rates.length=0)&&(decide (p.what.sym.cmp p.what=0)&&(!XD I i p &&
 (decide (p.wth.check (vo p.what.op)=0)&&(!p.wth.has (xu kY)&&(!p.wth.has yO && !(decide (p.what.kids.length=0)&&p.wth.has (xu [13])))))))))
def zCC (I:List Pr):Nat→Nat→Bool
 | 0,_=>true
 | m+1,i=>okP I i (I.getD i pr0)&&zCC I m (i+1)
theorem zNc (p:Pr):zS [p.cells]=[]:=by
 show vO p.cells++[]=[]
 rw[Pr.refs];rfl
theorem Xx {I:List Pr} {i j:Nat} (hj:j<i) (hi:i≤I.length):(I.take i).drop j=I.getD j pr0::(I.take i).drop (j+1):=by
 have h:j<(I.take i).length:=by simp;omega
 rw[VX h]
 congr 1
 simp[bN,aV,hj]
theorem QO {I:List Pr} {i j:Nat} (hj:j<i):(I.take i).getD j pr0=I.getD j pr0:=by
 simp[bN,aV,hj]
theorem Z0 {S:zB} {id k:Nat} {ops:List Int} {g:Option (Option Nat)} {f ex:Bool} (n:Node) (hn:n.ok) (hl:ops.length≤1000) (hS:S[id]? = some (.arr (zD .i64 ops) g f)) (hk:ops.length=k):zO (callL Tryz.prog zE) S 40 [.agg n.cells,.msl id 0 k ex]=some {v:=.bool (n.has (xu ops)),fz:=[id]} := by
 have hid:=(bR.1 hS).1;refine Kq (zJT ops hl n hn) ?_ ?_ ?_
 ·simp only[xc,Node.fz,uO (xA hS) hk,bI];rfl
 ·have:List.flatMap PV.refs [.agg n.cells,.msl id 0 k ex]=[id]:=by
   simp[BI,PV.refs,Node.refs]
  rw[this];exact Qj (xA hS) (zq _ _) 7
 ·simp[hid]
section
attribute [local irreducible] Vs.callL Vs.callRL tyi zO zk zf zQ zW zZ zI zX zA zK zb zV zG zJ zU zs yL zr zL za Vs.gc zH
noncomputable def kN:FX:=⟨Tryz.f10,zE.of 10,[]⟩
instance ok10_:kN.ok 10:=FX.mk'
theorem ZO (I:List Pr) (hI : ∀p∈I,p.ok) (hl:I.length≤60) (i:Nat) (hi:i<I.length) (w:Int) (sy:List PV) (hsy:vO sy=[]) (fs:List Fr) : ∀(m j:Nat),j+m=i →
  ((((I.take i).drop j).any fun q=>decide (q.what.cmp (I.getD i pr0).what=0))=false→∀z,yD 0 kN 3 fs [(0,.sl (zY I) false),(4,.mp 0 0 0),(5,.int .i64 w),(13,.sl (zY I) false),(14,.int .i64 I.length),(15,.int .i64 i),(53,.undef),(54,.undef),(55,.undef),(56,.undef)] [.arr [(I.getD i pr0).cells] none false,.arr [sy] none false]=some z →
   zT 0 kN 3 956916 2 fs [(0,.sl (zY I) false),(4,.mp 0 0 0),(5,.int .i64 w),(13,.sl (zY I) false),(14,.int .i64 I.length),(15,.int .i64 i),(53,.sl (zY (I.take i)) false),(54,.int .i64 i),(55,.int .i64 j)] [.arr [(I.getD i pr0).cells] none false,.arr [sy] none false]=some z) ∧
  ((((I.take i).drop j).any fun q=>decide (q.what.cmp (I.getD i pr0).what=0))=true→∃S',
   zT 0 kN 3 956916 2 fs [(0,.sl (zY I) false),(4,.mp 0 0 0),(5,.int .i64 w),(13,.sl (zY I) false),(14,.int .i64 I.length),(15,.int .i64 i),(53,.sl (zY (I.take i)) false),(54,.int .i64 i),(55,.int .i64 j)] [.arr [(I.getD i pr0).cells] none false,.arr [sy] none false]=some (.int .i64 3,S')):=by
 intro m
 induction m with
 | zero =>
  intro j hj;have h1 : ¬(j:Int)<(i:Int):=by omega
  have e0:((I.take i).drop j)=[]:=bW (by simp;omega);rw[e0];refine⟨fun _ z hz=>?_,fun h=>by simp at h⟩;apply zC;(repeat((conv=>lhs;whnf);simp only[go_sem,simprocAttr,h1]));exact hz
 | succ m hm =>
  intro j hj;have h1:(j:Int)<(i:Int):=by omega
  have h2:=zh (i:=j) (n:=I.length) (by omega) (by unfold maxLen;omega);have h3:0≤(j:Int)∧(j:Int)<((I.take i).length:Int):=⟨by omega,by simp;omega⟩;have hg:=QO (I:=I) (i:=i) (j:=j) (by omega);have hp:=hI _ (vc (I:=I) (i:=i) hi);have hq:=hI _ (vc (I:=I) (i:=j) (by omega));have hE:=fun S=>jQ S _ _ hq.what hp.what;obtain⟨k1,k2⟩:=hm (j+1) (by omega);rw[Xx (I:=I) (i:=i) (j:=j) (by omega) (by omega),BB];generalize hK:I.getD i pr0=K at *;by_cases c:(I.getD j pr0).what.cmp K.what=0
  ·refine⟨fun h=>by (rw[bG c,pI]at h;cases h),fun _=>?_⟩;apply Exists.intro;apply zC;((repeat((conv=>lhs;whnf);simp only[go_sem,simprocAttr,h1,h2,h3,bD,hg,hE,c,yK,hsy]));try rfl)
  ·rw[bH c,bZ];refine⟨fun h z hz=>?_,fun h=>?_⟩
   ·apply zC;(repeat((conv=>lhs;whnf);simp only[go_sem,simprocAttr,h1,h2,h3,bD,hg,hE,c,yK,hsy]));exact k1 h z hz
   ·obtain⟨S',k⟩:=k2 h;refine⟨S',yv ok10_.good 1000 ?_⟩;(repeat((conv=>lhs;whnf);simp only[go_sem,simprocAttr,h1,h2,h3,bD,hg,hE,c,yK,hsy]));exact k
theorem zNd (I:List Pr) (hI : ∀p∈I,p.ok) (hl:I.length≤60) (i:Nat) (hi:i<I.length) (K:Pr) (hK:I.getD i pr0=K) (hwc:K.wth.count≤1000) (R:Bool) (Sn:zB) (key:zT 0 kN 0 116 0 [.blk 0,.seq 0 15] [(0,.sl (zY I) false),(13,.sl (zY I) false),(14,.int .i64 I.length),(15,.int .i64 ((i+1:Nat):Int))] []=some (.int .i64 (if R=true then 0 else 3),Sn)) (ho:K.what.op=10) :
  ∃S',zT 0 kN 0 116 0 [.blk 0,.seq 0 15] [(0,.sl (zY I) false),(13,.sl (zY I) false),(14,.int .i64 I.length),(15,.int .i64 i)] []=some (.int .i64 (if ((decide (K.what.check 1=0)&&(decide (K.rates.length=0)&&(decide (K.what.sym.cmp K.what=0)&&(!XD I i K&&(decide (K.wth.check 1=0)&&(!K.wth.has (xu kY)&&(!K.wth.has yO && !(decide (K.what.kids.length=0)&&K.wth.has (xu [13])))))))))&&R)=true then 0 else 3),S'):=by
 have h1:(i:Int)<(I.length:Int):=by omega
 have h2:=zh (i:=i) (n:=I.length) (by omega) (by unfold maxLen;omega);have h4:0≤(i:Int)∧(i:Int)<(I.length:Int):=⟨by omega,h1⟩;have hp:K.ok:=hK ▸ hI _ (vc (I:=I) (i:=i) (by omega));have hlt:(I.take i).length=i:=by simp;omega
 have hcut:=fun S=>KC S I i (by omega);have L3:=fun fs=>ZO I hI hl i (by omega) 1 K.what.sym.cells (Node.refs _) fs i 0 (by omega);simp only[pA,hK]at L3;have tCheck_c:=fun S s=>jO S K.what hp.what s;have wCheck_c:=fun S s=>jO S K.wth hp.wth s;have hE:=fun S=>jQ S _ _ (YR hp.what) hp.what;by_cases c1:K.what.check 1=0
 case neg =>
  rw[bH c1,bB,bB,hZ (by simp)];apply Exists.intro;apply zC;((repeat((conv=>lhs;whnf);simp only[go_sem,simprocAttr,h1,h4,bD,hK,yK,ho,Int.reduceEq,tCheck_c,c1]));try rfl)
 rw[bG c1,bC];by_cases c2:K.rates.length=0
 case neg =>
  have c2':0<(K.rates.length:Int):=by omega
  rw[bH c2,bB,bB,hZ (by simp)];apply Exists.intro;apply zC;((repeat((conv=>lhs;whnf);simp only[go_sem,simprocAttr,h1,h4,bD,hK,yK,ho,Int.reduceEq,tCheck_c,c1,c2']));try rfl)
 have c2' : ¬ 0<(K.rates.length:Int):=by omega
 rw[bG c2,bC];by_cases c3:K.what.sym.cmp K.what=0
 case neg =>
  rw[bH c3,bB,bB,hZ (by simp)];apply Exists.intro;apply zC;((repeat((conv=>lhs;whnf);simp only[go_sem,simprocAttr,h1,h4,bD,hK,yK,ho,Int.reduceEq,tCheck_c,c1,c2',wM,zn,hE,c3]));try rfl)
 rw[bG c3,bC]
 cases c4:XD I i K
 case true =>
  rw[bU,bB,bB,hZ (by simp)];obtain⟨S',k⟩:=(L3 _).2 c4;refine⟨S',?_⟩;apply zC;(repeat((conv=>lhs;whnf);simp only[go_sem,simprocAttr,h1,h4,bD,hK,yK,ho,Int.reduceEq,tCheck_c,c1,c2',wM,zn,hE,c3,hcut,hlt]));exact k
 rw[bK,bC];have go_on : ∀z,(∀fs,fs=[Fr.blk 3,.seq 1 119615,.blk 1,.seq 0 935,.lop 0 116 0,.blk 0,.seq 0 15]→yD 0 kN 3 fs [(0,.sl (zY I) false),(4,.mp 0 0 0),(5,.int .i64 1),(13,.sl (zY I) false),(14,.int .i64 I.length),(15,.int .i64 i),(53,.undef),(54,.undef),(55,.undef),(56,.undef)] [.arr [K.cells] none false,.arr [K.what.sym.cells] none false]=some z)→zT 0 kN 0 116 0 [.blk 0,.seq 0 15] [(0,.sl (zY I) false),(13,.sl (zY I) false),(14,.int .i64 I.length),(15,.int .i64 i)] []=some z:=fun z hz=>by
  apply zC;(repeat((conv=>lhs;whnf);simp only[go_sem,simprocAttr,h1,h4,bD,hK,yK,ho,Int.reduceEq,tCheck_c,c1,c2',wM,zn,hE,c3,hcut,hlt]));exact (L3 _).1 c4 z (hz _ rfl)
 by_cases c5:K.wth.check 1=0
 case neg =>
  rw[bH c5,bB,bB,hZ (by simp)];apply Exists.intro;refine go_on _ fun fs hfs=>?_;subst hfs;apply zN;((repeat((conv=>lhs;whnf);simp only[go_sem,simprocAttr,wCheck_c,c5]));try rfl)
 rw[bG c5,bC];have u1:=Z0 (S:=[.arr [K.cells] none false,.arr [K.what.sym.cells] none false,.arr [[PV.int .i64 33],[.int .i64 34],[.int .i64 35],[.int .i64 36],[.int .i64 39],[.int .i64 12],[.int .i64 3]] (some (some 1)) false]) (id:=2) (ops:=kY) (k:=7) (ex:=true) K.wth hp.wth (by decide) rfl rfl
 cases c6:K.wth.has (xu kY)
 case true =>
  rw[c6]at u1;rw[bU,bB,bB,hZ (by simp)];apply Exists.intro;refine go_on _ fun fs hfs=>?_;subst hfs;apply zN;((repeat((conv=>lhs;whnf);simp only[go_sem,simprocAttr,wCheck_c,c5,u1]));try rfl)
 rw[c6]at u1;rw[bK,bC];obtain⟨L,ex,hso,hme,_,_⟩:=ZN K.wth hp.wth (by omega)
 cases c7:K.wth.has yO
 case true =>
  have hL:0<(L.length:Int):=by
   have:L≠[]:=fun h=>by
    have:=(kL K.wth).1 (hme.1 h);rw[c7]at this;cases this
   have:=BX.2 this;omega
  rw[bU,bB,bB,hZ (by simp)];apply Exists.intro;refine go_on _ fun fs hfs=>?_;subst hfs;apply zN;((repeat((conv=>lhs;whnf);simp only[go_sem,simprocAttr,wCheck_c,c5,u1,hso,hL]));try rfl)
 have hL : ¬ 0<(L.length:Int):=by
  have:=hme.2 ((kL K.wth).2 c7);rw[this];simp
 rw[bK,bC];by_cases c8:K.what.kids.length=0
 ·have c8':(K.what.kids.length:Int)=0:=by omega
  have u2:=Z0 (S:=[.arr [K.cells] none false,.arr [K.what.sym.cells] none false,.arr [[PV.int .i64 33],[.int .i64 34],[.int .i64 35],[.int .i64 36],[.int .i64 39],[.int .i64 12],[.int .i64 3]] (some (some 1)) true,.arr [[PV.int .i64 13]] (some (some 1)) false]) (id:=3) (ops:=[13]) (k:=1) (ex:=true) K.wth hp.wth (by decide) rfl rfl;rw[bG c8,bC]
  cases c9:K.wth.has (xu [13])
  case true =>
   rw[c9]at u2;rw[bU,bB,hZ (by simp)];apply Exists.intro;refine go_on _ fun fs hfs=>?_;subst hfs;apply zN;((repeat((conv=>lhs;whnf);simp only[go_sem,simprocAttr,wCheck_c,c5,u1,hso,hL,c8',u2]));try rfl)
  rw[c9]at u2;rw[bK,bC];refine⟨Sn,?_⟩;refine go_on _ fun fs hfs=>?_;subst hfs;apply zN;(repeat((conv=>lhs;whnf);simp only[go_sem,simprocAttr,wCheck_c,c5,u1,hso,hL,c8',u2,h2]));exact key
 ·have c8' : ¬(K.what.kids.length:Int)=0:=by omega
  rw[bH c8,bB,bK,bC];refine⟨Sn,?_⟩;refine go_on _ fun fs hfs=>?_;subst hfs;apply zN;(repeat((conv=>lhs;whnf);simp only[go_sem,simprocAttr,wCheck_c,c5,u1,hso,hL,c8',h2]));exact key
theorem zNe (I:List Pr) (hI : ∀p∈I,p.ok) (hl:I.length≤60) (i:Nat) (hi:i<I.length) (K:Pr) (hK:I.getD i pr0=K) (hwc:K.wth.count≤1000) (R:Bool) (Sn:zB) (key:zT 0 kN 0 116 0 [.blk 0,.seq 0 15] [(0,.sl (zY I) false),(13,.sl (zY I) false),(14,.int .i64 I.length),(15,.int .i64 ((i+1:Nat):Int))] []=some (.int .i64 (if R=true then 0 else 3),Sn)) (ho:K.what.op=11) :
  ∃S',zT 0 kN 0 116 0 [.blk 0,.seq 0 15] [(0,.sl (zY I) false),(13,.sl (zY I) false),(14,.int .i64 I.length),(15,.int .i64 i)] []=some (.int .i64 (if ((decide (K.what.check 1=0)&&(decide (K.rates.length=0)&&(decide (K.what.sym.cmp K.what=0)&&(!XD I i K&&(decide (K.wth.check 1=0)&&(!K.wth.has (xu kY)&&(!K.wth.has yO && !(decide (K.what.kids.length=0)&&K.wth.has (xu [13])))))))))&&R)=true then 0 else 3),S'):=by
 have h1:(i:Int)<(I.length:Int):=by omega
 have h2:=zh (i:=i) (n:=I.length) (by omega) (by unfold maxLen;omega);have h4:0≤(i:Int)∧(i:Int)<(I.length:Int):=⟨by omega,h1⟩;have hp:K.ok:=hK ▸ hI _ (vc (I:=I) (i:=i) (by omega));have hlt:(I.take i).length=i:=by simp;omega
 have hcut:=fun S=>KC S I i (by omega);have L3:=fun fs=>ZO I hI hl i (by omega) 1 K.what.sym.cells (Node.refs _) fs i 0 (by omega);simp only[pA,hK]at L3;have tCheck_c:=fun S s=>jO S K.what hp.what s;have wCheck_c:=fun S s=>jO S K.wth hp.wth s;have hE:=fun S=>jQ S _ _ (YR hp.what) hp.what;by_cases c1:K.what.check 1=0
 case neg =>
  rw[bH c1,bB,bB,hZ (by simp)];apply Exists.intro;apply zC;((repeat((conv=>lhs;whnf);simp only[go_sem,simprocAttr,h1,h4,bD,hK,yK,ho,Int.reduceEq,tCheck_c,c1]));try rfl)
 rw[bG c1,bC];by_cases c2:K.rates.length=0
 case neg =>
  have c2':0<(K.rates.length:Int):=by omega
  rw[bH c2,bB,bB,hZ (by simp)];apply Exists.intro;apply zC;((repeat((conv=>lhs;whnf);simp only[go_sem,simprocAttr,h1,h4,bD,hK,yK,ho,Int.reduceEq,tCheck_c,c1,c2']));try rfl)
 have c2' : ¬ 0<(K.rates.length:Int):=by omega
 rw[bG c2,bC];by_cases c3:K.what.sym.cmp K.what=0
 case neg =>
  rw[bH c3,bB,bB,hZ (by simp)];apply Exists.intro;apply zC;((repeat((conv=>lhs;whnf);simp only[go_sem,simprocAttr,h1,h4,bD,hK,yK,ho,Int.reduceEq,tCheck_c,c1,c2',wM,zn,hE,c3]));try rfl)
 rw[bG c3,bC]
 cases c4:XD I i K
 case true =>
  rw[bU,bB,bB,hZ (by simp)];obtain⟨S',k⟩:=(L3 _).2 c4;refine⟨S',?_⟩;apply zC;(repeat((conv=>lhs;whnf);simp only[go_sem,simprocAttr,h1,h4,bD,hK,yK,ho,Int.reduceEq,tCheck_c,c1,c2',wM,zn,hE,c3,hcut,hlt]));exact k
 rw[bK,bC];have go_on : ∀z,(∀fs,fs=[Fr.blk 3,.seq 1 119615,.blk 1,.seq 0 935,.lop 0 116 0,.blk 0,.seq 0 15]→yD 0 kN 3 fs [(0,.sl (zY I) false),(4,.mp 0 0 0),(5,.int .i64 1),(13,.sl (zY I) false),(14,.int .i64 I.length),(15,.int .i64 i),(53,.undef),(54,.undef),(55,.undef),(56,.undef)] [.arr [K.cells] none false,.arr [K.what.sym.cells] none false]=some z)→zT 0 kN 0 116 0 [.blk 0,.seq 0 15] [(0,.sl (zY I) false),(13,.sl (zY I) false),(14,.int .i64 I.length),(15,.int .i64 i)] []=some z:=fun z hz=>by
  apply zC;(repeat((conv=>lhs;whnf);simp only[go_sem,simprocAttr,h1,h4,bD,hK,yK,ho,Int.reduceEq,tCheck_c,c1,c2',wM,zn,hE,c3,hcut,hlt]));exact (L3 _).1 c4 z (hz _ rfl)
 by_cases c5:K.wth.check 1=0
 case neg =>
  rw[bH c5,bB,bB,hZ (by simp)];apply Exists.intro;refine go_on _ fun fs hfs=>?_;subst hfs;apply zN;((repeat((conv=>lhs;whnf);simp only[go_sem,simprocAttr,wCheck_c,c5]));try rfl)
 rw[bG c5,bC];have u1:=Z0 (S:=[.arr [K.cells] none false,.arr [K.what.sym.cells] none false,.arr [[PV.int .i64 33],[.int .i64 34],[.int .i64 35],[.int .i64 36],[.int .i64 39],[.int .i64 12],[.int .i64 3]] (some (some 1)) false]) (id:=2) (ops:=kY) (k:=7) (ex:=true) K.wth hp.wth (by decide) rfl rfl
 cases c6:K.wth.has (xu kY)
 case true =>
  rw[c6]at u1;rw[bU,bB,bB,hZ (by simp)];apply Exists.intro;refine go_on _ fun fs hfs=>?_;subst hfs;apply zN;((repeat((conv=>lhs;whnf);simp only[go_sem,simprocAttr,wCheck_c,c5,u1]));try rfl)
 rw[c6]at u1;rw[bK,bC];obtain⟨L,ex,hso,hme,_,_⟩:=ZN K.wth hp.wth (by omega)
 cases c7:K.wth.has yO
 case true =>
  have hL:0<(L.length:Int):=by
   have:L≠[]:=fun h=>by
    have:=(kL K.wth).1 (hme.1 h);rw[c7]at this;cases this
   have:=BX.2 this;omega
  rw[bU,bB,bB,hZ (by simp)];apply Exists.intro;refine go_on _ fun fs hfs=>?_;subst hfs;apply zN;((repeat((conv=>lhs;whnf);simp only[go_sem,simprocAttr,wCheck_c,c5,u1,hso,hL]));try rfl)
 have hL : ¬ 0<(L.length:Int):=by
  have:=hme.2 ((kL K.wth).2 c7);rw[this];simp
 rw[bK,bC];by_cases c8:K.what.kids.length=0
 ·have c8':(K.what.kids.length:Int)=0:=by omega
  have u2:=Z0 (S:=[.arr [K.cells] none false,.arr [K.what.sym.cells] none false,.arr [[PV.int .i64 33],[.int .i64 34],[.int .i64 35],[.int .i64 36],[.int .i64 39],[.int .i64 12],[.int .i64 3]] (some (some 1)) true,.arr [[PV.int .i64 13]] (some (some 1)) false]) (id:=3) (ops:=[13]) (k:=1) (ex:=true) K.wth hp.wth (by decide) rfl rfl;rw[bG c8,bC]
  cases c9:K.wth.has (xu [13])
  case true =>
   rw[c9]at u2;rw[bU,bB,hZ (by simp)];apply Exists.intro;refine go_on _ fun fs hfs=>?_;subst hfs;apply zN;((repeat((conv=>lhs;whnf);simp only[go_sem,simprocAttr,wCheck_c,c5,u1,hso,hL,c8',u2]));try rfl)
  rw[c9]at u2;rw[bK,bC];refine⟨Sn,?_⟩;refine go_on _ fun fs hfs=>?_;subst hfs;apply zN;(repeat((conv=>lhs;whnf);simp only[go_sem,simprocAttr,wCheck_c,c5,u1,hso,hL,c8',u2,h2]));exact key
 ·have c8' : ¬(K.what.kids.length:Int)=0:=by omega
  rw[bH c8,bB,bK,bC];refine⟨Sn,?_⟩;refine go_on _ fun fs hfs=>?_;subst hfs;apply zN;(repeat((conv=>lhs;whnf);simp only[go_sem,simprocAttr,wCheck_c,c5,u1,hso,hL,c8',h2]));exact key
theorem zNf (I:List Pr) (hI : ∀p∈I,p.ok) (hl:I.length≤60) (i:Nat) (hi:i<I.length) (K:Pr) (hK:I.getD i pr0=K) (hwc:K.wth.count≤1000) (R:Bool) (Sn:zB) (key:zT 0 kN 0 116 0 [.blk 0,.seq 0 15] [(0,.sl (zY I) false),(13,.sl (zY I) false),(14,.int .i64 I.length),(15,.int .i64 ((i+1:Nat):Int))] []=some (.int .i64 (if R=true then 0 else 3),Sn)) (ho:K.what.op=37) :
  ∃S',zT 0 kN 0 116 0 [.blk 0,.seq 0 15] [(0,.sl (zY I) false),(13,.sl (zY I) false),(14,.int .i64 I.length),(15,.int .i64 i)] []=some (.int .i64 (if ((decide (K.what.check 2=0)&&(decide (K.rates.length=0)&&(decide (K.what.sym.cmp K.what=0)&&(!XD I i K&&(decide (K.wth.check 2=0)&&(!K.wth.has (xu kY)&&(!K.wth.has yO && !(decide (K.what.kids.length=0)&&K.wth.has (xu [13])))))))))&&R)=true then 0 else 3),S'):=by
 have h1:(i:Int)<(I.length:Int):=by omega
 have h2:=zh (i:=i) (n:=I.length) (by omega) (by unfold maxLen;omega);have h4:0≤(i:Int)∧(i:Int)<(I.length:Int):=⟨by omega,h1⟩;have hp:K.ok:=hK ▸ hI _ (vc (I:=I) (i:=i) (by omega));have hlt:(I.take i).length=i:=by simp;omega
 have hcut:=fun S=>KC S I i (by omega);have L3:=fun fs=>ZO I hI hl i (by omega) 2 K.what.sym.cells (Node.refs _) fs i 0 (by omega);simp only[pA,hK]at L3;have tCheck_c:=fun S s=>jO S K.what hp.what s;have wCheck_c:=fun S s=>jO S K.wth hp.wth s;have hE:=fun S=>jQ S _ _ (YR hp.what) hp.what;by_cases c1:K.what.check 2=0
 case neg =>
  rw[bH c1,bB,bB,hZ (by simp)];apply Exists.intro;apply zC;((repeat((conv=>lhs;whnf);simp only[go_sem,simprocAttr,h1,h4,bD,hK,yK,ho,Int.reduceEq,tCheck_c,c1]));try rfl)
 rw[bG c1,bC];by_cases c2:K.rates.length=0
 case neg =>
  have c2':0<(K.rates.length:Int):=by omega
  rw[bH c2,bB,bB,hZ (by simp)];apply Exists.intro;apply zC;((repeat((conv=>lhs;whnf);simp only[go_sem,simprocAttr,h1,h4,bD,hK,yK,ho,Int.reduceEq,tCheck_c,c1,c2']));try rfl)
 have c2' : ¬ 0<(K.rates.length:Int):=by omega
 rw[bG c2,bC];by_cases c3:K.what.sym.cmp K.what=0
 case neg =>
  rw[bH c3,bB,bB,hZ (by simp)];apply Exists.intro;apply zC;((repeat((conv=>lhs;whnf);simp only[go_sem,simprocAttr,h1,h4,bD,hK,yK,ho,Int.reduceEq,tCheck_c,c1,c2',wM,zn,hE,c3]));try rfl)
 rw[bG c3,bC]
 cases c4:XD I i K
 case true =>
  rw[bU,bB,bB,hZ (by simp)];obtain⟨S',k⟩:=(L3 _).2 c4;refine⟨S',?_⟩;apply zC;(repeat((conv=>lhs;whnf);simp only[go_sem,simprocAttr,h1,h4,bD,hK,yK,ho,Int.reduceEq,tCheck_c,c1,c2',wM,zn,hE,c3,hcut,hlt]));exact k
 rw[bK,bC];have go_on : ∀z,(∀fs,fs=[Fr.blk 3,.seq 1 119615,.blk 1,.seq 0 935,.lop 0 116 0,.blk 0,.seq 0 15]→yD 0 kN 3 fs [(0,.sl (zY I) false),(4,.mp 0 0 0),(5,.int .i64 2),(13,.sl (zY I) false),(14,.int .i64 I.length),(15,.int .i64 i),(53,.undef),(54,.undef),(55,.undef),(56,.undef)] [.arr [K.cells] none false,.arr [K.what.sym.cells] none false]=some z)→zT 0 kN 0 116 0 [.blk 0,.seq 0 15] [(0,.sl (zY I) false),(13,.sl (zY I) false),(14,.int .i64 I.length),(15,.int .i64 i)] []=some z:=fun z hz=>by
  apply zC;(repeat((conv=>lhs;whnf);simp only[go_sem,simprocAttr,h1,h4,bD,hK,yK,ho,Int.reduceEq,tCheck_c,c1,c2',wM,zn,hE,c3,hcut,hlt]));exact (L3 _).1 c4 z (hz _ rfl)
 by_cases c5:K.wth.check 2=0
 case neg =>
  rw[bH c5,bB,bB,hZ (by simp)];apply Exists.intro;refine go_on _ fun fs hfs=>?_;subst hfs;apply zN;((repeat((conv=>lhs;whnf);simp only[go_sem,simprocAttr,wCheck_c,c5]));try rfl)
 rw[bG c5,bC];have u1:=Z0 (S:=[.arr [K.cells] none false,.arr [K.what.sym.cells] none false,.arr [[PV.int .i64 33],[.int .i64 34],[.int .i64 35],[.int .i64 36],[.int .i64 39],[.int .i64 12],[.int .i64 3]] (some (some 1)) false]) (id:=2) (ops:=kY) (k:=7) (ex:=true) K.wth hp.wth (by decide) rfl rfl
 cases c6:K.wth.has (xu kY)
 case true =>
  rw[c6]at u1;rw[bU,bB,bB,hZ (by simp)];apply Exists.intro;refine go_on _ fun fs hfs=>?_;subst hfs;apply zN;((repeat((conv=>lhs;whnf);simp only[go_sem,simprocAttr,wCheck_c,c5,u1]));try rfl)
 rw[c6]at u1;rw[bK,bC];obtain⟨L,ex,hso,hme,_,_⟩:=ZN K.wth hp.wth (by omega)
 cases c7:K.wth.has yO
 case true =>
  have hL:0<(L.length:Int):=by
   have:L≠[]:=fun h=>by
    have:=(kL K.wth).1 (hme.1 h);rw[c7]at this;cases this
   have:=BX.2 this;omega
  rw[bU,bB,bB,hZ (by simp)];apply Exists.intro;refine go_on _ fun fs hfs=>?_;subst hfs;apply zN;((repeat((conv=>lhs;whnf);simp only[go_sem,simprocAttr,wCheck_c,c5,u1,hso,hL]));try rfl)
 have hL : ¬ 0<(L.length:Int):=by
  have:=hme.2 ((kL K.wth).2 c7);rw[this];simp
 rw[bK,bC];by_cases c8:K.what.kids.length=0
 ·have c8':(K.what.kids.length:Int)=0:=by omega
  have u2:=Z0 (S:=[.arr [K.cells] none false,.arr [K.what.sym.cells] none false,.arr [[PV.int .i64 33],[.int .i64 34],[.int .i64 35],[.int .i64 36],[.int .i64 39],[.int .i64 12],[.int .i64 3]] (some (some 1)) true,.arr [[PV.int .i64 13]] (some (some 1)) false]) (id:=3) (ops:=[13]) (k:=1) (ex:=true) K.wth hp.wth (by decide) rfl rfl;rw[bG c8,bC]
  cases c9:K.wth.has (xu [13])
  case true =>
   rw[c9]at u2;rw[bU,bB,hZ (by simp)];apply Exists.intro;refine go_on _ fun fs hfs=>?_;subst hfs;apply zN;((repeat((conv=>lhs;whnf);simp only[go_sem,simprocAttr,wCheck_c,c5,u1,hso,hL,c8',u2]));try rfl)
  rw[c9]at u2;rw[bK,bC];refine⟨Sn,?_⟩;refine go_on _ fun fs hfs=>?_;subst hfs;apply zN;(repeat((conv=>lhs;whnf);simp only[go_sem,simprocAttr,wCheck_c,c5,u1,hso,hL,c8',u2,h2]));exact key
 ·have c8' : ¬(K.what.kids.length:Int)=0:=by omega
  rw[bH c8,bB,bK,bC];refine⟨Sn,?_⟩;refine go_on _ fun fs hfs=>?_;subst hfs;apply zN;(repeat((conv=>lhs;whnf);simp only[go_sem,simprocAttr,wCheck_c,c5,u1,hso,hL,c8',h2]));exact key
theorem zNg (I:List Pr) (hI : ∀p∈I,p.ok) (hl:I.length≤60) (i:Nat) (hi:i<I.length) (K:Pr) (hK:I.getD i pr0=K) (hwc:K.wth.count≤1000) (R:Bool) (Sn:zB) (key:zT 0 kN 0 116 0 [.blk 0,.seq 0 15] [(0,.sl (zY I) false),(13,.sl (zY I) false),(14,.int .i64 I.length),(15,.int .i64 ((i+1:Nat):Int))] []=some (.int .i64 (if R=true then 0 else 3),Sn)) (ho:K.what.op=38) :
  ∃S',zT 0 kN 0 116 0 [.blk 0,.seq 0 15] [(0,.sl (zY I) false),(13,.sl (zY I) false),(14,.int .i64 I.length),(15,.int .i64 i)] []=some (.int .i64 (if ((decide (K.what.check 2=0)&&(decide (K.rates.length=0)&&(decide (K.what.sym.cmp K.what=0)&&(!XD I i K&&(decide (K.wth.check 2=0)&&(!K.wth.has (xu kY)&&(!K.wth.has yO && !(decide (K.what.kids.length=0)&&K.wth.has (xu [13])))))))))&&R)=true then 0 else 3),S'):=by
 have h1:(i:Int)<(I.length:Int):=by omega
 have h2:=zh (i:=i) (n:=I.length) (by omega) (by unfold maxLen;omega);have h4:0≤(i:Int)∧(i:Int)<(I.length:Int):=⟨by omega,h1⟩;have hp:K.ok:=hK ▸ hI _ (vc (I:=I) (i:=i) (by omega));have hlt:(I.take i).length=i:=by simp;omega
 have hcut:=fun S=>KC S I i (by omega);have L3:=fun fs=>ZO I hI hl i (by omega) 2 K.what.sym.cells (Node.refs _) fs i 0 (by omega);simp only[pA,hK]at L3;have tCheck_c:=fun S s=>jO S K.what hp.what s;have wCheck_c:=fun S s=>jO S K.wth hp.wth s;have hE:=fun S=>jQ S _ _ (YR hp.what) hp.what;by_cases c1:K.what.check 2=0
 case neg =>
  rw[bH c1,bB,bB,hZ (by simp)];apply Exists.intro;apply zC;((repeat((conv=>lhs;whnf);simp only[go_sem,simprocAttr,h1,h4,bD,hK,yK,ho,Int.reduceEq,tCheck_c,c1]));try rfl)
 rw[bG c1,bC];by_cases c2:K.rates.length=0
 case neg =>
  have c2':0<(K.rates.length:Int):=by omega
  rw[bH c2,bB,bB,hZ (by simp)];apply Exists.intro;apply zC;((repeat((conv=>lhs;whnf);simp only[go_sem,simprocAttr,h1,h4,bD,hK,yK,ho,Int.reduceEq,tCheck_c,c1,c2']));try rfl)
 have c2' : ¬ 0<(K.rates.length:Int):=by omega
 rw[bG c2,bC];by_cases c3:K.what.sym.cmp K.what=0
 case neg =>
  rw[bH c3,bB,bB,hZ (by simp)];apply Exists.intro;apply zC;((repeat((conv=>lhs;whnf);simp only[go_sem,simprocAttr,h1,h4,bD,hK,yK,ho,Int.reduceEq,tCheck_c,c1,c2',wM,zn,hE,c3]));try rfl)
 rw[bG c3,bC]
 cases c4:XD I i K
 case true =>
  rw[bU,bB,bB,hZ (by simp)];obtain⟨S',k⟩:=(L3 _).2 c4;refine⟨S',?_⟩;apply zC;(repeat((conv=>lhs;whnf);simp only[go_sem,simprocAttr,h1,h4,bD,hK,yK,ho,Int.reduceEq,tCheck_c,c1,c2',wM,zn,hE,c3,hcut,hlt]));exact k
 rw[bK,bC];have go_on : ∀z,(∀fs,fs=[Fr.blk 3,.seq 1 119615,.blk 1,.seq 0 935,.lop 0 116 0,.blk 0,.seq 0 15]→yD 0 kN 3 fs [(0,.sl (zY I) false),(4,.mp 0 0 0),(5,.int .i64 2),(13,.sl (zY I) false),(14,.int .i64 I.length),(15,.int .i64 i),(53,.undef),(54,.undef),(55,.undef),(56,.undef)] [.arr [K.cells] none false,.arr [K.what.sym.cells] none false]=some z)→zT 0 kN 0 116 0 [.blk 0,.seq 0 15] [(0,.sl (zY I) false),(13,.sl (zY I) false),(14,.int .i64 I.length),(15,.int .i64 i)] []=some z:=fun z hz=>by
  apply zC;(repeat((conv=>lhs;whnf);simp only[go_sem,simprocAttr,h1,h4,bD,hK,yK,ho,Int.reduceEq,tCheck_c,c1,c2',wM,zn,hE,c3,hcut,hlt]));exact (L3 _).1 c4 z (hz _ rfl)
 by_cases c5:K.wth.check 2=0
 case neg =>
  rw[bH c5,bB,bB,hZ (by simp)];apply Exists.intro;refine go_on _ fun fs hfs=>?_;subst hfs;apply zN;((repeat((conv=>lhs;whnf);simp only[go_sem,simprocAttr,wCheck_c,c5]));try rfl)
 rw[bG c5,bC];have u1:=Z0 (S:=[.arr [K.cells] none false,.arr [K.what.sym.cells] none false,.arr [[PV.int .i64 33],[.int .i64 34],[.int .i64 35],[.int .i64 36],[.int .i64 39],[.int .i64 12],[.int .i64 3]] (some (some 1)) false]) (id:=2) (ops:=kY) (k:=7) (ex:=true) K.wth hp.wth (by decide) rfl rfl
 cases c6:K.wth.has (xu kY)
 case true =>
  rw[c6]at u1;rw[bU,bB,bB,hZ (by simp)];apply Exists.intro;refine go_on _ fun fs hfs=>?_;subst hfs;apply zN;((repeat((conv=>lhs;whnf);simp only[go_sem,simprocAttr,wCheck_c,c5,u1]));try rfl)
 rw[c6]at u1;rw[bK,bC];obtain⟨L,ex,hso,hme,_,_⟩:=ZN K.wth hp.wth (by omega)
 cases c7:K.wth.has yO
 case true =>
  have hL:0<(L.length:Int):=by
   have:L≠[]:=fun h=>by
    have:=(kL K.wth).1 (hme.1 h);rw[c7]at this;cases this
   have:=BX.2 this;omega
  rw[bU,bB,bB,hZ (by simp)];apply Exists.intro;refine go_on _ fun fs hfs=>?_;subst hfs;apply zN;((repeat((conv=>lhs;whnf);simp only[go_sem,simprocAttr,wCheck_c,c5,u1,hso,hL]));try rfl)
 have hL : ¬ 0<(L.length:Int):=by
  have:=hme.2 ((kL K.wth).2 c7);rw[this];simp
 rw[bK,bC];by_cases c8:K.what.kids.length=0
 ·have c8':(K.what.kids.length:Int)=0:=by omega
  have u2:=Z0 (S:=[.arr [K.cells] none false,.arr [K.what.sym.cells] none false,.arr [[PV.int .i64 33],[.int .i64 34],[.int .i64 35],[.int .i64 36],[.int .i64 39],[.int .i64 12],[.int .i64 3]] (some (some 1)) true,.arr [[PV.int .i64 13]] (some (some 1)) false]) (id:=3) (ops:=[13]) (k:=1) (ex:=true) K.wth hp.wth (by decide) rfl rfl;rw[bG c8,bC]
  cases c9:K.wth.has (xu [13])
  case true =>
   rw[c9]at u2;rw[bU,bB,hZ (by simp)];apply Exists.intro;refine go_on _ fun fs hfs=>?_;subst hfs;apply zN;((repeat((conv=>lhs;whnf);simp only[go_sem,simprocAttr,wCheck_c,c5,u1,hso,hL,c8',u2]));try rfl)
  rw[c9]at u2;rw[bK,bC];refine⟨Sn,?_⟩;refine go_on _ fun fs hfs=>?_;subst hfs;apply zN;(repeat((conv=>lhs;whnf);simp only[go_sem,simprocAttr,wCheck_c,c5,u1,hso,hL,c8',u2,h2]));exact key
 ·have c8' : ¬(K.what.kids.length:Int)=0:=by omega
  rw[bH c8,bB,bK,bC];refine⟨Sn,?_⟩;refine go_on _ fun fs hfs=>?_;subst hfs;apply zN;(repeat((conv=>lhs;whnf);simp only[go_sem,simprocAttr,wCheck_c,c5,u1,hso,hL,c8',h2]));exact key
theorem zGl (I:List Pr) (hI : ∀p∈I,p.ok) (hl:I.length≤60) (hc : ∀p∈I,p.wth.count≤1000∧p.what.count≤1000) : ∀(m i:Nat),i+m=I.length →
  ∃S',zT 0 kN 0 116 0 [.blk 0,.seq 0 15] [(0,.sl (zY I) false),(13,.sl (zY I) false),(14,.int .i64 I.length),(15,.int .i64 i)] []=some (.int .i64 (if zCC I m i=true then 0 else 3),S'):=by
 intro m
 induction m with
 | zero =>
  intro i hi;have h1 : ¬(i:Int)<(I.length:Int):=by omega
  apply Exists.intro;apply zC;unfold zCC;rw[bA rfl];(repeat((conv=>lhs;whnf);simp only[go_sem,simprocAttr,h1]));apply zN;((repeat((conv=>lhs;whnf);simp only[go_sem,simprocAttr]));try rfl)
 | succ m hm =>
  intro i hi;have h1:(i:Int)<(I.length:Int):=by omega
  have h4:0≤(i:Int)∧(i:Int)<(I.length:Int):=⟨by omega,h1⟩;have hpc:=hc _ (vc (I:=I) (i:=i) (by omega));obtain⟨Sn,key⟩:=hm (i+1) (by omega);unfold zCC okP;generalize hK:I.getD i pr0=K at *;by_cases g10:K.what.op=10
  ·have:=zNd I hI hl i (by omega) K hK hpc.1 _ Sn key g10;rw[g10];exact this
  by_cases g11:K.what.op=11
  ·have:=zNe I hI hl i (by omega) K hK hpc.1 _ Sn key g11;rw[g11];exact this
  by_cases g37:K.what.op=37
  ·have:=zNf I hI hl i (by omega) K hK hpc.1 _ Sn key g37;rw[g37];exact this
  by_cases g38:K.what.op=38
  ·have:=zNg I hI hl i (by omega) K hK hpc.1 _ Sn key g38;rw[g38];exact this
  have hw:vo K.what.op=0:=by
   unfold vo;rw[hZ (by omega),hZ (by omega)]
  have e:decide (vo K.what.op≠0)=false:=by simp[hw]
  rw[e,bB,bB,hZ (by simp)];apply Exists.intro;apply zC;((repeat((conv=>lhs;whnf);simp only[go_sem,simprocAttr,h1,h4,bD,hK,yK,g10,g11,g37,g38]));try rfl)
def jn (I:List Pr):Int:=if I.length≤40∧zCC I I.length 0=true then 0 else 3
theorem zCD (I:List Pr) (hI : ∀p∈I,p.ok) (hl:I.length≤60) (hc : ∀p∈I,p.wth.count≤1000∧p.what.count≤1000):callL Tryz.prog zE 10 [.sl (zY I) false]=some (.int .i64 (jn I)):=by
 unfold jn;by_cases h:I.length≤40
 ·have h' : ¬ 40<(I.length:Int):=by omega
  obtain⟨S',k⟩:=zGl I hI hl hc I.length 0 (by omega);have e:(I.length≤40∧zCC I I.length 0=true)↔zCC I I.length 0=true:=⟨fun x=>x.2,fun x=>⟨h,x⟩⟩;simp only[e];apply FX.callV ok10_ 1000 rfl rfl
  ·(repeat((conv=>lhs;whnf);simp only[go_sem,simprocAttr,h']));exact k
  ·rfl
 ·have h':40<(I.length:Int):=by omega
  rw[hZ (fun x=>h x.1)];apply FX.callV ok10_ 1000 rfl rfl
  ·((repeat((conv=>lhs;whnf);simp only[go_sem,simprocAttr,h']));try rfl)
  ·rfl
theorem zJ3 (S:zB) (I:List Pr) (hI : ∀p∈I,p.ok) (hl:I.length≤60) (hc : ∀p∈I,p.wth.count≤1000∧p.what.count≤1000):zO (callL Tryz.prog zE) S 10 [.sl (zY I) false]=some {v:=.int .i64 (jn I)} := zF (zCD I hI hl hc) (by simp[zi.sl])
end
end
section
def YT (I:List Pr) (i:Nat) (p:Pr):Bool:=(I.take i).any fun q=>decide (p.what.cmp q.what=0)
def vw (p:Pr):Bool:=if p.what.op=10∨p.what.op=11 then decide (p.wth.check 1=0) else if p.what.op=37∨p.what.op=38 then decide (p.wth.check 2=0) && !p.wth.has yN else false
def okR (I:List Pr) (i:Nat) (p:Pr):Bool :=
 p.what.isSymbol&&(decide (p.rates.length=0)&&(!YT I i p&&(vw p&&(!p.wth.has yO&&(!p.wth.has (xD 12)&&(!p.wth.has (xD 3) && !(decide (p.what.kids.length=0)&&p.wth.has (xD 13))))))))
def WV (I:List Pr):Nat→Nat→Bool
 | 0,_=>true
 | m+1,i=>okR I i (I.getD i pr0)&&WV I m (i+1)
section
attribute [local irreducible] Vs.callL Vs.callRL tyi zO zk zf zQ zW zZ zI zX zA zK zb zV zG zJ zU zs yL zr zL za Vs.gc zH
noncomputable def qR:FX:=⟨Tryz.f11,zE.of 11,[]⟩
instance ok11_:qR.ok 11:=FX.mk'
theorem zCE (I:List Pr) (hI : ∀p∈I,p.ok) (hl:I.length≤60) (i:Nat) (hi:i<I.length) (fs:List Fr) : ∀(m j:Nat),j+m=i →
  ((((I.take i).drop j).any fun q=>decide ((I.getD i pr0).what.cmp q.what=0))=false→∀z,yD 0 qR 2 fs [(0,.sl (zY I) false),(3,.int .i64 i),(4,.mp 0 0 0),(5,.mp 1 0 0),(6,.undef),(33,.undef)] [.arr [(I.getD i pr0).cells] none false,.arr [(I.getD i pr0).what.cells] none false]=some z →
   zT 0 qR 2 119412 2 fs [(0,.sl (zY I) false),(3,.int .i64 i),(4,.mp 0 0 0),(5,.mp 1 0 0),(6,.int .i64 j)] [.arr [(I.getD i pr0).cells] none false,.arr [(I.getD i pr0).what.cells] none false]=some z) ∧
  ((((I.take i).drop j).any fun q=>decide ((I.getD i pr0).what.cmp q.what=0))=true→∃S',
   zT 0 qR 2 119412 2 fs [(0,.sl (zY I) false),(3,.int .i64 i),(4,.mp 0 0 0),(5,.mp 1 0 0),(6,.int .i64 j)] [.arr [(I.getD i pr0).cells] none false,.arr [(I.getD i pr0).what.cells] none false]=some (.int .i64 3,S')):=by
 intro m
 induction m with
 | zero =>
  intro j hj;have h1 : ¬(j:Int)<(i:Int):=by omega
  have e0:((I.take i).drop j)=[]:=bW (by simp;omega);rw[e0];refine⟨fun _ z hz=>?_,fun h=>by simp at h⟩;apply zC;(repeat((conv=>lhs;whnf);simp only[go_sem,simprocAttr,h1]));exact hz
 | succ m hm =>
  intro j hj;have h1:(j:Int)<(i:Int):=by omega
  have h2:=zh (i:=j) (n:=I.length) (by omega) (by unfold maxLen;omega);have h3:0≤(j:Int)∧(j:Int)<(I.length:Int):=⟨by omega,by omega⟩;have hp:=hI _ (vc (I:=I) (i:=i) hi);have hq:=hI _ (vc (I:=I) (i:=j) (by omega));have hE:=fun S=>zEX S _ _ hp.what hq.what;obtain⟨k1,k2⟩:=hm (j+1) (by omega);rw[Xx (I:=I) (i:=i) (j:=j) (by omega) (by omega),BB];generalize hK:I.getD i pr0=K at *;by_cases c:K.what.cmp (I.getD j pr0).what=0
  ·refine⟨fun h=>by (rw[bG c,pI]at h;cases h),fun _=>?_⟩;apply Exists.intro;apply zC;((repeat((conv=>lhs;whnf);simp only[go_sem,simprocAttr,h1,h2,h3,bD,hE,c]));try rfl)
  ·rw[bH c,bZ];refine⟨fun h z hz=>?_,fun h=>?_⟩
   ·apply zC;(repeat((conv=>lhs;whnf);simp only[go_sem,simprocAttr,h1,h2,h3,bD,hE,c]));exact k1 h z hz
   ·obtain⟨S',k⟩:=k2 h;refine⟨S',yv ok11_.good 1000 ?_⟩;(repeat((conv=>lhs;whnf);simp only[go_sem,simprocAttr,h1,h2,h3,bD,hE,c]));exact k
theorem zGm (I:List Pr) (hI : ∀p∈I,p.ok) (hl:I.length≤60) (i:Nat) (hi:i<I.length) (K:Pr) (hK:I.getD i pr0=K) :
  (K.what.isSymbol&&(decide (K.rates.length=0) && !YT I i K))=false∧(∃S',zT 0 qR 0 116 0 [.blk 0,.seq 0 15] [(0,.sl (zY I) false),(3,.int .i64 i)] []=some (.int .i64 3,S')) ∨
  (K.what.isSymbol&&(decide (K.rates.length=0) && !YT I i K))=true∧∀z,(∀fs,fs=[Fr.blk 2,.seq 1 14927,.blk 1,.seq 0 467,.lop 0 116 0,.blk 0,.seq 0 15]→yD 0 qR 2 fs [(0,.sl (zY I) false),(3,.int .i64 i),(4,.mp 0 0 0),(5,.mp 1 0 0),(6,.undef),(33,.undef)] [.arr [K.cells] none false,.arr [K.what.cells] none false]=some z)→zT 0 qR 0 116 0 [.blk 0,.seq 0 15] [(0,.sl (zY I) false),(3,.int .i64 i)] []=some z:=by
 have h1:(i:Int)<(I.length:Int):=by omega
 have h4:0≤(i:Int)∧(i:Int)<(I.length:Int):=⟨by omega,h1⟩;have hp:K.ok:=hK ▸ hI _ (vc (I:=I) (i:=i) (by omega));have L2:=fun fs=>zCE I hI hl i (by omega) fs i 0 (by omega);simp only[pA,hK]at L2;have hS:=fun S=>zGd S K.what hp.what
 cases c1:K.what.isSymbol
 ·rw[c1]at hS
  left
  refine⟨by simp,?_⟩;apply Exists.intro;apply zC;((repeat((conv=>lhs;whnf);simp only[go_sem,simprocAttr,h1,h4,bD,hK,yK,zn,hS]));try rfl)
 rw[c1]at hS;by_cases c2:K.rates.length=0
 case neg =>
  have c2':0<(K.rates.length:Int):=by omega
  left
  refine⟨by simp[c2],?_⟩;apply Exists.intro;apply zC;((repeat((conv=>lhs;whnf);simp only[go_sem,simprocAttr,h1,h4,bD,hK,yK,zn,hS,c2']));try rfl)
 have c2' : ¬ 0<(K.rates.length:Int):=by omega
 cases c3:YT I i K
 case true =>
  left
  obtain⟨S',k⟩:=(L2 _).2 c3;refine⟨by simp,S',?_⟩;apply zC;(repeat((conv=>lhs;whnf);simp only[go_sem,simprocAttr,h1,h4,bD,hK,yK,zn,hS,c2']));exact k
 right
 refine⟨by simp[c2],fun z hz=>?_⟩;apply zC;(repeat((conv=>lhs;whnf);simp only[go_sem,simprocAttr,h1,h4,bD,hK,yK,zn,hS,c2']));exact (L2 _).1 c3 z (hz _ rfl)
theorem zNh (I:List Pr) (hl:I.length≤60) (i:Nat) (hi:i<I.length) (K:Pr) (hp:K.ok) (hwc:K.wth.count≤1000) (R:Bool) (Sn:zB) (key:zT 0 qR 0 116 0 [.blk 0,.seq 0 15] [(0,.sl (zY I) false),(3,.int .i64 ((i+1:Nat):Int))] []=some (.int .i64 (if R=true then 0 else 3),Sn)) (ho:K.what.op=10) :
  ∃S',yD 0 qR 2 [Fr.blk 2,.seq 1 14927,.blk 1,.seq 0 467,.lop 0 116 0,.blk 0,.seq 0 15] [(0,.sl (zY I) false),(3,.int .i64 i),(4,.mp 0 0 0),(5,.mp 1 0 0),(6,.undef),(33,.undef)] [.arr [K.cells] none false,.arr [K.what.cells] none false]=some (.int .i64 (if ((vw K&&(!K.wth.has yO&&(!K.wth.has (xD 12)&&(!K.wth.has (xD 3) && !(decide (K.what.kids.length=0)&&K.wth.has (xD 13))))))&&R)=true then 0 else 3),S'):=by
 have h2:=zh (i:=i) (n:=I.length) (by omega) (by unfold maxLen;omega);have wch:=fun S s=>qH S K.wth hp.wth (by omega) s;have hsy:=fun S=>X5 S K.wth hp.wth;have hM:=fun S=>ZL S K.wth hp.wth;have o12:=fun S=>uJ S 12 K.wth hp.wth;have o3:=fun S=>uJ S 3 K.wth hp.wth;have o13:=fun S=>uJ S 13 K.wth hp.wth;have e:vw K=decide (K.wth.check 1=0):=by unfold vw;rw[bA (by omega)]
 rw[e];clear e;by_cases c5:K.wth.check 1=0
 case neg =>
  rw[bH c5,bB,bB,hZ (by simp)];apply Exists.intro;apply zN;((repeat((conv=>lhs;whnf);simp only[go_sem,simprocAttr,ho,Int.reduceEq,wch,c5]));try rfl)
 rw[bG c5,bC]
 cases c_hsy:K.wth.has yO
 case true =>
  rw[c_hsy]at hsy;rw[bU,bB,bB,hZ (by simp)];apply Exists.intro;apply zN;((repeat((conv=>lhs;whnf);simp only[go_sem,simprocAttr,ho,Int.reduceEq,wch,c5,hsy]));try rfl)
 rw[c_hsy]at hsy;rw[bK,bC]
 cases c_o12:K.wth.has (xD 12)
 case true =>
  rw[c_o12]at o12;rw[bU,bB,bB,hZ (by simp)];apply Exists.intro;apply zN;((repeat((conv=>lhs;whnf);simp only[go_sem,simprocAttr,ho,Int.reduceEq,wch,c5,hsy,o12]));try rfl)
 rw[c_o12]at o12;rw[bK,bC]
 cases c_o3:K.wth.has (xD 3)
 case true =>
  rw[c_o3]at o3;rw[bU,bB,bB,hZ (by simp)];apply Exists.intro;apply zN;((repeat((conv=>lhs;whnf);simp only[go_sem,simprocAttr,ho,Int.reduceEq,wch,c5,hsy,o12,o3]));try rfl)
 rw[c_o3]at o3;rw[bK,bC];by_cases c8:K.what.kids.length=0
 ·have c8':(K.what.kids.length:Int)=0:=by omega
  rw[bG c8,bC]
  cases c9:K.wth.has (xD 13)
  case true =>
   rw[c9]at o13;rw[bU,bB,hZ (by simp)];apply Exists.intro;apply zN;((repeat((conv=>lhs;whnf);simp only[go_sem,simprocAttr,ho,Int.reduceEq,wch,c5,hsy,o12,o3,c8',o13]));try rfl)
  rw[c9]at o13;rw[bK,bC];refine⟨Sn,?_⟩;apply zN;(repeat((conv=>lhs;whnf);simp only[go_sem,simprocAttr,ho,Int.reduceEq,wch,c5,hsy,o12,o3,c8',o13,h2]));exact key
 ·have c8' : ¬(K.what.kids.length:Int)=0:=by omega
  rw[bH c8,bB,bK,bC];refine⟨Sn,?_⟩;apply zN;(repeat((conv=>lhs;whnf);simp only[go_sem,simprocAttr,ho,Int.reduceEq,wch,c5,hsy,o12,o3,c8',h2]));exact key
theorem zNi (I:List Pr) (hl:I.length≤60) (i:Nat) (hi:i<I.length) (K:Pr) (hp:K.ok) (hwc:K.wth.count≤1000) (R:Bool) (Sn:zB) (key:zT 0 qR 0 116 0 [.blk 0,.seq 0 15] [(0,.sl (zY I) false),(3,.int .i64 ((i+1:Nat):Int))] []=some (.int .i64 (if R=true then 0 else 3),Sn)) (ho:K.what.op=11) :
  ∃S',yD 0 qR 2 [Fr.blk 2,.seq 1 14927,.blk 1,.seq 0 467,.lop 0 116 0,.blk 0,.seq 0 15] [(0,.sl (zY I) false),(3,.int .i64 i),(4,.mp 0 0 0),(5,.mp 1 0 0),(6,.undef),(33,.undef)] [.arr [K.cells] none false,.arr [K.what.cells] none false]=some (.int .i64 (if ((vw K&&(!K.wth.has yO&&(!K.wth.has (xD 12)&&(!K.wth.has (xD 3) && !(decide (K.what.kids.length=0)&&K.wth.has (xD 13))))))&&R)=true then 0 else 3),S'):=by
 have h2:=zh (i:=i) (n:=I.length) (by omega) (by unfold maxLen;omega);have wch:=fun S s=>qH S K.wth hp.wth (by omega) s;have hsy:=fun S=>X5 S K.wth hp.wth;have hM:=fun S=>ZL S K.wth hp.wth;have o12:=fun S=>uJ S 12 K.wth hp.wth;have o3:=fun S=>uJ S 3 K.wth hp.wth;have o13:=fun S=>uJ S 13 K.wth hp.wth;have e:vw K=decide (K.wth.check 1=0):=by unfold vw;rw[bA (by omega)]
 rw[e];clear e;by_cases c5:K.wth.check 1=0
 case neg =>
  rw[bH c5,bB,bB,hZ (by simp)];apply Exists.intro;apply zN;((repeat((conv=>lhs;whnf);simp only[go_sem,simprocAttr,ho,Int.reduceEq,wch,c5]));try rfl)
 rw[bG c5,bC]
 cases c_hsy:K.wth.has yO
 case true =>
  rw[c_hsy]at hsy;rw[bU,bB,bB,hZ (by simp)];apply Exists.intro;apply zN;((repeat((conv=>lhs;whnf);simp only[go_sem,simprocAttr,ho,Int.reduceEq,wch,c5,hsy]));try rfl)
 rw[c_hsy]at hsy;rw[bK,bC]
 cases c_o12:K.wth.has (xD 12)
 case true =>
  rw[c_o12]at o12;rw[bU,bB,bB,hZ (by simp)];apply Exists.intro;apply zN;((repeat((conv=>lhs;whnf);simp only[go_sem,simprocAttr,ho,Int.reduceEq,wch,c5,hsy,o12]));try rfl)
 rw[c_o12]at o12;rw[bK,bC]
 cases c_o3:K.wth.has (xD 3)
 case true =>
  rw[c_o3]at o3;rw[bU,bB,bB,hZ (by simp)];apply Exists.intro;apply zN;((repeat((conv=>lhs;whnf);simp only[go_sem,simprocAttr,ho,Int.reduceEq,wch,c5,hsy,o12,o3]));try rfl)
 rw[c_o3]at o3;rw[bK,bC];by_cases c8:K.what.kids.length=0
 ·have c8':(K.what.kids.length:Int)=0:=by omega
  rw[bG c8,bC]
  cases c9:K.wth.has (xD 13)
  case true =>
   rw[c9]at o13;rw[bU,bB,hZ (by simp)];apply Exists.intro;apply zN;((repeat((conv=>lhs;whnf);simp only[go_sem,simprocAttr,ho,Int.reduceEq,wch,c5,hsy,o12,o3,c8',o13]));try rfl)
  rw[c9]at o13;rw[bK,bC];refine⟨Sn,?_⟩;apply zN;(repeat((conv=>lhs;whnf);simp only[go_sem,simprocAttr,ho,Int.reduceEq,wch,c5,hsy,o12,o3,c8',o13,h2]));exact key
 ·have c8' : ¬(K.what.kids.length:Int)=0:=by omega
  rw[bH c8,bB,bK,bC];refine⟨Sn,?_⟩;apply zN;(repeat((conv=>lhs;whnf);simp only[go_sem,simprocAttr,ho,Int.reduceEq,wch,c5,hsy,o12,o3,c8',h2]));exact key
theorem zNj (I:List Pr) (hl:I.length≤60) (i:Nat) (hi:i<I.length) (K:Pr) (hp:K.ok) (hwc:K.wth.count≤1000) (R:Bool) (Sn:zB) (key:zT 0 qR 0 116 0 [.blk 0,.seq 0 15] [(0,.sl (zY I) false),(3,.int .i64 ((i+1:Nat):Int))] []=some (.int .i64 (if R=true then 0 else 3),Sn)) (ho:K.what.op=37) :
  ∃S',yD 0 qR 2 [Fr.blk 2,.seq 1 14927,.blk 1,.seq 0 467,.lop 0 116 0,.blk 0,.seq 0 15] [(0,.sl (zY I) false),(3,.int .i64 i),(4,.mp 0 0 0),(5,.mp 1 0 0),(6,.undef),(33,.undef)] [.arr [K.cells] none false,.arr [K.what.cells] none false]=some (.int .i64 (if ((vw K&&(!K.wth.has yO&&(!K.wth.has (xD 12)&&(!K.wth.has (xD 3) && !(decide (K.what.kids.length=0)&&K.wth.has (xD 13))))))&&R)=true then 0 else 3),S'):=by
 have h2:=zh (i:=i) (n:=I.length) (by omega) (by unfold maxLen;omega);have wch:=fun S s=>qH S K.wth hp.wth (by omega) s;have hsy:=fun S=>X5 S K.wth hp.wth;have hM:=fun S=>ZL S K.wth hp.wth;have o12:=fun S=>uJ S 12 K.wth hp.wth;have o3:=fun S=>uJ S 3 K.wth hp.wth;have o13:=fun S=>uJ S 13 K.wth hp.wth;have e:vw K=(decide (K.wth.check 2=0) && !K.wth.has yN):=by unfold vw;rw[hZ (by omega),bA (by omega)]
 rw[e];clear e;by_cases c5:K.wth.check 2=0
 case neg =>
  rw[bH c5,bB,bB,bB,hZ (by simp)];apply Exists.intro;apply zN;((repeat((conv=>lhs;whnf);simp only[go_sem,simprocAttr,ho,Int.reduceEq,wch,c5]));try rfl)
 rw[bG c5,bC]
 cases cm:K.wth.has yN
 case true =>
  rw[cm]at hM;rw[bU,bB,bB,hZ (by simp)];apply Exists.intro;apply zN;((repeat((conv=>lhs;whnf);simp only[go_sem,simprocAttr,ho,Int.reduceEq,wch,c5,hM]));try rfl)
 rw[cm]at hM;rw[bK,bC]
 cases c_hsy:K.wth.has yO
 case true =>
  rw[c_hsy]at hsy;rw[bU,bB,bB,hZ (by simp)];apply Exists.intro;apply zN;((repeat((conv=>lhs;whnf);simp only[go_sem,simprocAttr,ho,Int.reduceEq,wch,c5,hM,hsy]));try rfl)
 rw[c_hsy]at hsy;rw[bK,bC]
 cases c_o12:K.wth.has (xD 12)
 case true =>
  rw[c_o12]at o12;rw[bU,bB,bB,hZ (by simp)];apply Exists.intro;apply zN;((repeat((conv=>lhs;whnf);simp only[go_sem,simprocAttr,ho,Int.reduceEq,wch,c5,hM,hsy,o12]));try rfl)
 rw[c_o12]at o12;rw[bK,bC]
 cases c_o3:K.wth.has (xD 3)
 case true =>
  rw[c_o3]at o3;rw[bU,bB,bB,hZ (by simp)];apply Exists.intro;apply zN;((repeat((conv=>lhs;whnf);simp only[go_sem,simprocAttr,ho,Int.reduceEq,wch,c5,hM,hsy,o12,o3]));try rfl)
 rw[c_o3]at o3;rw[bK,bC];by_cases c8:K.what.kids.length=0
 ·have c8':(K.what.kids.length:Int)=0:=by omega
  rw[bG c8,bC]
  cases c9:K.wth.has (xD 13)
  case true =>
   rw[c9]at o13;rw[bU,bB,hZ (by simp)];apply Exists.intro;apply zN;((repeat((conv=>lhs;whnf);simp only[go_sem,simprocAttr,ho,Int.reduceEq,wch,c5,hM,hsy,o12,o3,c8',o13]));try rfl)
  rw[c9]at o13;rw[bK,bC];refine⟨Sn,?_⟩;apply zN;(repeat((conv=>lhs;whnf);simp only[go_sem,simprocAttr,ho,Int.reduceEq,wch,c5,hM,hsy,o12,o3,c8',o13,h2]));exact key
 ·have c8' : ¬(K.what.kids.length:Int)=0:=by omega
  rw[bH c8,bB,bK,bC];refine⟨Sn,?_⟩;apply zN;(repeat((conv=>lhs;whnf);simp only[go_sem,simprocAttr,ho,Int.reduceEq,wch,c5,hM,hsy,o12,o3,c8',h2]));exact key
theorem zNk (I:List Pr) (hl:I.length≤60) (i:Nat) (hi:i<I.length) (K:Pr) (hp:K.ok) (hwc:K.wth.count≤1000) (R:Bool) (Sn:zB) (key:zT 0 qR 0 116 0 [.blk 0,.seq 0 15] [(0,.sl (zY I) false),(3,.int .i64 ((i+1:Nat):Int))] []=some (.int .i64 (if R=true then 0 else 3),Sn)) (ho:K.what.op=38) :
  ∃S',yD 0 qR 2 [Fr.blk 2,.seq 1 14927,.blk 1,.seq 0 467,.lop 0 116 0,.blk 0,.seq 0 15] [(0,.sl (zY I) false),(3,.int .i64 i),(4,.mp 0 0 0),(5,.mp 1 0 0),(6,.undef),(33,.undef)] [.arr [K.cells] none false,.arr [K.what.cells] none false]=some (.int .i64 (if ((vw K&&(!K.wth.has yO&&(!K.wth.has (xD 12)&&(!K.wth.has (xD 3) && !(decide (K.what.kids.length=0)&&K.wth.has (xD 13))))))&&R)=true then 0 else 3),S'):=by
 have h2:=zh (i:=i) (n:=I.length) (by omega) (by unfold maxLen;omega);have wch:=fun S s=>qH S K.wth hp.wth (by omega) s;have hsy:=fun S=>X5 S K.wth hp.wth;have hM:=fun S=>ZL S K.wth hp.wth;have o12:=fun S=>uJ S 12 K.wth hp.wth;have o3:=fun S=>uJ S 3 K.wth hp.wth;have o13:=fun S=>uJ S 13 K.wth hp.wth;have e:vw K=(decide (K.wth.check 2=0) && !K.wth.has yN):=by unfold vw;rw[hZ (by omega),bA (by omega)]
 rw[e];clear e;by_cases c5:K.wth.check 2=0
 case neg =>
  rw[bH c5,bB,bB,bB,hZ (by simp)];apply Exists.intro;apply zN;((repeat((conv=>lhs;whnf);simp only[go_sem,simprocAttr,ho,Int.reduceEq,wch,c5]));try rfl)
 rw[bG c5,bC]
 cases cm:K.wth.has yN
 case true =>
  rw[cm]at hM;rw[bU,bB,bB,hZ (by simp)];apply Exists.intro;apply zN;((repeat((conv=>lhs;whnf);simp only[go_sem,simprocAttr,ho,Int.reduceEq,wch,c5,hM]));try rfl)
 rw[cm]at hM;rw[bK,bC]
 cases c_hsy:K.wth.has yO
 case true =>
  rw[c_hsy]at hsy;rw[bU,bB,bB,hZ (by simp)];apply Exists.intro;apply zN;((repeat((conv=>lhs;whnf);simp only[go_sem,simprocAttr,ho,Int.reduceEq,wch,c5,hM,hsy]));try rfl)
 rw[c_hsy]at hsy;rw[bK,bC]
 cases c_o12:K.wth.has (xD 12)
 case true =>
  rw[c_o12]at o12;rw[bU,bB,bB,hZ (by simp)];apply Exists.intro;apply zN;((repeat((conv=>lhs;whnf);simp only[go_sem,simprocAttr,ho,Int.reduceEq,wch,c5,hM,hsy,o12]));try rfl)
 rw[c_o12]at o12;rw[bK,bC]
 cases c_o3:K.wth.has (xD 3)
 case true =>
  rw[c_o3]at o3;rw[bU,bB,bB,hZ (by simp)];apply Exists.intro;apply zN;((repeat((conv=>lhs;whnf);simp only[go_sem,simprocAttr,ho,Int.reduceEq,wch,c5,hM,hsy,o12,o3]));try rfl)
 rw[c_o3]at o3;rw[bK,bC];by_cases c8:K.what.kids.length=0
 ·have c8':(K.what.kids.length:Int)=0:=by omega
  rw[bG c8,bC]
  cases c9:K.wth.has (xD 13)
  case true =>
   rw[c9]at o13;rw[bU,bB,hZ (by simp)];apply Exists.intro;apply zN;((repeat((conv=>lhs;whnf);simp only[go_sem,simprocAttr,ho,Int.reduceEq,wch,c5,hM,hsy,o12,o3,c8',o13]));try rfl)
  rw[c9]at o13;rw[bK,bC];refine⟨Sn,?_⟩;apply zN;(repeat((conv=>lhs;whnf);simp only[go_sem,simprocAttr,ho,Int.reduceEq,wch,c5,hM,hsy,o12,o3,c8',o13,h2]));exact key
 ·have c8' : ¬(K.what.kids.length:Int)=0:=by omega
  rw[bH c8,bB,bK,bC];refine⟨Sn,?_⟩;apply zN;(repeat((conv=>lhs;whnf);simp only[go_sem,simprocAttr,ho,Int.reduceEq,wch,c5,hM,hsy,o12,o3,c8',h2]));exact key
theorem zE8 (I:List Pr) (hI : ∀p∈I,p.ok) (hl:I.length≤60) (hc : ∀p∈I,p.wth.count≤1000∧p.what.count≤1000) : ∀(m i:Nat),i+m=I.length →
  ∃S',zT 0 qR 0 116 0 [.blk 0,.seq 0 15] [(0,.sl (zY I) false),(3,.int .i64 i)] []=some (.int .i64 (if WV I m i=true then 0 else 3),S'):=by
 intro m
 induction m with
 | zero =>
  intro i hi;have h1 : ¬(i:Int)<(I.length:Int):=by omega
  apply Exists.intro;apply zC;unfold WV;rw[bA rfl];(repeat((conv=>lhs;whnf);simp only[go_sem,simprocAttr,h1]));apply zN;((repeat((conv=>lhs;whnf);simp only[go_sem,simprocAttr]));try rfl)
 | succ m hm =>
  intro i hi;have hpc:=hc _ (vc (I:=I) (i:=i) (by omega));obtain⟨Sn,key⟩:=hm (i+1) (by omega);have hpk:=hI _ (vc (I:=I) (i:=i) (by omega));have pre:=zGm I hI hl i (by omega) _ rfl;unfold WV okR;generalize hK:I.getD i pr0=K at *;have asoc:(K.what.isSymbol&&(decide (K.rates.length=0)&&(!YT I i K&&(vw K&&(!K.wth.has yO&&(!K.wth.has (xD 12)&&(!K.wth.has (xD 3) && !(decide (K.what.kids.length=0)&&K.wth.has (xD 13))))))))&&WV I m (i+1)) =
    ((K.what.isSymbol&&(decide (K.rates.length=0) && !YT I i K))&&((vw K&&(!K.wth.has yO&&(!K.wth.has (xD 12)&&(!K.wth.has (xD 3) && !(decide (K.what.kids.length=0)&&K.wth.has (xD 13))))))&&WV I m (i+1))):=by simp only[Bool.and_assoc]
  rw[asoc]
  rcases pre with⟨p1,S',p2⟩ | ⟨p1,p2⟩
  ·rw[p1,bB,hZ (by simp)];exact⟨S',p2⟩
  rw[p1,bC];by_cases g10:K.what.op=10
  ·obtain⟨S',k⟩:=zNh I hl i (by omega) K hpk hpc.1 _ Sn key g10;exact⟨S',p2 _ fun fs hfs=>hfs ▸ k⟩
  by_cases g11:K.what.op=11
  ·obtain⟨S',k⟩:=zNi I hl i (by omega) K hpk hpc.1 _ Sn key g11;exact⟨S',p2 _ fun fs hfs=>hfs ▸ k⟩
  by_cases g37:K.what.op=37
  ·obtain⟨S',k⟩:=zNj I hl i (by omega) K hpk hpc.1 _ Sn key g37;exact⟨S',p2 _ fun fs hfs=>hfs ▸ k⟩
  by_cases g38:K.what.op=38
  ·obtain⟨S',k⟩:=zNk I hl i (by omega) K hpk hpc.1 _ Sn key g38;exact⟨S',p2 _ fun fs hfs=>hfs ▸ k⟩
  have e:vw K=false:=by unfold vw;rw[hZ (by omega),hZ (by omega)]
  rw[e,bB,bB,hZ (by simp)];apply Exists.intro;refine p2 _ fun fs hfs=>?_;subst hfs;apply zN;((repeat((conv=>lhs;whnf);simp only[go_sem,simprocAttr,g10,g11,g37,g38]));try rfl)
def qO (I:List Pr):Int:=if I.length≤40∧WV I I.length 0=true then 0 else 3
theorem zE9 (I:List Pr) (hI : ∀p∈I,p.ok) (hl:I.length≤60) (hc : ∀p∈I,p.wth.count≤1000∧p.what.count≤1000):callL Tryz.prog zE 11 [.sl (zY I) false]=some (.int .i64 (qO I)):=by
 unfold qO;by_cases h:I.length≤40
 ·have h' : ¬ 40<(I.length:Int):=by omega
  obtain⟨S',k⟩:=zE8 I hI hl hc I.length 0 (by omega);have e:(I.length≤40∧WV I I.length 0=true)↔WV I I.length 0=true:=⟨fun x=>x.2,fun x=>⟨h,x⟩⟩;simp only[e];apply FX.callV ok11_ 1000 rfl rfl
  ·(repeat((conv=>lhs;whnf);simp only[go_sem,simprocAttr,h']));exact k
  ·rfl
 ·have h':40<(I.length:Int):=by omega
  rw[hZ (fun x=>h x.1)];apply FX.callV ok11_ 1000 rfl rfl
  ·((repeat((conv=>lhs;whnf);simp only[go_sem,simprocAttr,h']));try rfl)
  ·rfl
theorem VY (S:zB) (I:List Pr) (hI : ∀p∈I,p.ok) (hl:I.length≤60) (hc : ∀p∈I,p.wth.count≤1000∧p.what.count≤1000):zO (callL Tryz.prog zE) S 11 [.sl (zY I) false]=some {v:=.int .i64 (qO I)} := zF (zE9 I hI hl hc) (by simp[zi.sl])
end
end
end Go.Vs


import Derived.Test.YtkaeejkajfinhaaGreatMV21
set_option linter.unusedVariables false
set_option linter.unusedSimpArgs false
set_option maxRecDepth 100000
namespace Go.Vs
open Go Go.Proofs
section
structure Pr where
 what:Node
 wth:Node
 rates:List Node
def Pr.cells (p:Pr):List PV:=p.what.cells++(p.wth.cells++[.sl (Node.rows p.rates) false])
structure Pr.ok (p:Pr):Prop where
 what:p.what.ok
 wth:p.wth.ok
 rates:p.rates.length≤maxLen
def pr0:Pr:=⟨nd0,nd0,[]⟩
def zX (I:List Pr):List (List PV):=I.map Pr.cells
theorem Pr.cells_len (p:Pr):p.cells.length=13:=by simp[Pr.cells,Node.cells_length]
@[go_sem] theorem Jr (I:List Pr):(zX I).length=I.length:=nr (by simp[zX])
@[go_sem] theorem zJD (I:List Pr):yM 13 (zX I)=true:=nr (zFD (enc:=Pr.cells) Pr.cells_len I)
theorem ZQ:(tyi Tryz.prog 69).d=.struct [(0,6,true),(6,6,true),(12,1,false)]:=by kernel_rfl
@[go_sem] theorem zJE:(tyi Tryz.prog 69).size=13:=nr (by kernel_rfl)
@[go_sem] theorem zGZ:(tyi Tryz.prog 69).known=true:=nr (by kernel_rfl)
@[go_sem] theorem zJF:(tyi Tryz.prog 69).zero=some [.int .i64 0,.str ⟨#[]⟩,.bool false,.sl [] true,.sl [] true,.sl [] true,.int .i64 0,.str ⟨#[]⟩,.bool false,.sl [] true,.sl [] true,.sl [] true,.sl [] true]:=nr (by kernel_rfl)
@[go_sem] theorem yF (n:Nat):zU (tyi Tryz.prog 69) n=some {v:=.mp n 0 0,new:=some ([[.int .i64 0,.str ⟨#[]⟩,.bool false,.sl [] true,.sl [] true,.sl [] true,.int .i64 0,.str ⟨#[]⟩,.bool false,.sl [] true,.sl [] true,.sl [] true,.sl [] true]],none)} := nr (by unfold zU;rw[zJF];rfl)
@[go_sem] theorem zPw (id i off:Nat):zA (tyi Tryz.prog 69) 0 (.mp id i off)=some (.mp id i (off+0)):=by simp[zA,ZQ]
@[go_sem] theorem zPx (r:List PV):zA (tyi Tryz.prog 69) 0 (.cp r)=some (.cp (r.drop 0)):=by simp[zA,ZQ]
@[go_sem] theorem zPy (cs:List PV):zK (tyi Tryz.prog 69) 0 (.agg cs)=if 0+6≤cs.length then some (.agg ((cs.drop 0).take 6)) else none:=by simp[zK,ZQ]
@[go_sem] theorem zPz (id i off:Nat):zA (tyi Tryz.prog 69) 1 (.mp id i off)=some (.mp id i (off+6)):=by simp[zA,ZQ]
@[go_sem] theorem zQA (r:List PV):zA (tyi Tryz.prog 69) 1 (.cp r)=some (.cp (r.drop 6)):=by simp[zA,ZQ]
@[go_sem] theorem zQB (cs:List PV):zK (tyi Tryz.prog 69) 1 (.agg cs)=if 6+6≤cs.length then some (.agg ((cs.drop 6).take 6)) else none:=by simp[zK,ZQ]
@[go_sem] theorem zQC (id i off:Nat):zA (tyi Tryz.prog 69) 2 (.mp id i off)=some (.mp id i (off+12)):=by simp[zA,ZQ]
@[go_sem] theorem zQD (r:List PV):zA (tyi Tryz.prog 69) 2 (.cp r)=some (.cp (r.drop 12)):=by simp[zA,ZQ]
@[go_sem] theorem zQE (cs:List PV):zK (tyi Tryz.prog 69) 2 (.agg cs)=cs[12]? := by simp[zK,ZQ]
theorem zG0:SlT 22 69 13 232:=⟨by kernel_rfl,by kernel_rfl,by kernel_rfl,by kernel_rfl,by kernel_rfl⟩
@[go_sem] theorem zTN (r:List (List PV)) (ex:Bool):yI (tyi Tryz.prog 22) (.sl r ex)=some (.int .i64 r.length):=nr (zG0.len r ex)
@[go_sem] theorem zTO (S:zB) (I:List Pr) (ex:Bool) (i:Int):zI Tryz.prog 22 S (.sl (zX I) ex) (.int .i64 i)=if 0≤i∧i<I.length then some (.cp (I.getD i.toNat pr0).cells) else none:=nr (zG0.idx Pr.cells_len pr0 S I ex i)
theorem zEM (I:List Pr) (i:Nat):(zX I).take i=zX (I.take i):=by simp[zX,List.map_take]
theorem Ub (S:zB) (I:List Pr) (i:Nat) (h:i≤I.length):zY Tryz.prog 22 S (.sl (zX I) false) none (some (.int .i64 i)) none=some (.sl (zX (I.take i)) false):=by
 have:=zG0.firsts S (rows:=zX I) false i (by rw[Jr];exact h) (zJD I);rw[zEM]at this;exact this
@[go_sem] theorem Pr.clen (p:Pr):p.cells.length=13:=nr p.cells_len
@[go_sem] theorem Pr.call_ (p:Pr):p.cells.all PV.cell=true:=nr (by simp[Pr.cells,List.all_append,Node.cells_cell,PV.cell])
theorem YH : ∀a b:List PV,vK (a++b)=vK a++vK b
 | [],b=>rfl
 | v::r,b=>by rw[pX,yQ,yQ,YH r b,pB]
@[go_sem] theorem Pr.refs (p:Pr):vK p.cells=[]:=nr (by
 rw[Pr.cells,YH,YH,Node.refs,Node.refs];rfl)
@[go_sem] theorem zQF (p:Pr):part (tyi Tryz.prog 69) p.cells=some (.agg p.cells):=by
 simp[Pr.cells,Node.cells_eq,part,zGZ,TI.isAgg,ZQ,zJE]
@[go_sem] theorem zQG (p:Pr):part (tyi Tryz.prog 30) p.cells=some (.agg p.what.cells):=by
 simp[Pr.cells,Node.cells_eq,part,jB,TI.isAgg,YW,qu]
@[go_sem] theorem zNn (p:Pr):part (tyi Tryz.prog 3) p.cells=some (.int .i64 p.what.op):=by
 have e:(tyi Tryz.prog 3).isAgg=false:=by kernel_rfl
 simp[Pr.cells,Node.cells_eq,part,KW,e]
@[go_sem] theorem Pr.drop5 (p:Pr):p.cells.drop 5=.sl (Node.rows p.what.kids) false::(p.wth.cells++[.sl (Node.rows p.rates) false]):=nr (by simp[Pr.cells,Node.cells_eq])
@[go_sem] theorem Pr.drop6 (p:Pr):p.cells.drop 6=p.wth.cells++[.sl (Node.rows p.rates) false]:=nr (by simp[Pr.cells,Node.cells_eq])
@[go_sem] theorem Pr.drop12 (p:Pr):p.cells.drop 12=[.sl (Node.rows p.rates) false]:=nr (by simp[Pr.cells,Node.cells_eq])
@[go_sem] theorem zRl (m:Node) (r:List PV):part (tyi Tryz.prog 30) (m.cells++r)=some (.agg m.cells):=by
 simp[Node.cells_eq,part,jB,TI.isAgg,YW,qu]
theorem VD {I:List Pr} {i:Nat} (h:i<I.length):I.drop i=I.getD i pr0::I.drop (i+1):=by
 rw[PK h];simp[bL,h]
theorem vX {I:List Pr} {i:Nat} (h:i<I.length):I.getD i pr0∈I:=by
 simp[bL,h]
def Yp:Int→List Pr→Bool
 | a,[]=>decide (a≤1000)
 | a,p::r=>decide (p.rates.length≤10)&&Yp (IntKind.i64.wrap (a+IntKind.i64.wrap (p.wth.size+p.what.size))) r
def Vj (ls:Nat) (I:List Pr) (n:Node):Bool:=decide (ls≤100)&&(decide (I.length≤60)&&decide (n.size≤1000))&&Yp 0 I
section
attribute [local irreducible] Vs.callL Vs.callRL tyi zO zl zf zR zW za zI zY zA zK zb zV zG zJ zU zn yI zm zL ze Vs.gc zH
noncomputable def zRm:FX:=⟨Tryz.f9,zE.of 9,[]⟩
instance ok9_:zRm.ok 9:=FX.mk'
theorem zG1 (I:List Pr) (n:Node) (hI : ∀p∈I,p.ok) (hl:I.length≤60) : ∀(m i:Nat),i+m=I.length→∀a:Int,zS 0 zRm 0 244 1 [.blk 0,.seq 0 31] [(1,.sl (zX I) false),(7,.int .i64 a),(8,.int .i64 i)] [.arr [n.cells] none false]=some (.bool (Yp a (I.drop i)),[.arr [n.cells] none false]):=by
 intro m
 induction m with
 | zero =>
  intro i hi a;have h1 : ¬(i:Int)<(I.length:Int):=by omega
  rw[bT (by omega)];apply zC;(repeat((conv=>lhs;whnf);simp only[go_sem,simprocAttr,h1]));apply zN;unfold Yp;((repeat((conv=>lhs;whnf);simp only[go_sem,simprocAttr]));try rfl)
 | succ m hm =>
  intro i hi a;have h1:(i:Int)<(I.length:Int):=by omega
  have h2:=zg (i:=i) (n:=I.length) (by omega) (by unfold maxLen;omega);have h4:0≤(i:Int)∧(i:Int)<(I.length:Int):=⟨by omega,h1⟩;have hp:=hI _ (vX (I:=I) (i:=i) (by omega));have s1:=fun S=>uR S (XK _ hp.wth);have s2:=fun S=>uR S (XK _ hp.what);rw[VD (by omega)];unfold Yp;by_cases c:(I.getD i pr0).rates.length≤10
  ·have c' : ¬ 10<((I.getD i pr0).rates.length:Int):=by omega
   have key:=hm (i+1) (by omega) (IntKind.i64.wrap (a+IntKind.i64.wrap ((I.getD i pr0).wth.size+(I.getD i pr0).what.size)));rw[bG c,bC];apply zC;(repeat((conv=>lhs;whnf);simp only[go_sem,simprocAttr,h1,h2,h4,bD,c',s1,s2]));exact key
  ·have c':10<((I.getD i pr0).rates.length:Int):=by omega
   rw[bH c,bB];apply zC;((repeat((conv=>lhs;whnf);simp only[go_sem,simprocAttr,h1,h2,h4,bD,c']));try rfl)
theorem zG2 {sV:PV} {ls:Nat} (hs:yI (tyi Tryz.prog 35) sV=some (.int .i64 (ls:Int))) (I:List Pr) (n:Node) (hI : ∀p∈I,p.ok) (hn:n.ok):callL Tryz.prog zE 9 [sV,.sl (zX I) false,.agg n.cells]=some (.bool (Vj ls I n)):=by
 have s1:=fun S=>uR S (XK n hn);unfold Vj;by_cases c1:ls≤100
 case neg =>
  have c1':100<(ls:Int):=by omega
  rw[bH c1,bB,bB];apply FX.callB2 ok9_ 1000 rfl rfl;((repeat((conv=>lhs;whnf);simp only[go_sem,simprocAttr,hs,c1']));try rfl)
 have c1' : ¬ 100<(ls:Int):=by omega
 rw[bG c1,bC];by_cases c2:I.length≤60
 case neg =>
  have c2':60<(I.length:Int):=by omega
  rw[bH c2,bB,bB];apply FX.callB2 ok9_ 1000 rfl rfl;((repeat((conv=>lhs;whnf);simp only[go_sem,simprocAttr,hs,c1',c2']));try rfl)
 have c2' : ¬ 60<(I.length:Int):=by omega
 rw[bG c2,bC];by_cases c3:n.size≤1000
 case neg =>
  have c3':1000<n.size:=by omega
  rw[bH c3,bB];apply FX.callB2 ok9_ 1000 rfl rfl;((repeat((conv=>lhs;whnf);simp only[go_sem,simprocAttr,hs,c1',c2',s1,c3']));try rfl)
 have c3' : ¬ 1000<n.size:=by omega
 have key:=zG1 I n hI c2 I.length 0 (by omega) 0;rw[bX]at key;rw[bG c3,bC];apply FX.callB2 ok9_ 1000 rfl rfl;(repeat((conv=>lhs;whnf);simp only[go_sem,simprocAttr,hs,c1',c2',s1,c3']));exact key
end
theorem UH : ∀(I:List Pr) (a:Int),0≤a→a≤1000000000000→(∀p∈I,p.wth.count≤1000000000∧p.what.count≤1000000000)→I.length≤60→a+2000000000*(I.length:Int)≤1000000000000→Yp a I=true→∀p∈I,p.rates.length≤10∧a+(p.wth.count:Int)+p.what.count≤1000
 | [],a,_,_,_,_,_,_=>by simp
 | p::r,a,h0,h1,hc,hl,hb,h=>by
  unfold Yp at h;simp only[bO,pA]at h;obtain⟨h2,h3⟩:=h;obtain⟨k1,k2⟩:=hc p (by simp);rw[qa _ k1,qa _ k2]at h3;have w1:IntKind.i64.wrap ((p.wth.count:Int)+p.what.count)=(p.wth.count:Int)+p.what.count:=by rw[bE];omega
  rw[w1]at h3;have w2:IntKind.i64.wrap (a+((p.wth.count:Int)+p.what.count))=a+((p.wth.count:Int)+p.what.count):=by rw[bE];omega
  rw[w2]at h3;simp only[bK]at hb hl;have ih:=UH r (a+((p.wth.count:Int)+p.what.count)) (by omega) (by omega) (fun q hq=>hc q (by simp[hq])) (by omega) (by omega) h3;have last:a+((p.wth.count:Int)+p.what.count)≤1000:=by
   cases r with
   | nil=>unfold Yp at h3;simpa using h3
   | cons q r =>
    have:=(ih q (by simp)).2;omega
  intro q hq
  rcases sW.1 hq with rfl | hq
  ·exact⟨h2,by omega⟩
  ·have:=ih q hq;exact⟨this.1,by omega⟩
theorem zEN {ls:Nat} {I:List Pr} {n:Node} (hc : ∀p∈I,p.wth.count≤1000000000∧p.what.count≤1000000000) (hn:n.count≤1000000000) (h:Vj ls I n=true):ls≤100∧I.length≤60∧n.count≤1000∧∀p∈I,p.rates.length≤10∧p.wth.count≤1000∧p.what.count≤1000:=by
 unfold Vj at h;simp only[bO,pA]at h;obtain⟨⟨h1,h2,h3⟩,h4⟩:=h;rw[qa n hn]at h3;refine⟨h1,h2,by omega,fun p hp=>?_⟩;have:=UH I 0 (by omega) (by omega) hc h2 (by omega) h4 p hp;exact⟨this.1,by omega,by omega⟩
end
section
def vk (o:Int):Int:=if o=10∨o=11 then 1 else if o=37∨o=38 then 2 else 0
def kU:List Int:=[33,34,35,36,39,12,3]
def Yq (I:List Pr) (i:Nat) (p:Pr):Bool:=(I.take i).any fun q=>decide (q.what.cmp p.what=0)
def okP (I:List Pr) (i:Nat) (p:Pr):Bool :=
 decide (vk p.what.op≠0)&&(decide (p.what.check (vk p.what.op)=0)&&(decide (p.rates.length=0)&&(decide (p.what.sym.cmp p.what=0)&&(!Yq I i p &&
 (decide (p.wth.check (vk p.what.op)=0)&&(!p.wth.has (xn kU)&&(!p.wth.has yO && !(decide (p.what.kids.length=0)&&p.wth.has (xn [13])))))))))
def zBh (I:List Pr):Nat→Nat→Bool
 | 0,_=>true
 | m+1,i=>okP I i (I.getD i pr0)&&zBh I m (i+1)
theorem zMx (p:Pr):zT [p.cells]=[]:=by
 show vK p.cells++[]=[]
 rw[Pr.refs];rfl
theorem Xf {I:List Pr} {i j:Nat} (hj:j<i) (hi:i≤I.length):(I.take i).drop j=I.getD j pr0::(I.take i).drop (j+1):=by
 have h:j<(I.take i).length:=by simp;omega
 rw[VD h]
 congr 1
 simp[bL,aW,hj]
theorem Js {I:List Pr} {i j:Nat} (hj:j<i):(I.take i).getD j pr0=I.getD j pr0:=by
 simp[bL,aW,hj]
theorem ZR {S:zB} {id k:Nat} {ops:List Int} {g:Option (Option Nat)} {f ex:Bool} (n:Node) (hn:n.ok) (hl:ops.length≤1000) (hS:S[id]? = some (.arr (zD .i64 ops) g f)) (hk:ops.length=k):zO (callL Tryz.prog zE) S 40 [.agg n.cells,.msl id 0 k ex]=some {v:=.bool (n.has (xn ops)),fz:=[id]} := by
 have hid:=(bR.1 hS).1;refine KX (zIw ops hl n hn) ?_ ?_ ?_
 ·simp only[xY,Node.fz,uJ (xE hS) hk,bI];rfl
 ·have:List.flatMap PV.refs [.agg n.cells,.msl id 0 k ex]=[id]:=by
   simp[BF,PV.refs,Node.refs]
  rw[this];exact QX (xE hS) (zk _ _) 7
 ·simp[hid]
section
attribute [local irreducible] Vs.callL Vs.callRL tyi zO zl zf zR zW za zI zY zA zK zb zV zG zJ zU zn yI zm zL ze Vs.gc zH
noncomputable def kG:FX:=⟨Tryz.f10,zE.of 10,[]⟩
instance ok10_:kG.ok 10:=FX.mk'
theorem ZF (I:List Pr) (hI : ∀p∈I,p.ok) (hl:I.length≤60) (i:Nat) (hi:i<I.length) (w:Int) (sy:List PV) (hsy:vK sy=[]) (fs:List Fr) : ∀(m j:Nat),j+m=i →
  ((((I.take i).drop j).any fun q=>decide (q.what.cmp (I.getD i pr0).what=0))=false→∀z,yB 0 kG 3 fs [(0,.sl (zX I) false),(4,.mp 0 0 0),(5,.int .i64 w),(13,.sl (zX I) false),(14,.int .i64 I.length),(15,.int .i64 i),(53,.undef),(54,.undef),(55,.undef),(56,.undef)] [.arr [(I.getD i pr0).cells] none false,.arr [sy] none false]=some z →
   zS 0 kG 3 956916 2 fs [(0,.sl (zX I) false),(4,.mp 0 0 0),(5,.int .i64 w),(13,.sl (zX I) false),(14,.int .i64 I.length),(15,.int .i64 i),(53,.sl (zX (I.take i)) false),(54,.int .i64 i),(55,.int .i64 j)] [.arr [(I.getD i pr0).cells] none false,.arr [sy] none false]=some z) ∧
  ((((I.take i).drop j).any fun q=>decide (q.what.cmp (I.getD i pr0).what=0))=true→∃S',
   zS 0 kG 3 956916 2 fs [(0,.sl (zX I) false),(4,.mp 0 0 0),(5,.int .i64 w),(13,.sl (zX I) false),(14,.int .i64 I.length),(15,.int .i64 i),(53,.sl (zX (I.take i)) false),(54,.int .i64 i),(55,.int .i64 j)] [.arr [(I.getD i pr0).cells] none false,.arr [sy] none false]=some (.int .i64 3,S')):=by
 intro m
 induction m with
 | zero =>
  intro j hj;have h1 : ¬(j:Int)<(i:Int):=by omega
  have e0:((I.take i).drop j)=[]:=bT (by simp;omega);rw[e0];refine⟨fun _ z hz=>?_,fun h=>by simp at h⟩;apply zC;(repeat((conv=>lhs;whnf);simp only[go_sem,simprocAttr,h1]));exact hz
 | succ m hm =>
  intro j hj;have h1:(j:Int)<(i:Int):=by omega
  have h2:=zg (i:=j) (n:=I.length) (by omega) (by unfold maxLen;omega);have h3:0≤(j:Int)∧(j:Int)<((I.take i).length:Int):=⟨by omega,by simp;omega⟩;have hg:=Js (I:=I) (i:=i) (j:=j) (by omega);have hp:=hI _ (vX (I:=I) (i:=i) hi);have hq:=hI _ (vX (I:=I) (i:=j) (by omega));have hE:=fun S=>jI S _ _ hq.what hp.what;obtain⟨k1,k2⟩:=hm (j+1) (by omega);rw[Xf (I:=I) (i:=i) (j:=j) (by omega) (by omega),BA];generalize hK:I.getD i pr0=K at *;by_cases c:(I.getD j pr0).what.cmp K.what=0
  ·refine⟨fun h=>by (rw[bG c,pI]at h;cases h),fun _=>?_⟩;apply Exists.intro;apply zC;((repeat((conv=>lhs;whnf);simp only[go_sem,simprocAttr,h1,h2,h3,bD,hg,hE,c,yF,hsy]));try rfl)
  ·rw[bH c,bW];refine⟨fun h z hz=>?_,fun h=>?_⟩
   ·apply zC;(repeat((conv=>lhs;whnf);simp only[go_sem,simprocAttr,h1,h2,h3,bD,hg,hE,c,yF,hsy]));exact k1 h z hz
   ·obtain⟨S',k⟩:=k2 h;refine⟨S',ys ok10_.good 1000 ?_⟩;(repeat((conv=>lhs;whnf);simp only[go_sem,simprocAttr,h1,h2,h3,bD,hg,hE,c,yF,hsy]));exact k
theorem zMy (I:List Pr) (hI : ∀p∈I,p.ok) (hl:I.length≤60) (i:Nat) (hi:i<I.length) (K:Pr) (hK:I.getD i pr0=K) (hwc:K.wth.count≤1000) (R:Bool) (Sn:zB) (key:zS 0 kG 0 116 0 [.blk 0,.seq 0 15] [(0,.sl (zX I) false),(13,.sl (zX I) false),(14,.int .i64 I.length),(15,.int .i64 ((i+1:Nat):Int))] []=some (.int .i64 (if R=true then 0 else 3),Sn)) (ho:K.what.op=10) :
  ∃S',zS 0 kG 0 116 0 [.blk 0,.seq 0 15] [(0,.sl (zX I) false),(13,.sl (zX I) false),(14,.int .i64 I.length),(15,.int .i64 i)] []=some (.int .i64 (if ((decide (K.what.check 1=0)&&(decide (K.rates.length=0)&&(decide (K.what.sym.cmp K.what=0)&&(!Yq I i K&&(decide (K.wth.check 1=0)&&(!K.wth.has (xn kU)&&(!K.wth.has yO && !(decide (K.what.kids.length=0)&&K.wth.has (xn [13])))))))))&&R)=true then 0 else 3),S'):=by
 have h1:(i:Int)<(I.length:Int):=by omega
 have h2:=zg (i:=i) (n:=I.length) (by omega) (by unfold maxLen;omega);have h4:0≤(i:Int)∧(i:Int)<(I.length:Int):=⟨by omega,h1⟩;have hp:K.ok:=hK ▸ hI _ (vX (I:=I) (i:=i) (by omega));have hlt:(I.take i).length=i:=by simp;omega
 have hcut:=fun S=>Ub S I i (by omega);have L3:=fun fs=>ZF I hI hl i (by omega) 1 K.what.sym.cells (Node.refs _) fs i 0 (by omega);simp only[bX,hK]at L3;have tCheck_c:=fun S s=>jG S K.what hp.what s;have wCheck_c:=fun S s=>jG S K.wth hp.wth s;have hE:=fun S=>jI S _ _ (YG hp.what) hp.what;by_cases c1:K.what.check 1=0
 case neg =>
  rw[bH c1,bB,bB,hZ (by simp)];apply Exists.intro;apply zC;((repeat((conv=>lhs;whnf);simp only[go_sem,simprocAttr,h1,h4,bD,hK,yF,ho,Int.reduceEq,tCheck_c,c1]));try rfl)
 rw[bG c1,bC];by_cases c2:K.rates.length=0
 case neg =>
  have c2':0<(K.rates.length:Int):=by omega
  rw[bH c2,bB,bB,hZ (by simp)];apply Exists.intro;apply zC;((repeat((conv=>lhs;whnf);simp only[go_sem,simprocAttr,h1,h4,bD,hK,yF,ho,Int.reduceEq,tCheck_c,c1,c2']));try rfl)
 have c2' : ¬ 0<(K.rates.length:Int):=by omega
 rw[bG c2,bC];by_cases c3:K.what.sym.cmp K.what=0
 case neg =>
  rw[bH c3,bB,bB,hZ (by simp)];apply Exists.intro;apply zC;((repeat((conv=>lhs;whnf);simp only[go_sem,simprocAttr,h1,h4,bD,hK,yF,ho,Int.reduceEq,tCheck_c,c1,c2',wG,zr,hE,c3]));try rfl)
 rw[bG c3,bC]
 cases c4:Yq I i K
 case true =>
  rw[bS,bB,bB,hZ (by simp)];obtain⟨S',k⟩:=(L3 _).2 c4;refine⟨S',?_⟩;apply zC;(repeat((conv=>lhs;whnf);simp only[go_sem,simprocAttr,h1,h4,bD,hK,yF,ho,Int.reduceEq,tCheck_c,c1,c2',wG,zr,hE,c3,hcut,hlt]));exact k
 rw[bJ,bC];have go_on : ∀z,(∀fs,fs=[Fr.blk 3,.seq 1 119615,.blk 1,.seq 0 935,.lop 0 116 0,.blk 0,.seq 0 15]→yB 0 kG 3 fs [(0,.sl (zX I) false),(4,.mp 0 0 0),(5,.int .i64 1),(13,.sl (zX I) false),(14,.int .i64 I.length),(15,.int .i64 i),(53,.undef),(54,.undef),(55,.undef),(56,.undef)] [.arr [K.cells] none false,.arr [K.what.sym.cells] none false]=some z)→zS 0 kG 0 116 0 [.blk 0,.seq 0 15] [(0,.sl (zX I) false),(13,.sl (zX I) false),(14,.int .i64 I.length),(15,.int .i64 i)] []=some z:=fun z hz=>by
  apply zC;(repeat((conv=>lhs;whnf);simp only[go_sem,simprocAttr,h1,h4,bD,hK,yF,ho,Int.reduceEq,tCheck_c,c1,c2',wG,zr,hE,c3,hcut,hlt]));exact (L3 _).1 c4 z (hz _ rfl)
 by_cases c5:K.wth.check 1=0
 case neg =>
  rw[bH c5,bB,bB,hZ (by simp)];apply Exists.intro;refine go_on _ fun fs hfs=>?_;subst hfs;apply zN;((repeat((conv=>lhs;whnf);simp only[go_sem,simprocAttr,wCheck_c,c5]));try rfl)
 rw[bG c5,bC];have u1:=ZR (S:=[.arr [K.cells] none false,.arr [K.what.sym.cells] none false,.arr [[PV.int .i64 33],[.int .i64 34],[.int .i64 35],[.int .i64 36],[.int .i64 39],[.int .i64 12],[.int .i64 3]] (some (some 1)) false]) (id:=2) (ops:=kU) (k:=7) (ex:=true) K.wth hp.wth (by decide) rfl rfl
 cases c6:K.wth.has (xn kU)
 case true =>
  rw[c6]at u1;rw[bS,bB,bB,hZ (by simp)];apply Exists.intro;refine go_on _ fun fs hfs=>?_;subst hfs;apply zN;((repeat((conv=>lhs;whnf);simp only[go_sem,simprocAttr,wCheck_c,c5,u1]));try rfl)
 rw[c6]at u1;rw[bJ,bC];obtain⟨L,ex,hso,hme,_,_⟩:=ZE K.wth hp.wth (by omega)
 cases c7:K.wth.has yO
 case true =>
  have hL:0<(L.length:Int):=by
   have:L≠[]:=fun h=>by
    have:=(kE K.wth).1 (hme.1 h);rw[c7]at this;cases this
   have:=BT.2 this;omega
  rw[bS,bB,bB,hZ (by simp)];apply Exists.intro;refine go_on _ fun fs hfs=>?_;subst hfs;apply zN;((repeat((conv=>lhs;whnf);simp only[go_sem,simprocAttr,wCheck_c,c5,u1,hso,hL]));try rfl)
 have hL : ¬ 0<(L.length:Int):=by
  have:=hme.2 ((kE K.wth).2 c7);rw[this];simp
 rw[bJ,bC];by_cases c8:K.what.kids.length=0
 ·have c8':(K.what.kids.length:Int)=0:=by omega
  have u2:=ZR (S:=[.arr [K.cells] none false,.arr [K.what.sym.cells] none false,.arr [[PV.int .i64 33],[.int .i64 34],[.int .i64 35],[.int .i64 36],[.int .i64 39],[.int .i64 12],[.int .i64 3]] (some (some 1)) true,.arr [[PV.int .i64 13]] (some (some 1)) false]) (id:=3) (ops:=[13]) (k:=1) (ex:=true) K.wth hp.wth (by decide) rfl rfl;rw[bG c8,bC]
  cases c9:K.wth.has (xn [13])
  case true =>
   rw[c9]at u2;rw[bS,bB,hZ (by simp)];apply Exists.intro;refine go_on _ fun fs hfs=>?_;subst hfs;apply zN;((repeat((conv=>lhs;whnf);simp only[go_sem,simprocAttr,wCheck_c,c5,u1,hso,hL,c8',u2]));try rfl)
  rw[c9]at u2;rw[bJ,bC];refine⟨Sn,?_⟩;refine go_on _ fun fs hfs=>?_;subst hfs;apply zN;(repeat((conv=>lhs;whnf);simp only[go_sem,simprocAttr,wCheck_c,c5,u1,hso,hL,c8',u2,h2]));exact key
 ·have c8' : ¬(K.what.kids.length:Int)=0:=by omega
  rw[bH c8,bB,bJ,bC];refine⟨Sn,?_⟩;refine go_on _ fun fs hfs=>?_;subst hfs;apply zN;(repeat((conv=>lhs;whnf);simp only[go_sem,simprocAttr,wCheck_c,c5,u1,hso,hL,c8',h2]));exact key
theorem zMz (I:List Pr) (hI : ∀p∈I,p.ok) (hl:I.length≤60) (i:Nat) (hi:i<I.length) (K:Pr) (hK:I.getD i pr0=K) (hwc:K.wth.count≤1000) (R:Bool) (Sn:zB) (key:zS 0 kG 0 116 0 [.blk 0,.seq 0 15] [(0,.sl (zX I) false),(13,.sl (zX I) false),(14,.int .i64 I.length),(15,.int .i64 ((i+1:Nat):Int))] []=some (.int .i64 (if R=true then 0 else 3),Sn)) (ho:K.what.op=11) :
  ∃S',zS 0 kG 0 116 0 [.blk 0,.seq 0 15] [(0,.sl (zX I) false),(13,.sl (zX I) false),(14,.int .i64 I.length),(15,.int .i64 i)] []=some (.int .i64 (if ((decide (K.what.check 1=0)&&(decide (K.rates.length=0)&&(decide (K.what.sym.cmp K.what=0)&&(!Yq I i K&&(decide (K.wth.check 1=0)&&(!K.wth.has (xn kU)&&(!K.wth.has yO && !(decide (K.what.kids.length=0)&&K.wth.has (xn [13])))))))))&&R)=true then 0 else 3),S'):=by
 have h1:(i:Int)<(I.length:Int):=by omega
 have h2:=zg (i:=i) (n:=I.length) (by omega) (by unfold maxLen;omega);have h4:0≤(i:Int)∧(i:Int)<(I.length:Int):=⟨by omega,h1⟩;have hp:K.ok:=hK ▸ hI _ (vX (I:=I) (i:=i) (by omega));have hlt:(I.take i).length=i:=by simp;omega
 have hcut:=fun S=>Ub S I i (by omega);have L3:=fun fs=>ZF I hI hl i (by omega) 1 K.what.sym.cells (Node.refs _) fs i 0 (by omega);simp only[bX,hK]at L3;have tCheck_c:=fun S s=>jG S K.what hp.what s;have wCheck_c:=fun S s=>jG S K.wth hp.wth s;have hE:=fun S=>jI S _ _ (YG hp.what) hp.what;by_cases c1:K.what.check 1=0
 case neg =>
  rw[bH c1,bB,bB,hZ (by simp)];apply Exists.intro;apply zC;((repeat((conv=>lhs;whnf);simp only[go_sem,simprocAttr,h1,h4,bD,hK,yF,ho,Int.reduceEq,tCheck_c,c1]));try rfl)
 rw[bG c1,bC];by_cases c2:K.rates.length=0
 case neg =>
  have c2':0<(K.rates.length:Int):=by omega
  rw[bH c2,bB,bB,hZ (by simp)];apply Exists.intro;apply zC;((repeat((conv=>lhs;whnf);simp only[go_sem,simprocAttr,h1,h4,bD,hK,yF,ho,Int.reduceEq,tCheck_c,c1,c2']));try rfl)
 have c2' : ¬ 0<(K.rates.length:Int):=by omega
 rw[bG c2,bC];by_cases c3:K.what.sym.cmp K.what=0
 case neg =>
  rw[bH c3,bB,bB,hZ (by simp)];apply Exists.intro;apply zC;((repeat((conv=>lhs;whnf);simp only[go_sem,simprocAttr,h1,h4,bD,hK,yF,ho,Int.reduceEq,tCheck_c,c1,c2',wG,zr,hE,c3]));try rfl)
 rw[bG c3,bC]
 cases c4:Yq I i K
 case true =>
  rw[bS,bB,bB,hZ (by simp)];obtain⟨S',k⟩:=(L3 _).2 c4;refine⟨S',?_⟩;apply zC;(repeat((conv=>lhs;whnf);simp only[go_sem,simprocAttr,h1,h4,bD,hK,yF,ho,Int.reduceEq,tCheck_c,c1,c2',wG,zr,hE,c3,hcut,hlt]));exact k
 rw[bJ,bC];have go_on : ∀z,(∀fs,fs=[Fr.blk 3,.seq 1 119615,.blk 1,.seq 0 935,.lop 0 116 0,.blk 0,.seq 0 15]→yB 0 kG 3 fs [(0,.sl (zX I) false),(4,.mp 0 0 0),(5,.int .i64 1),(13,.sl (zX I) false),(14,.int .i64 I.length),(15,.int .i64 i),(53,.undef),(54,.undef),(55,.undef),(56,.undef)] [.arr [K.cells] none false,.arr [K.what.sym.cells] none false]=some z)→zS 0 kG 0 116 0 [.blk 0,.seq 0 15] [(0,.sl (zX I) false),(13,.sl (zX I) false),(14,.int .i64 I.length),(15,.int .i64 i)] []=some z:=fun z hz=>by
  apply zC;(repeat((conv=>lhs;whnf);simp only[go_sem,simprocAttr,h1,h4,bD,hK,yF,ho,Int.reduceEq,tCheck_c,c1,c2',wG,zr,hE,c3,hcut,hlt]));exact (L3 _).1 c4 z (hz _ rfl)
 by_cases c5:K.wth.check 1=0
 case neg =>
  rw[bH c5,bB,bB,hZ (by simp)];apply Exists.intro;refine go_on _ fun fs hfs=>?_;subst hfs;apply zN;((repeat((conv=>lhs;whnf);simp only[go_sem,simprocAttr,wCheck_c,c5]));try rfl)
 rw[bG c5,bC];have u1:=ZR (S:=[.arr [K.cells] none false,.arr [K.what.sym.cells] none false,.arr [[PV.int .i64 33],[.int .i64 34],[.int .i64 35],[.int .i64 36],[.int .i64 39],[.int .i64 12],[.int .i64 3]] (some (some 1)) false]) (id:=2) (ops:=kU) (k:=7) (ex:=true) K.wth hp.wth (by decide) rfl rfl
 cases c6:K.wth.has (xn kU)
 case true =>
  rw[c6]at u1;rw[bS,bB,bB,hZ (by simp)];apply Exists.intro;refine go_on _ fun fs hfs=>?_;subst hfs;apply zN;((repeat((conv=>lhs;whnf);simp only[go_sem,simprocAttr,wCheck_c,c5,u1]));try rfl)
 rw[c6]at u1;rw[bJ,bC];obtain⟨L,ex,hso,hme,_,_⟩:=ZE K.wth hp.wth (by omega)
 cases c7:K.wth.has yO
 case true =>
  have hL:0<(L.length:Int):=by
   have:L≠[]:=fun h=>by
    have:=(kE K.wth).1 (hme.1 h);rw[c7]at this;cases this
   have:=BT.2 this;omega
  rw[bS,bB,bB,hZ (by simp)];apply Exists.intro;refine go_on _ fun fs hfs=>?_;subst hfs;apply zN;((repeat((conv=>lhs;whnf);simp only[go_sem,simprocAttr,wCheck_c,c5,u1,hso,hL]));try rfl)
 have hL : ¬ 0<(L.length:Int):=by
  have:=hme.2 ((kE K.wth).2 c7);rw[this];simp
 rw[bJ,bC];by_cases c8:K.what.kids.length=0
 ·have c8':(K.what.kids.length:Int)=0:=by omega
  have u2:=ZR (S:=[.arr [K.cells] none false,.arr [K.what.sym.cells] none false,.arr [[PV.int .i64 33],[.int .i64 34],[.int .i64 35],[.int .i64 36],[.int .i64 39],[.int .i64 12],[.int .i64 3]] (some (some 1)) true,.arr [[PV.int .i64 13]] (some (some 1)) false]) (id:=3) (ops:=[13]) (k:=1) (ex:=true) K.wth hp.wth (by decide) rfl rfl;rw[bG c8,bC]
  cases c9:K.wth.has (xn [13])
  case true =>
   rw[c9]at u2;rw[bS,bB,hZ (by simp)];apply Exists.intro;refine go_on _ fun fs hfs=>?_;subst hfs;apply zN;((repeat((conv=>lhs;whnf);simp only[go_sem,simprocAttr,wCheck_c,c5,u1,hso,hL,c8',u2]));try rfl)
  rw[c9]at u2;rw[bJ,bC];refine⟨Sn,?_⟩;refine go_on _ fun fs hfs=>?_;subst hfs;apply zN;(repeat((conv=>lhs;whnf);simp only[go_sem,simprocAttr,wCheck_c,c5,u1,hso,hL,c8',u2,h2]));exact key
 ·have c8' : ¬(K.what.kids.length:Int)=0:=by omega
  rw[bH c8,bB,bJ,bC];refine⟨Sn,?_⟩;refine go_on _ fun fs hfs=>?_;subst hfs;apply zN;(repeat((conv=>lhs;whnf);simp only[go_sem,simprocAttr,wCheck_c,c5,u1,hso,hL,c8',h2]));exact key
theorem zNA (I:List Pr) (hI : ∀p∈I,p.ok) (hl:I.length≤60) (i:Nat) (hi:i<I.length) (K:Pr) (hK:I.getD i pr0=K) (hwc:K.wth.count≤1000) (R:Bool) (Sn:zB) (key:zS 0 kG 0 116 0 [.blk 0,.seq 0 15] [(0,.sl (zX I) false),(13,.sl (zX I) false),(14,.int .i64 I.length),(15,.int .i64 ((i+1:Nat):Int))] []=some (.int .i64 (if R=true then 0 else 3),Sn)) (ho:K.what.op=37) :
  ∃S',zS 0 kG 0 116 0 [.blk 0,.seq 0 15] [(0,.sl (zX I) false),(13,.sl (zX I) false),(14,.int .i64 I.length),(15,.int .i64 i)] []=some (.int .i64 (if ((decide (K.what.check 2=0)&&(decide (K.rates.length=0)&&(decide (K.what.sym.cmp K.what=0)&&(!Yq I i K&&(decide (K.wth.check 2=0)&&(!K.wth.has (xn kU)&&(!K.wth.has yO && !(decide (K.what.kids.length=0)&&K.wth.has (xn [13])))))))))&&R)=true then 0 else 3),S'):=by
 have h1:(i:Int)<(I.length:Int):=by omega
 have h2:=zg (i:=i) (n:=I.length) (by omega) (by unfold maxLen;omega);have h4:0≤(i:Int)∧(i:Int)<(I.length:Int):=⟨by omega,h1⟩;have hp:K.ok:=hK ▸ hI _ (vX (I:=I) (i:=i) (by omega));have hlt:(I.take i).length=i:=by simp;omega
 have hcut:=fun S=>Ub S I i (by omega);have L3:=fun fs=>ZF I hI hl i (by omega) 2 K.what.sym.cells (Node.refs _) fs i 0 (by omega);simp only[bX,hK]at L3;have tCheck_c:=fun S s=>jG S K.what hp.what s;have wCheck_c:=fun S s=>jG S K.wth hp.wth s;have hE:=fun S=>jI S _ _ (YG hp.what) hp.what;by_cases c1:K.what.check 2=0
 case neg =>
  rw[bH c1,bB,bB,hZ (by simp)];apply Exists.intro;apply zC;((repeat((conv=>lhs;whnf);simp only[go_sem,simprocAttr,h1,h4,bD,hK,yF,ho,Int.reduceEq,tCheck_c,c1]));try rfl)
 rw[bG c1,bC];by_cases c2:K.rates.length=0
 case neg =>
  have c2':0<(K.rates.length:Int):=by omega
  rw[bH c2,bB,bB,hZ (by simp)];apply Exists.intro;apply zC;((repeat((conv=>lhs;whnf);simp only[go_sem,simprocAttr,h1,h4,bD,hK,yF,ho,Int.reduceEq,tCheck_c,c1,c2']));try rfl)
 have c2' : ¬ 0<(K.rates.length:Int):=by omega
 rw[bG c2,bC];by_cases c3:K.what.sym.cmp K.what=0
 case neg =>
  rw[bH c3,bB,bB,hZ (by simp)];apply Exists.intro;apply zC;((repeat((conv=>lhs;whnf);simp only[go_sem,simprocAttr,h1,h4,bD,hK,yF,ho,Int.reduceEq,tCheck_c,c1,c2',wG,zr,hE,c3]));try rfl)
 rw[bG c3,bC]
 cases c4:Yq I i K
 case true =>
  rw[bS,bB,bB,hZ (by simp)];obtain⟨S',k⟩:=(L3 _).2 c4;refine⟨S',?_⟩;apply zC;(repeat((conv=>lhs;whnf);simp only[go_sem,simprocAttr,h1,h4,bD,hK,yF,ho,Int.reduceEq,tCheck_c,c1,c2',wG,zr,hE,c3,hcut,hlt]));exact k
 rw[bJ,bC];have go_on : ∀z,(∀fs,fs=[Fr.blk 3,.seq 1 119615,.blk 1,.seq 0 935,.lop 0 116 0,.blk 0,.seq 0 15]→yB 0 kG 3 fs [(0,.sl (zX I) false),(4,.mp 0 0 0),(5,.int .i64 2),(13,.sl (zX I) false),(14,.int .i64 I.length),(15,.int .i64 i),(53,.undef),(54,.undef),(55,.undef),(56,.undef)] [.arr [K.cells] none false,.arr [K.what.sym.cells] none false]=some z)→zS 0 kG 0 116 0 [.blk 0,.seq 0 15] [(0,.sl (zX I) false),(13,.sl (zX I) false),(14,.int .i64 I.length),(15,.int .i64 i)] []=some z:=fun z hz=>by
  apply zC;(repeat((conv=>lhs;whnf);simp only[go_sem,simprocAttr,h1,h4,bD,hK,yF,ho,Int.reduceEq,tCheck_c,c1,c2',wG,zr,hE,c3,hcut,hlt]));exact (L3 _).1 c4 z (hz _ rfl)
 by_cases c5:K.wth.check 2=0
 case neg =>
  rw[bH c5,bB,bB,hZ (by simp)];apply Exists.intro;refine go_on _ fun fs hfs=>?_;subst hfs;apply zN;((repeat((conv=>lhs;whnf);simp only[go_sem,simprocAttr,wCheck_c,c5]));try rfl)
 rw[bG c5,bC];have u1:=ZR (S:=[.arr [K.cells] none false,.arr [K.what.sym.cells] none false,.arr [[PV.int .i64 33],[.int .i64 34],[.int .i64 35],[.int .i64 36],[.int .i64 39],[.int .i64 12],[.int .i64 3]] (some (some 1)) false]) (id:=2) (ops:=kU) (k:=7) (ex:=true) K.wth hp.wth (by decide) rfl rfl
 cases c6:K.wth.has (xn kU)
 case true =>
  rw[c6]at u1;rw[bS,bB,bB,hZ (by simp)];apply Exists.intro;refine go_on _ fun fs hfs=>?_;subst hfs;apply zN;((repeat((conv=>lhs;whnf);simp only[go_sem,simprocAttr,wCheck_c,c5,u1]));try rfl)
 rw[c6]at u1;rw[bJ,bC];obtain⟨L,ex,hso,hme,_,_⟩:=ZE K.wth hp.wth (by omega)
 cases c7:K.wth.has yO
 case true =>
  have hL:0<(L.length:Int):=by
   have:L≠[]:=fun h=>by
    have:=(kE K.wth).1 (hme.1 h);rw[c7]at this;cases this
   have:=BT.2 this;omega
  rw[bS,bB,bB,hZ (by simp)];apply Exists.intro;refine go_on _ fun fs hfs=>?_;subst hfs;apply zN;((repeat((conv=>lhs;whnf);simp only[go_sem,simprocAttr,wCheck_c,c5,u1,hso,hL]));try rfl)
 have hL : ¬ 0<(L.length:Int):=by
  have:=hme.2 ((kE K.wth).2 c7);rw[this];simp
 rw[bJ,bC];by_cases c8:K.what.kids.length=0
 ·have c8':(K.what.kids.length:Int)=0:=by omega
  have u2:=ZR (S:=[.arr [K.cells] none false,.arr [K.what.sym.cells] none false,.arr [[PV.int .i64 33],[.int .i64 34],[.int .i64 35],[.int .i64 36],[.int .i64 39],[.int .i64 12],[.int .i64 3]] (some (some 1)) true,.arr [[PV.int .i64 13]] (some (some 1)) false]) (id:=3) (ops:=[13]) (k:=1) (ex:=true) K.wth hp.wth (by decide) rfl rfl;rw[bG c8,bC]
  cases c9:K.wth.has (xn [13])
  case true =>
   rw[c9]at u2;rw[bS,bB,hZ (by simp)];apply Exists.intro;refine go_on _ fun fs hfs=>?_;subst hfs;apply zN;((repeat((conv=>lhs;whnf);simp only[go_sem,simprocAttr,wCheck_c,c5,u1,hso,hL,c8',u2]));try rfl)
  rw[c9]at u2;rw[bJ,bC];refine⟨Sn,?_⟩;refine go_on _ fun fs hfs=>?_;subst hfs;apply zN;(repeat((conv=>lhs;whnf);simp only[go_sem,simprocAttr,wCheck_c,c5,u1,hso,hL,c8',u2,h2]));exact key
 ·have c8' : ¬(K.what.kids.length:Int)=0:=by omega
  rw[bH c8,bB,bJ,bC];refine⟨Sn,?_⟩;refine go_on _ fun fs hfs=>?_;subst hfs;apply zN;(repeat((conv=>lhs;whnf);simp only[go_sem,simprocAttr,wCheck_c,c5,u1,hso,hL,c8',h2]));exact key
theorem zNB (I:List Pr) (hI : ∀p∈I,p.ok) (hl:I.length≤60) (i:Nat) (hi:i<I.length) (K:Pr) (hK:I.getD i pr0=K) (hwc:K.wth.count≤1000) (R:Bool) (Sn:zB) (key:zS 0 kG 0 116 0 [.blk 0,.seq 0 15] [(0,.sl (zX I) false),(13,.sl (zX I) false),(14,.int .i64 I.length),(15,.int .i64 ((i+1:Nat):Int))] []=some (.int .i64 (if R=true then 0 else 3),Sn)) (ho:K.what.op=38) :
  ∃S',zS 0 kG 0 116 0 [.blk 0,.seq 0 15] [(0,.sl (zX I) false),(13,.sl (zX I) false),(14,.int .i64 I.length),(15,.int .i64 i)] []=some (.int .i64 (if ((decide (K.what.check 2=0)&&(decide (K.rates.length=0)&&(decide (K.what.sym.cmp K.what=0)&&(!Yq I i K&&(decide (K.wth.check 2=0)&&(!K.wth.has (xn kU)&&(!K.wth.has yO && !(decide (K.what.kids.length=0)&&K.wth.has (xn [13])))))))))&&R)=true then 0 else 3),S'):=by
 have h1:(i:Int)<(I.length:Int):=by omega
 have h2:=zg (i:=i) (n:=I.length) (by omega) (by unfold maxLen;omega);have h4:0≤(i:Int)∧(i:Int)<(I.length:Int):=⟨by omega,h1⟩;have hp:K.ok:=hK ▸ hI _ (vX (I:=I) (i:=i) (by omega));have hlt:(I.take i).length=i:=by simp;omega
 have hcut:=fun S=>Ub S I i (by omega);have L3:=fun fs=>ZF I hI hl i (by omega) 2 K.what.sym.cells (Node.refs _) fs i 0 (by omega);simp only[bX,hK]at L3;have tCheck_c:=fun S s=>jG S K.what hp.what s;have wCheck_c:=fun S s=>jG S K.wth hp.wth s;have hE:=fun S=>jI S _ _ (YG hp.what) hp.what;by_cases c1:K.what.check 2=0
 case neg =>
  rw[bH c1,bB,bB,hZ (by simp)];apply Exists.intro;apply zC;((repeat((conv=>lhs;whnf);simp only[go_sem,simprocAttr,h1,h4,bD,hK,yF,ho,Int.reduceEq,tCheck_c,c1]));try rfl)
 rw[bG c1,bC];by_cases c2:K.rates.length=0
 case neg =>
  have c2':0<(K.rates.length:Int):=by omega
  rw[bH c2,bB,bB,hZ (by simp)];apply Exists.intro;apply zC;((repeat((conv=>lhs;whnf);simp only[go_sem,simprocAttr,h1,h4,bD,hK,yF,ho,Int.reduceEq,tCheck_c,c1,c2']));try rfl)
 have c2' : ¬ 0<(K.rates.length:Int):=by omega
 rw[bG c2,bC];by_cases c3:K.what.sym.cmp K.what=0
 case neg =>
  rw[bH c3,bB,bB,hZ (by simp)];apply Exists.intro;apply zC;((repeat((conv=>lhs;whnf);simp only[go_sem,simprocAttr,h1,h4,bD,hK,yF,ho,Int.reduceEq,tCheck_c,c1,c2',wG,zr,hE,c3]));try rfl)
 rw[bG c3,bC]
 cases c4:Yq I i K
 case true =>
  rw[bS,bB,bB,hZ (by simp)];obtain⟨S',k⟩:=(L3 _).2 c4;refine⟨S',?_⟩;apply zC;(repeat((conv=>lhs;whnf);simp only[go_sem,simprocAttr,h1,h4,bD,hK,yF,ho,Int.reduceEq,tCheck_c,c1,c2',wG,zr,hE,c3,hcut,hlt]));exact k
 rw[bJ,bC];have go_on : ∀z,(∀fs,fs=[Fr.blk 3,.seq 1 119615,.blk 1,.seq 0 935,.lop 0 116 0,.blk 0,.seq 0 15]→yB 0 kG 3 fs [(0,.sl (zX I) false),(4,.mp 0 0 0),(5,.int .i64 2),(13,.sl (zX I) false),(14,.int .i64 I.length),(15,.int .i64 i),(53,.undef),(54,.undef),(55,.undef),(56,.undef)] [.arr [K.cells] none false,.arr [K.what.sym.cells] none false]=some z)→zS 0 kG 0 116 0 [.blk 0,.seq 0 15] [(0,.sl (zX I) false),(13,.sl (zX I) false),(14,.int .i64 I.length),(15,.int .i64 i)] []=some z:=fun z hz=>by
  apply zC;(repeat((conv=>lhs;whnf);simp only[go_sem,simprocAttr,h1,h4,bD,hK,yF,ho,Int.reduceEq,tCheck_c,c1,c2',wG,zr,hE,c3,hcut,hlt]));exact (L3 _).1 c4 z (hz _ rfl)
 by_cases c5:K.wth.check 2=0
 case neg =>
  rw[bH c5,bB,bB,hZ (by simp)];apply Exists.intro;refine go_on _ fun fs hfs=>?_;subst hfs;apply zN;((repeat((conv=>lhs;whnf);simp only[go_sem,simprocAttr,wCheck_c,c5]));try rfl)
 rw[bG c5,bC];have u1:=ZR (S:=[.arr [K.cells] none false,.arr [K.what.sym.cells] none false,.arr [[PV.int .i64 33],[.int .i64 34],[.int .i64 35],[.int .i64 36],[.int .i64 39],[.int .i64 12],[.int .i64 3]] (some (some 1)) false]) (id:=2) (ops:=kU) (k:=7) (ex:=true) K.wth hp.wth (by decide) rfl rfl
 cases c6:K.wth.has (xn kU)
 case true =>
  rw[c6]at u1;rw[bS,bB,bB,hZ (by simp)];apply Exists.intro;refine go_on _ fun fs hfs=>?_;subst hfs;apply zN;((repeat((conv=>lhs;whnf);simp only[go_sem,simprocAttr,wCheck_c,c5,u1]));try rfl)
 rw[c6]at u1;rw[bJ,bC];obtain⟨L,ex,hso,hme,_,_⟩:=ZE K.wth hp.wth (by omega)
 cases c7:K.wth.has yO
 case true =>
  have hL:0<(L.length:Int):=by
   have:L≠[]:=fun h=>by
    have:=(kE K.wth).1 (hme.1 h);rw[c7]at this;cases this
   have:=BT.2 this;omega
  rw[bS,bB,bB,hZ (by simp)];apply Exists.intro;refine go_on _ fun fs hfs=>?_;subst hfs;apply zN;((repeat((conv=>lhs;whnf);simp only[go_sem,simprocAttr,wCheck_c,c5,u1,hso,hL]));try rfl)
 have hL : ¬ 0<(L.length:Int):=by
  have:=hme.2 ((kE K.wth).2 c7);rw[this];simp
 rw[bJ,bC];by_cases c8:K.what.kids.length=0
 ·have c8':(K.what.kids.length:Int)=0:=by omega
  have u2:=ZR (S:=[.arr [K.cells] none false,.arr [K.what.sym.cells] none false,.arr [[PV.int .i64 33],[.int .i64 34],[.int .i64 35],[.int .i64 36],[.int .i64 39],[.int .i64 12],[.int .i64 3]] (some (some 1)) true,.arr [[PV.int .i64 13]] (some (some 1)) false]) (id:=3) (ops:=[13]) (k:=1) (ex:=true) K.wth hp.wth (by decide) rfl rfl;rw[bG c8,bC]
  cases c9:K.wth.has (xn [13])
  case true =>
   rw[c9]at u2;rw[bS,bB,hZ (by simp)];apply Exists.intro;refine go_on _ fun fs hfs=>?_;subst hfs;apply zN;((repeat((conv=>lhs;whnf);simp only[go_sem,simprocAttr,wCheck_c,c5,u1,hso,hL,c8',u2]));try rfl)
  rw[c9]at u2;rw[bJ,bC];refine⟨Sn,?_⟩;refine go_on _ fun fs hfs=>?_;subst hfs;apply zN;(repeat((conv=>lhs;whnf);simp only[go_sem,simprocAttr,wCheck_c,c5,u1,hso,hL,c8',u2,h2]));exact key
 ·have c8' : ¬(K.what.kids.length:Int)=0:=by omega
  rw[bH c8,bB,bJ,bC];refine⟨Sn,?_⟩;refine go_on _ fun fs hfs=>?_;subst hfs;apply zN;(repeat((conv=>lhs;whnf);simp only[go_sem,simprocAttr,wCheck_c,c5,u1,hso,hL,c8',h2]));exact key
theorem zG3 (I:List Pr) (hI : ∀p∈I,p.ok) (hl:I.length≤60) (hc : ∀p∈I,p.wth.count≤1000∧p.what.count≤1000) : ∀(m i:Nat),i+m=I.length →
  ∃S',zS 0 kG 0 116 0 [.blk 0,.seq 0 15] [(0,.sl (zX I) false),(13,.sl (zX I) false),(14,.int .i64 I.length),(15,.int .i64 i)] []=some (.int .i64 (if zBh I m i=true then 0 else 3),S'):=by
 intro m
 induction m with
 | zero =>
  intro i hi;have h1 : ¬(i:Int)<(I.length:Int):=by omega
  apply Exists.intro;apply zC;unfold zBh;rw[bA rfl];(repeat((conv=>lhs;whnf);simp only[go_sem,simprocAttr,h1]));apply zN;((repeat((conv=>lhs;whnf);simp only[go_sem,simprocAttr]));try rfl)
 | succ m hm =>
  intro i hi;have h1:(i:Int)<(I.length:Int):=by omega
  have h4:0≤(i:Int)∧(i:Int)<(I.length:Int):=⟨by omega,h1⟩;have hpc:=hc _ (vX (I:=I) (i:=i) (by omega));obtain⟨Sn,key⟩:=hm (i+1) (by omega);unfold zBh okP;generalize hK:I.getD i pr0=K at *;by_cases g10:K.what.op=10
  ·have:=zMy I hI hl i (by omega) K hK hpc.1 _ Sn key g10;rw[g10];exact this
  by_cases g11:K.what.op=11
  ·have:=zMz I hI hl i (by omega) K hK hpc.1 _ Sn key g11;rw[g11];exact this
  by_cases g37:K.what.op=37
  ·have:=zNA I hI hl i (by omega) K hK hpc.1 _ Sn key g37;rw[g37];exact this
  by_cases g38:K.what.op=38
  ·have:=zNB I hI hl i (by omega) K hK hpc.1 _ Sn key g38;rw[g38];exact this
  have hw:vk K.what.op=0:=by
   unfold vk;rw[hZ (by omega),hZ (by omega)]
  have e:decide (vk K.what.op≠0)=false:=by simp[hw]
  rw[e,bB,bB,hZ (by simp)];apply Exists.intro;apply zC;((repeat((conv=>lhs;whnf);simp only[go_sem,simprocAttr,h1,h4,bD,hK,yF,g10,g11,g37,g38]));try rfl)
def qE (I:List Pr):Int:=if I.length≤40∧zBh I I.length 0=true then 0 else 3
theorem zBi (I:List Pr) (hI : ∀p∈I,p.ok) (hl:I.length≤60) (hc : ∀p∈I,p.wth.count≤1000∧p.what.count≤1000):callL Tryz.prog zE 10 [.sl (zX I) false]=some (.int .i64 (qE I)):=by
 unfold qE;by_cases h:I.length≤40
 ·have h' : ¬ 40<(I.length:Int):=by omega
  obtain⟨S',k⟩:=zG3 I hI hl hc I.length 0 (by omega);have e:(I.length≤40∧zBh I I.length 0=true)↔zBh I I.length 0=true:=⟨fun x=>x.2,fun x=>⟨h,x⟩⟩;simp only[e];apply FX.callV ok10_ 1000 rfl rfl
  ·(repeat((conv=>lhs;whnf);simp only[go_sem,simprocAttr,h']));exact k
  ·rfl
 ·have h':40<(I.length:Int):=by omega
  rw[hZ (fun x=>h x.1)];apply FX.callV ok10_ 1000 rfl rfl
  ·((repeat((conv=>lhs;whnf);simp only[go_sem,simprocAttr,h']));try rfl)
  ·rfl
theorem zJG (S:zB) (I:List Pr) (hI : ∀p∈I,p.ok) (hl:I.length≤60) (hc : ∀p∈I,p.wth.count≤1000∧p.what.count≤1000):zO (callL Tryz.prog zE) S 10 [.sl (zX I) false]=some {v:=.int .i64 (qE I)} := zF (zBi I hI hl hc) (by simp[zh.sl])
end
end
section
def YI (I:List Pr) (i:Nat) (p:Pr):Bool:=(I.take i).any fun q=>decide (p.what.cmp q.what=0)
def vu (p:Pr):Bool:=if p.what.op=10∨p.what.op=11 then decide (p.wth.check 1=0) else if p.what.op=37∨p.what.op=38 then decide (p.wth.check 2=0) && !p.wth.has ye else false
def okR (I:List Pr) (i:Nat) (p:Pr):Bool :=
 p.what.isSymbol&&(decide (p.rates.length=0)&&(!YI I i p&&(vu p&&(!p.wth.has yO&&(!p.wth.has (yy 12)&&(!p.wth.has (yy 3) && !(decide (p.what.kids.length=0)&&p.wth.has (yy 13))))))))
def WF (I:List Pr):Nat→Nat→Bool
 | 0,_=>true
 | m+1,i=>okR I i (I.getD i pr0)&&WF I m (i+1)
section
attribute [local irreducible] Vs.callL Vs.callRL tyi zO zl zf zR zW za zI zY zA zK zb zV zG zJ zU zn yI zm zL ze Vs.gc zH
noncomputable def qJ:FX:=⟨Tryz.f11,zE.of 11,[]⟩
instance ok11_:qJ.ok 11:=FX.mk'
theorem zBj (I:List Pr) (hI : ∀p∈I,p.ok) (hl:I.length≤60) (i:Nat) (hi:i<I.length) (fs:List Fr) : ∀(m j:Nat),j+m=i →
  ((((I.take i).drop j).any fun q=>decide ((I.getD i pr0).what.cmp q.what=0))=false→∀z,yB 0 qJ 2 fs [(0,.sl (zX I) false),(3,.int .i64 i),(4,.mp 0 0 0),(5,.mp 1 0 0),(6,.undef),(33,.undef)] [.arr [(I.getD i pr0).cells] none false,.arr [(I.getD i pr0).what.cells] none false]=some z →
   zS 0 qJ 2 119412 2 fs [(0,.sl (zX I) false),(3,.int .i64 i),(4,.mp 0 0 0),(5,.mp 1 0 0),(6,.int .i64 j)] [.arr [(I.getD i pr0).cells] none false,.arr [(I.getD i pr0).what.cells] none false]=some z) ∧
  ((((I.take i).drop j).any fun q=>decide ((I.getD i pr0).what.cmp q.what=0))=true→∃S',
   zS 0 qJ 2 119412 2 fs [(0,.sl (zX I) false),(3,.int .i64 i),(4,.mp 0 0 0),(5,.mp 1 0 0),(6,.int .i64 j)] [.arr [(I.getD i pr0).cells] none false,.arr [(I.getD i pr0).what.cells] none false]=some (.int .i64 3,S')):=by
 intro m
 induction m with
 | zero =>
  intro j hj;have h1 : ¬(j:Int)<(i:Int):=by omega
  have e0:((I.take i).drop j)=[]:=bT (by simp;omega);rw[e0];refine⟨fun _ z hz=>?_,fun h=>by simp at h⟩;apply zC;(repeat((conv=>lhs;whnf);simp only[go_sem,simprocAttr,h1]));exact hz
 | succ m hm =>
  intro j hj;have h1:(j:Int)<(i:Int):=by omega
  have h2:=zg (i:=j) (n:=I.length) (by omega) (by unfold maxLen;omega);have h3:0≤(j:Int)∧(j:Int)<(I.length:Int):=⟨by omega,by omega⟩;have hp:=hI _ (vX (I:=I) (i:=i) hi);have hq:=hI _ (vX (I:=I) (i:=j) (by omega));have hE:=fun S=>zED S _ _ hp.what hq.what;obtain⟨k1,k2⟩:=hm (j+1) (by omega);rw[Xf (I:=I) (i:=i) (j:=j) (by omega) (by omega),BA];generalize hK:I.getD i pr0=K at *;by_cases c:K.what.cmp (I.getD j pr0).what=0
  ·refine⟨fun h=>by (rw[bG c,pI]at h;cases h),fun _=>?_⟩;apply Exists.intro;apply zC;((repeat((conv=>lhs;whnf);simp only[go_sem,simprocAttr,h1,h2,h3,bD,hE,c]));try rfl)
  ·rw[bH c,bW];refine⟨fun h z hz=>?_,fun h=>?_⟩
   ·apply zC;(repeat((conv=>lhs;whnf);simp only[go_sem,simprocAttr,h1,h2,h3,bD,hE,c]));exact k1 h z hz
   ·obtain⟨S',k⟩:=k2 h;refine⟨S',ys ok11_.good 1000 ?_⟩;(repeat((conv=>lhs;whnf);simp only[go_sem,simprocAttr,h1,h2,h3,bD,hE,c]));exact k
theorem zG4 (I:List Pr) (hI : ∀p∈I,p.ok) (hl:I.length≤60) (i:Nat) (hi:i<I.length) (K:Pr) (hK:I.getD i pr0=K) :
  (K.what.isSymbol&&(decide (K.rates.length=0) && !YI I i K))=false∧(∃S',zS 0 qJ 0 116 0 [.blk 0,.seq 0 15] [(0,.sl (zX I) false),(3,.int .i64 i)] []=some (.int .i64 3,S')) ∨
  (K.what.isSymbol&&(decide (K.rates.length=0) && !YI I i K))=true∧∀z,(∀fs,fs=[Fr.blk 2,.seq 1 14927,.blk 1,.seq 0 467,.lop 0 116 0,.blk 0,.seq 0 15]→yB 0 qJ 2 fs [(0,.sl (zX I) false),(3,.int .i64 i),(4,.mp 0 0 0),(5,.mp 1 0 0),(6,.undef),(33,.undef)] [.arr [K.cells] none false,.arr [K.what.cells] none false]=some z)→zS 0 qJ 0 116 0 [.blk 0,.seq 0 15] [(0,.sl (zX I) false),(3,.int .i64 i)] []=some z:=by
 have h1:(i:Int)<(I.length:Int):=by omega
 have h4:0≤(i:Int)∧(i:Int)<(I.length:Int):=⟨by omega,h1⟩;have hp:K.ok:=hK ▸ hI _ (vX (I:=I) (i:=i) (by omega));have L2:=fun fs=>zBj I hI hl i (by omega) fs i 0 (by omega);simp only[bX,hK]at L2;have hS:=fun S=>zGV S K.what hp.what
 cases c1:K.what.isSymbol
 ·rw[c1]at hS
  left
  refine⟨by simp,?_⟩;apply Exists.intro;apply zC;((repeat((conv=>lhs;whnf);simp only[go_sem,simprocAttr,h1,h4,bD,hK,yF,zr,hS]));try rfl)
 rw[c1]at hS;by_cases c2:K.rates.length=0
 case neg =>
  have c2':0<(K.rates.length:Int):=by omega
  left
  refine⟨by simp[c2],?_⟩;apply Exists.intro;apply zC;((repeat((conv=>lhs;whnf);simp only[go_sem,simprocAttr,h1,h4,bD,hK,yF,zr,hS,c2']));try rfl)
 have c2' : ¬ 0<(K.rates.length:Int):=by omega
 cases c3:YI I i K
 case true =>
  left
  obtain⟨S',k⟩:=(L2 _).2 c3;refine⟨by simp,S',?_⟩;apply zC;(repeat((conv=>lhs;whnf);simp only[go_sem,simprocAttr,h1,h4,bD,hK,yF,zr,hS,c2']));exact k
 right
 refine⟨by simp[c2],fun z hz=>?_⟩;apply zC;(repeat((conv=>lhs;whnf);simp only[go_sem,simprocAttr,h1,h4,bD,hK,yF,zr,hS,c2']));exact (L2 _).1 c3 z (hz _ rfl)
theorem zNC (I:List Pr) (hl:I.length≤60) (i:Nat) (hi:i<I.length) (K:Pr) (hp:K.ok) (hwc:K.wth.count≤1000) (R:Bool) (Sn:zB) (key:zS 0 qJ 0 116 0 [.blk 0,.seq 0 15] [(0,.sl (zX I) false),(3,.int .i64 ((i+1:Nat):Int))] []=some (.int .i64 (if R=true then 0 else 3),Sn)) (ho:K.what.op=10) :
  ∃S',yB 0 qJ 2 [Fr.blk 2,.seq 1 14927,.blk 1,.seq 0 467,.lop 0 116 0,.blk 0,.seq 0 15] [(0,.sl (zX I) false),(3,.int .i64 i),(4,.mp 0 0 0),(5,.mp 1 0 0),(6,.undef),(33,.undef)] [.arr [K.cells] none false,.arr [K.what.cells] none false]=some (.int .i64 (if ((vu K&&(!K.wth.has yO&&(!K.wth.has (yy 12)&&(!K.wth.has (yy 3) && !(decide (K.what.kids.length=0)&&K.wth.has (yy 13))))))&&R)=true then 0 else 3),S'):=by
 have h2:=zg (i:=i) (n:=I.length) (by omega) (by unfold maxLen;omega);have wch:=fun S s=>jy S K.wth hp.wth (by omega) s;have hsy:=fun S=>XO S K.wth hp.wth;have hM:=fun S=>Wx S K.wth hp.wth;have o12:=fun S=>uF S 12 K.wth hp.wth;have o3:=fun S=>uF S 3 K.wth hp.wth;have o13:=fun S=>uF S 13 K.wth hp.wth;have e:vu K=decide (K.wth.check 1=0):=by unfold vu;rw[bA (by omega)]
 rw[e];clear e;by_cases c5:K.wth.check 1=0
 case neg =>
  rw[bH c5,bB,bB,hZ (by simp)];apply Exists.intro;apply zN;((repeat((conv=>lhs;whnf);simp only[go_sem,simprocAttr,ho,Int.reduceEq,wch,c5]));try rfl)
 rw[bG c5,bC]
 cases c_hsy:K.wth.has yO
 case true =>
  rw[c_hsy]at hsy;rw[bS,bB,bB,hZ (by simp)];apply Exists.intro;apply zN;((repeat((conv=>lhs;whnf);simp only[go_sem,simprocAttr,ho,Int.reduceEq,wch,c5,hsy]));try rfl)
 rw[c_hsy]at hsy;rw[bJ,bC]
 cases c_o12:K.wth.has (yy 12)
 case true =>
  rw[c_o12]at o12;rw[bS,bB,bB,hZ (by simp)];apply Exists.intro;apply zN;((repeat((conv=>lhs;whnf);simp only[go_sem,simprocAttr,ho,Int.reduceEq,wch,c5,hsy,o12]));try rfl)
 rw[c_o12]at o12;rw[bJ,bC]
 cases c_o3:K.wth.has (yy 3)
 case true =>
  rw[c_o3]at o3;rw[bS,bB,bB,hZ (by simp)];apply Exists.intro;apply zN;((repeat((conv=>lhs;whnf);simp only[go_sem,simprocAttr,ho,Int.reduceEq,wch,c5,hsy,o12,o3]));try rfl)
 rw[c_o3]at o3;rw[bJ,bC];by_cases c8:K.what.kids.length=0
 ·have c8':(K.what.kids.length:Int)=0:=by omega
  rw[bG c8,bC]
  cases c9:K.wth.has (yy 13)
  case true =>
   rw[c9]at o13;rw[bS,bB,hZ (by simp)];apply Exists.intro;apply zN;((repeat((conv=>lhs;whnf);simp only[go_sem,simprocAttr,ho,Int.reduceEq,wch,c5,hsy,o12,o3,c8',o13]));try rfl)
  rw[c9]at o13;rw[bJ,bC];refine⟨Sn,?_⟩;apply zN;(repeat((conv=>lhs;whnf);simp only[go_sem,simprocAttr,ho,Int.reduceEq,wch,c5,hsy,o12,o3,c8',o13,h2]));exact key
 ·have c8' : ¬(K.what.kids.length:Int)=0:=by omega
  rw[bH c8,bB,bJ,bC];refine⟨Sn,?_⟩;apply zN;(repeat((conv=>lhs;whnf);simp only[go_sem,simprocAttr,ho,Int.reduceEq,wch,c5,hsy,o12,o3,c8',h2]));exact key
theorem zND (I:List Pr) (hl:I.length≤60) (i:Nat) (hi:i<I.length) (K:Pr) (hp:K.ok) (hwc:K.wth.count≤1000) (R:Bool) (Sn:zB) (key:zS 0 qJ 0 116 0 [.blk 0,.seq 0 15] [(0,.sl (zX I) false),(3,.int .i64 ((i+1:Nat):Int))] []=some (.int .i64 (if R=true then 0 else 3),Sn)) (ho:K.what.op=11) :
  ∃S',yB 0 qJ 2 [Fr.blk 2,.seq 1 14927,.blk 1,.seq 0 467,.lop 0 116 0,.blk 0,.seq 0 15] [(0,.sl (zX I) false),(3,.int .i64 i),(4,.mp 0 0 0),(5,.mp 1 0 0),(6,.undef),(33,.undef)] [.arr [K.cells] none false,.arr [K.what.cells] none false]=some (.int .i64 (if ((vu K&&(!K.wth.has yO&&(!K.wth.has (yy 12)&&(!K.wth.has (yy 3) && !(decide (K.what.kids.length=0)&&K.wth.has (yy 13))))))&&R)=true then 0 else 3),S'):=by
 have h2:=zg (i:=i) (n:=I.length) (by omega) (by unfold maxLen;omega);have wch:=fun S s=>jy S K.wth hp.wth (by omega) s;have hsy:=fun S=>XO S K.wth hp.wth;have hM:=fun S=>Wx S K.wth hp.wth;have o12:=fun S=>uF S 12 K.wth hp.wth;have o3:=fun S=>uF S 3 K.wth hp.wth;have o13:=fun S=>uF S 13 K.wth hp.wth;have e:vu K=decide (K.wth.check 1=0):=by unfold vu;rw[bA (by omega)]
 rw[e];clear e;by_cases c5:K.wth.check 1=0
 case neg =>
  rw[bH c5,bB,bB,hZ (by simp)];apply Exists.intro;apply zN;((repeat((conv=>lhs;whnf);simp only[go_sem,simprocAttr,ho,Int.reduceEq,wch,c5]));try rfl)
 rw[bG c5,bC]
 cases c_hsy:K.wth.has yO
 case true =>
  rw[c_hsy]at hsy;rw[bS,bB,bB,hZ (by simp)];apply Exists.intro;apply zN;((repeat((conv=>lhs;whnf);simp only[go_sem,simprocAttr,ho,Int.reduceEq,wch,c5,hsy]));try rfl)
 rw[c_hsy]at hsy;rw[bJ,bC]
 cases c_o12:K.wth.has (yy 12)
 case true =>
  rw[c_o12]at o12;rw[bS,bB,bB,hZ (by simp)];apply Exists.intro;apply zN;((repeat((conv=>lhs;whnf);simp only[go_sem,simprocAttr,ho,Int.reduceEq,wch,c5,hsy,o12]));try rfl)
 rw[c_o12]at o12;rw[bJ,bC]
 cases c_o3:K.wth.has (yy 3)
 case true =>
  rw[c_o3]at o3;rw[bS,bB,bB,hZ (by simp)];apply Exists.intro;apply zN;((repeat((conv=>lhs;whnf);simp only[go_sem,simprocAttr,ho,Int.reduceEq,wch,c5,hsy,o12,o3]));try rfl)
 rw[c_o3]at o3;rw[bJ,bC];by_cases c8:K.what.kids.length=0
 ·have c8':(K.what.kids.length:Int)=0:=by omega
  rw[bG c8,bC]
  cases c9:K.wth.has (yy 13)
  case true =>
   rw[c9]at o13;rw[bS,bB,hZ (by simp)];apply Exists.intro;apply zN;((repeat((conv=>lhs;whnf);simp only[go_sem,simprocAttr,ho,Int.reduceEq,wch,c5,hsy,o12,o3,c8',o13]));try rfl)
  rw[c9]at o13;rw[bJ,bC];refine⟨Sn,?_⟩;apply zN;(repeat((conv=>lhs;whnf);simp only[go_sem,simprocAttr,ho,Int.reduceEq,wch,c5,hsy,o12,o3,c8',o13,h2]));exact key
 ·have c8' : ¬(K.what.kids.length:Int)=0:=by omega
  rw[bH c8,bB,bJ,bC];refine⟨Sn,?_⟩;apply zN;(repeat((conv=>lhs;whnf);simp only[go_sem,simprocAttr,ho,Int.reduceEq,wch,c5,hsy,o12,o3,c8',h2]));exact key
theorem zNE (I:List Pr) (hl:I.length≤60) (i:Nat) (hi:i<I.length) (K:Pr) (hp:K.ok) (hwc:K.wth.count≤1000) (R:Bool) (Sn:zB) (key:zS 0 qJ 0 116 0 [.blk 0,.seq 0 15] [(0,.sl (zX I) false),(3,.int .i64 ((i+1:Nat):Int))] []=some (.int .i64 (if R=true then 0 else 3),Sn)) (ho:K.what.op=37) :
  ∃S',yB 0 qJ 2 [Fr.blk 2,.seq 1 14927,.blk 1,.seq 0 467,.lop 0 116 0,.blk 0,.seq 0 15] [(0,.sl (zX I) false),(3,.int .i64 i),(4,.mp 0 0 0),(5,.mp 1 0 0),(6,.undef),(33,.undef)] [.arr [K.cells] none false,.arr [K.what.cells] none false]=some (.int .i64 (if ((vu K&&(!K.wth.has yO&&(!K.wth.has (yy 12)&&(!K.wth.has (yy 3) && !(decide (K.what.kids.length=0)&&K.wth.has (yy 13))))))&&R)=true then 0 else 3),S'):=by
 have h2:=zg (i:=i) (n:=I.length) (by omega) (by unfold maxLen;omega);have wch:=fun S s=>jy S K.wth hp.wth (by omega) s;have hsy:=fun S=>XO S K.wth hp.wth;have hM:=fun S=>Wx S K.wth hp.wth;have o12:=fun S=>uF S 12 K.wth hp.wth;have o3:=fun S=>uF S 3 K.wth hp.wth;have o13:=fun S=>uF S 13 K.wth hp.wth;have e:vu K=(decide (K.wth.check 2=0) && !K.wth.has ye):=by unfold vu;rw[hZ (by omega),bA (by omega)]
 rw[e];clear e;by_cases c5:K.wth.check 2=0
 case neg =>
  rw[bH c5,bB,bB,bB,hZ (by simp)];apply Exists.intro;apply zN;((repeat((conv=>lhs;whnf);simp only[go_sem,simprocAttr,ho,Int.reduceEq,wch,c5]));try rfl)
 rw[bG c5,bC]
 cases cm:K.wth.has ye
 case true =>
  rw[cm]at hM;rw[bS,bB,bB,hZ (by simp)];apply Exists.intro;apply zN;((repeat((conv=>lhs;whnf);simp only[go_sem,simprocAttr,ho,Int.reduceEq,wch,c5,hM]));try rfl)
 rw[cm]at hM;rw[bJ,bC]
 cases c_hsy:K.wth.has yO
 case true =>
  rw[c_hsy]at hsy;rw[bS,bB,bB,hZ (by simp)];apply Exists.intro;apply zN;((repeat((conv=>lhs;whnf);simp only[go_sem,simprocAttr,ho,Int.reduceEq,wch,c5,hM,hsy]));try rfl)
 rw[c_hsy]at hsy;rw[bJ,bC]
 cases c_o12:K.wth.has (yy 12)
 case true =>
  rw[c_o12]at o12;rw[bS,bB,bB,hZ (by simp)];apply Exists.intro;apply zN;((repeat((conv=>lhs;whnf);simp only[go_sem,simprocAttr,ho,Int.reduceEq,wch,c5,hM,hsy,o12]));try rfl)
 rw[c_o12]at o12;rw[bJ,bC]
 cases c_o3:K.wth.has (yy 3)
 case true =>
  rw[c_o3]at o3;rw[bS,bB,bB,hZ (by simp)];apply Exists.intro;apply zN;((repeat((conv=>lhs;whnf);simp only[go_sem,simprocAttr,ho,Int.reduceEq,wch,c5,hM,hsy,o12,o3]));try rfl)
 rw[c_o3]at o3;rw[bJ,bC];by_cases c8:K.what.kids.length=0
 ·have c8':(K.what.kids.length:Int)=0:=by omega
  rw[bG c8,bC]
  cases c9:K.wth.has (yy 13)
  case true =>
   rw[c9]at o13;rw[bS,bB,hZ (by simp)];apply Exists.intro;apply zN;((repeat((conv=>lhs;whnf);simp only[go_sem,simprocAttr,ho,Int.reduceEq,wch,c5,hM,hsy,o12,o3,c8',o13]));try rfl)
  rw[c9]at o13;rw[bJ,bC];refine⟨Sn,?_⟩;apply zN;(repeat((conv=>lhs;whnf);simp only[go_sem,simprocAttr,ho,Int.reduceEq,wch,c5,hM,hsy,o12,o3,c8',o13,h2]));exact key
 ·have c8' : ¬(K.what.kids.length:Int)=0:=by omega
  rw[bH c8,bB,bJ,bC];refine⟨Sn,?_⟩;apply zN;(repeat((conv=>lhs;whnf);simp only[go_sem,simprocAttr,ho,Int.reduceEq,wch,c5,hM,hsy,o12,o3,c8',h2]));exact key
theorem zNF (I:List Pr) (hl:I.length≤60) (i:Nat) (hi:i<I.length) (K:Pr) (hp:K.ok) (hwc:K.wth.count≤1000) (R:Bool) (Sn:zB) (key:zS 0 qJ 0 116 0 [.blk 0,.seq 0 15] [(0,.sl (zX I) false),(3,.int .i64 ((i+1:Nat):Int))] []=some (.int .i64 (if R=true then 0 else 3),Sn)) (ho:K.what.op=38) :
  ∃S',yB 0 qJ 2 [Fr.blk 2,.seq 1 14927,.blk 1,.seq 0 467,.lop 0 116 0,.blk 0,.seq 0 15] [(0,.sl (zX I) false),(3,.int .i64 i),(4,.mp 0 0 0),(5,.mp 1 0 0),(6,.undef),(33,.undef)] [.arr [K.cells] none false,.arr [K.what.cells] none false]=some (.int .i64 (if ((vu K&&(!K.wth.has yO&&(!K.wth.has (yy 12)&&(!K.wth.has (yy 3) && !(decide (K.what.kids.length=0)&&K.wth.has (yy 13))))))&&R)=true then 0 else 3),S'):=by
 have h2:=zg (i:=i) (n:=I.length) (by omega) (by unfold maxLen;omega);have wch:=fun S s=>jy S K.wth hp.wth (by omega) s;have hsy:=fun S=>XO S K.wth hp.wth;have hM:=fun S=>Wx S K.wth hp.wth;have o12:=fun S=>uF S 12 K.wth hp.wth;have o3:=fun S=>uF S 3 K.wth hp.wth;have o13:=fun S=>uF S 13 K.wth hp.wth;have e:vu K=(decide (K.wth.check 2=0) && !K.wth.has ye):=by unfold vu;rw[hZ (by omega),bA (by omega)]
 rw[e];clear e;by_cases c5:K.wth.check 2=0
 case neg =>
  rw[bH c5,bB,bB,bB,hZ (by simp)];apply Exists.intro;apply zN;((repeat((conv=>lhs;whnf);simp only[go_sem,simprocAttr,ho,Int.reduceEq,wch,c5]));try rfl)
 rw[bG c5,bC]
 cases cm:K.wth.has ye
 case true =>
  rw[cm]at hM;rw[bS,bB,bB,hZ (by simp)];apply Exists.intro;apply zN;((repeat((conv=>lhs;whnf);simp only[go_sem,simprocAttr,ho,Int.reduceEq,wch,c5,hM]));try rfl)
 rw[cm]at hM;rw[bJ,bC]
 cases c_hsy:K.wth.has yO
 case true =>
  rw[c_hsy]at hsy;rw[bS,bB,bB,hZ (by simp)];apply Exists.intro;apply zN;((repeat((conv=>lhs;whnf);simp only[go_sem,simprocAttr,ho,Int.reduceEq,wch,c5,hM,hsy]));try rfl)
 rw[c_hsy]at hsy;rw[bJ,bC]
 cases c_o12:K.wth.has (yy 12)
 case true =>
  rw[c_o12]at o12;rw[bS,bB,bB,hZ (by simp)];apply Exists.intro;apply zN;((repeat((conv=>lhs;whnf);simp only[go_sem,simprocAttr,ho,Int.reduceEq,wch,c5,hM,hsy,o12]));try rfl)
 rw[c_o12]at o12;rw[bJ,bC]
 cases c_o3:K.wth.has (yy 3)
 case true =>
  rw[c_o3]at o3;rw[bS,bB,bB,hZ (by simp)];apply Exists.intro;apply zN;((repeat((conv=>lhs;whnf);simp only[go_sem,simprocAttr,ho,Int.reduceEq,wch,c5,hM,hsy,o12,o3]));try rfl)
 rw[c_o3]at o3;rw[bJ,bC];by_cases c8:K.what.kids.length=0
 ·have c8':(K.what.kids.length:Int)=0:=by omega
  rw[bG c8,bC]
  cases c9:K.wth.has (yy 13)
  case true =>
   rw[c9]at o13;rw[bS,bB,hZ (by simp)];apply Exists.intro;apply zN;((repeat((conv=>lhs;whnf);simp only[go_sem,simprocAttr,ho,Int.reduceEq,wch,c5,hM,hsy,o12,o3,c8',o13]));try rfl)
  rw[c9]at o13;rw[bJ,bC];refine⟨Sn,?_⟩;apply zN;(repeat((conv=>lhs;whnf);simp only[go_sem,simprocAttr,ho,Int.reduceEq,wch,c5,hM,hsy,o12,o3,c8',o13,h2]));exact key
 ·have c8' : ¬(K.what.kids.length:Int)=0:=by omega
  rw[bH c8,bB,bJ,bC];refine⟨Sn,?_⟩;apply zN;(repeat((conv=>lhs;whnf);simp only[go_sem,simprocAttr,ho,Int.reduceEq,wch,c5,hM,hsy,o12,o3,c8',h2]));exact key
theorem zEO (I:List Pr) (hI : ∀p∈I,p.ok) (hl:I.length≤60) (hc : ∀p∈I,p.wth.count≤1000∧p.what.count≤1000) : ∀(m i:Nat),i+m=I.length →
  ∃S',zS 0 qJ 0 116 0 [.blk 0,.seq 0 15] [(0,.sl (zX I) false),(3,.int .i64 i)] []=some (.int .i64 (if WF I m i=true then 0 else 3),S'):=by
 intro m
 induction m with
 | zero =>
  intro i hi;have h1 : ¬(i:Int)<(I.length:Int):=by omega
  apply Exists.intro;apply zC;unfold WF;rw[bA rfl];(repeat((conv=>lhs;whnf);simp only[go_sem,simprocAttr,h1]));apply zN;((repeat((conv=>lhs;whnf);simp only[go_sem,simprocAttr]));try rfl)
 | succ m hm =>
  intro i hi;have hpc:=hc _ (vX (I:=I) (i:=i) (by omega));obtain⟨Sn,key⟩:=hm (i+1) (by omega);have hpk:=hI _ (vX (I:=I) (i:=i) (by omega));have pre:=zG4 I hI hl i (by omega) _ rfl;unfold WF okR;generalize hK:I.getD i pr0=K at *;have asoc:(K.what.isSymbol&&(decide (K.rates.length=0)&&(!YI I i K&&(vu K&&(!K.wth.has yO&&(!K.wth.has (yy 12)&&(!K.wth.has (yy 3) && !(decide (K.what.kids.length=0)&&K.wth.has (yy 13))))))))&&WF I m (i+1)) =
    ((K.what.isSymbol&&(decide (K.rates.length=0) && !YI I i K))&&((vu K&&(!K.wth.has yO&&(!K.wth.has (yy 12)&&(!K.wth.has (yy 3) && !(decide (K.what.kids.length=0)&&K.wth.has (yy 13))))))&&WF I m (i+1))):=by simp only[Bool.and_assoc]
  rw[asoc]
  rcases pre with⟨p1,S',p2⟩ | ⟨p1,p2⟩
  ·rw[p1,bB,hZ (by simp)];exact⟨S',p2⟩
  rw[p1,bC];by_cases g10:K.what.op=10
  ·obtain⟨S',k⟩:=zNC I hl i (by omega) K hpk hpc.1 _ Sn key g10;exact⟨S',p2 _ fun fs hfs=>hfs ▸ k⟩
  by_cases g11:K.what.op=11
  ·obtain⟨S',k⟩:=zND I hl i (by omega) K hpk hpc.1 _ Sn key g11;exact⟨S',p2 _ fun fs hfs=>hfs ▸ k⟩
  by_cases g37:K.what.op=37
  ·obtain⟨S',k⟩:=zNE I hl i (by omega) K hpk hpc.1 _ Sn key g37;exact⟨S',p2 _ fun fs hfs=>hfs ▸ k⟩
  by_cases g38:K.what.op=38
  ·obtain⟨S',k⟩:=zNF I hl i (by omega) K hpk hpc.1 _ Sn key g38;exact⟨S',p2 _ fun fs hfs=>hfs ▸ k⟩
  have e:vu K=false:=by unfold vu;rw[hZ (by omega),hZ (by omega)]
  rw[e,bB,bB,hZ (by simp)];apply Exists.intro;refine p2 _ fun fs hfs=>?_;subst hfs;apply zN;((repeat((conv=>lhs;whnf);simp only[go_sem,simprocAttr,g10,g11,g37,g38]));try rfl)
def qF (I:List Pr):Int:=if I.length≤40∧WF I I.length 0=true then 0 else 3
theorem zEP (I:List Pr) (hI : ∀p∈I,p.ok) (hl:I.length≤60) (hc : ∀p∈I,p.wth.count≤1000∧p.what.count≤1000):callL Tryz.prog zE 11 [.sl (zX I) false]=some (.int .i64 (qF I)):=by
 unfold qF;by_cases h:I.length≤40
 ·have h' : ¬ 40<(I.length:Int):=by omega
  obtain⟨S',k⟩:=zEO I hI hl hc I.length 0 (by omega);have e:(I.length≤40∧WF I I.length 0=true)↔WF I I.length 0=true:=⟨fun x=>x.2,fun x=>⟨h,x⟩⟩;simp only[e];apply FX.callV ok11_ 1000 rfl rfl
  ·(repeat((conv=>lhs;whnf);simp only[go_sem,simprocAttr,h']));exact k
  ·rfl
 ·have h':40<(I.length:Int):=by omega
  rw[hZ (fun x=>h x.1)];apply FX.callV ok11_ 1000 rfl rfl
  ·((repeat((conv=>lhs;whnf);simp only[go_sem,simprocAttr,h']));try rfl)
  ·rfl
theorem VE (S:zB) (I:List Pr) (hI : ∀p∈I,p.ok) (hl:I.length≤60) (hc : ∀p∈I,p.wth.count≤1000∧p.what.count≤1000):zO (callL Tryz.prog zE) S 11 [.sl (zX I) false]=some {v:=.int .i64 (qF I)} := zF (zEP I hI hl hc) (by simp[zh.sl])
end
end
end Go.Vs

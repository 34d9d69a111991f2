
import Derived.Test.YtkaeejkajfinhaaGreatMD21
set_option linter.unusedVariables false
set_option linter.unusedSimpArgs false
set_option maxRecDepth 100000
namespace Go.Vs
open Go Go.Proofs
section
structure Pr where
 what:Node
 wth:Node
 rates:List Node
def Pr.cells (p:Pr):List PV:=p.what.cells++(p.wth.cells++[.sl (Node.rows p.rates) false])
structure Pr.ok (p:Pr):Prop where
 what:p.what.ok
 wth:p.wth.ok
 rates:p.rates.length≤maxLen
def pr0:Pr:=⟨nd0,nd0,[]⟩
def zS (I:List Pr):List (List PV):=I.map Pr.cells
theorem Pr.cells_len (p:Pr):p.cells.length=13:=by simp[Pr.cells,Node.cells_length]
@[go_sem] theorem Q3 (I:List Pr):(zS I).length=I.length:=nr (by simp[zS])
@[go_sem] theorem zJl (I:List Pr):yO 13 (zS I)=true:=nr (zFn (enc:=Pr.cells) Pr.cells_len I)
theorem Zf:(tyi Tryz.prog 69).d=.struct [(0,6,true),(6,6,true),(12,1,false)]:=by kernel_rfl
@[go_sem] theorem zJm:(tyi Tryz.prog 69).size=13:=nr (by kernel_rfl)
@[go_sem] theorem zHJ:(tyi Tryz.prog 69).known=true:=nr (by kernel_rfl)
@[go_sem] theorem zJn:(tyi Tryz.prog 69).zero=some [.int .i64 0,.str ⟨#[]⟩,.bool false,.sl [] true,.sl [] true,.sl [] true,.int .i64 0,.str ⟨#[]⟩,.bool false,.sl [] true,.sl [] true,.sl [] true,.sl [] true]:=nr (by kernel_rfl)
@[go_sem] theorem yG (n:Nat):zW (tyi Tryz.prog 69) n=some {v:=.mp n 0 0,new:=some ([[.int .i64 0,.str ⟨#[]⟩,.bool false,.sl [] true,.sl [] true,.sl [] true,.int .i64 0,.str ⟨#[]⟩,.bool false,.sl [] true,.sl [] true,.sl [] true,.sl [] true]],none)} := nr (by unfold zW;rw[zJn];rfl)
@[go_sem] theorem zQl (id i off:Nat):zA (tyi Tryz.prog 69) 0 (.mp id i off)=some (.mp id i (off+0)):=by simp[zA,Zf]
@[go_sem] theorem zQm (r:List PV):zA (tyi Tryz.prog 69) 0 (.cp r)=some (.cp (r.drop 0)):=by simp[zA,Zf]
@[go_sem] theorem zQn (cs:List PV):zK (tyi Tryz.prog 69) 0 (.agg cs)=if 0+6≤cs.length then some (.agg ((cs.drop 0).take 6)) else none:=by simp[zK,Zf]
@[go_sem] theorem zQo (id i off:Nat):zA (tyi Tryz.prog 69) 1 (.mp id i off)=some (.mp id i (off+6)):=by simp[zA,Zf]
@[go_sem] theorem zQp (r:List PV):zA (tyi Tryz.prog 69) 1 (.cp r)=some (.cp (r.drop 6)):=by simp[zA,Zf]
@[go_sem] theorem zQq (cs:List PV):zK (tyi Tryz.prog 69) 1 (.agg cs)=if 6+6≤cs.length then some (.agg ((cs.drop 6).take 6)) else none:=by simp[zK,Zf]
@[go_sem] theorem zQr (id i off:Nat):zA (tyi Tryz.prog 69) 2 (.mp id i off)=some (.mp id i (off+12)):=by simp[zA,Zf]
@[go_sem] theorem zQs (r:List PV):zA (tyi Tryz.prog 69) 2 (.cp r)=some (.cp (r.drop 12)):=by simp[zA,Zf]
@[go_sem] theorem zQt (cs:List PV):zK (tyi Tryz.prog 69) 2 (.agg cs)=cs[12]? := by simp[zK,Zf]
theorem zHK:SlT 22 69 13 232:=⟨by kernel_rfl,by kernel_rfl,by kernel_rfl,by kernel_rfl,by kernel_rfl⟩
@[go_sem] theorem zUE (r:List (List PV)) (ex:Bool):yJ (tyi Tryz.prog 22) (.sl r ex)=some (.int .i64 r.length):=nr (zHK.len r ex)
@[go_sem] theorem zUF (S:zB) (I:List Pr) (ex:Bool) (i:Int):zI Tryz.prog 22 S (.sl (zS I) ex) (.int .i64 i)=if 0≤i∧i<I.length then some (.cp (I.getD i.toNat pr0).cells) else none:=nr (zHK.idx Pr.cells_len pr0 S I ex i)
theorem zEt (I:List Pr) (i:Nat):(zS I).take i=zS (I.take i):=by simp[zS,List.map_take]
theorem KH (S:zB) (I:List Pr) (i:Nat) (h:i≤I.length):zZ Tryz.prog 22 S (.sl (zS I) false) none (some (.int .i64 i)) none=some (.sl (zS (I.take i)) false):=by
 have:=zHK.firsts S (rows:=zS I) false i (by rw[Q3];exact h) (zJl I);rw[zEt]at this;exact this
@[go_sem] theorem Pr.clen (p:Pr):p.cells.length=13:=nr p.cells_len
@[go_sem] theorem Pr.call_ (p:Pr):p.cells.all PV.cell=true:=nr (by simp[Pr.cells,List.all_append,Node.cells_cell,PV.cell])
theorem Y6 : ∀a b:List PV,vX (a++b)=vX a++vX b
 | [],b=>rfl
 | v::r,b=>by rw[sB,yR,yR,Y6 r b,pB]
@[go_sem] theorem Pr.refs (p:Pr):vX p.cells=[]:=nr (by
 rw[Pr.cells,Y6,Y6,Node.refs,Node.refs];rfl)
@[go_sem] theorem zQu (p:Pr):part (tyi Tryz.prog 69) p.cells=some (.agg p.cells):=by
 simp[Pr.cells,Node.cells_eq,part,zHJ,TI.isAgg,Zf,zJm]
@[go_sem] theorem zQv (p:Pr):part (tyi Tryz.prog 30) p.cells=some (.agg p.what.cells):=by
 simp[Pr.cells,Node.cells_eq,part,jT,TI.isAgg,Yj,ZT]
@[go_sem] theorem zOa (p:Pr):part (tyi Tryz.prog 3) p.cells=some (.int .i64 p.what.op):=by
 have e:(tyi Tryz.prog 3).isAgg=false:=by kernel_rfl
 simp[Pr.cells,Node.cells_eq,part,Kz,e]
@[go_sem] theorem Pr.drop5 (p:Pr):p.cells.drop 5=.sl (Node.rows p.what.kids) false::(p.wth.cells++[.sl (Node.rows p.rates) false]):=nr (by simp[Pr.cells,Node.cells_eq])
@[go_sem] theorem Pr.drop6 (p:Pr):p.cells.drop 6=p.wth.cells++[.sl (Node.rows p.rates) false]:=nr (by simp[Pr.cells,Node.cells_eq])
@[go_sem] theorem Pr.drop12 (p:Pr):p.cells.drop 12=[.sl (Node.rows p.rates) false]:=nr (by simp[Pr.cells,Node.cells_eq])
@[go_sem] theorem zSa (m:Node) (r:List PV):part (tyi Tryz.prog 30) (m.cells++r)=some (.agg m.cells):=by
 simp[Node.cells_eq,part,jT,TI.isAgg,Yj,ZT]
theorem V3 {I:List Pr} {i:Nat} (h:i<I.length):I.drop i=I.getD i pr0::I.drop (i+1):=by
 rw[PU h];simp[bM,h]
theorem vk {I:List Pr} {i:Nat} (h:i<I.length):I.getD i pr0∈I:=by
 simp[bM,h]
def XL:Int→List Pr→Bool
 | a,[]=>decide (a≤1000)
 | a,p::r=>decide (p.rates.length≤10)&&XL (IntKind.i64.wrap (a+IntKind.i64.wrap (p.wth.size+p.what.size))) r
def XM (ls:Nat) (I:List Pr) (n:Node):Bool:=decide (ls≤100)&&(decide (I.length≤60)&&decide (n.size≤1000))&&XL 0 I
section
attribute [local irreducible] Vs.callL Vs.callRL tyi zO zn zg zR zY za zI zZ zA zK ze zX zG zJ zW zr yJ zq zL zf Vs.gc zH
noncomputable def zSb:FX:=⟨Tryz.f9,zD.of 9,[]⟩
instance ok9_:zSb.ok 9:=FX.mk'
theorem zHL (I:List Pr) (n:Node) (hI : ∀p∈I,p.ok) (hl:I.length≤60) : ∀(m i:Nat),i+m=I.length→∀a:Int,zU 0 zSb 0 244 1 [.blk 0,.seq 0 31] [(1,.sl (zS I) false),(7,.int .i64 a),(8,.int .i64 i)] [.arr [n.cells] none false]=some (.bool (XL a (I.drop i)),[.arr [n.cells] none false]):=by
 intro m
 induction m with
 | zero =>
  intro i hi a;have h1 : ¬(i:Int)<(I.length:Int):=by omega
  rw[bU (by omega)];apply zC;(repeat((conv=>lhs;whnf);simp only[go_sem,simprocAttr,h1]));apply zN;unfold XL;((repeat((conv=>lhs;whnf);simp only[go_sem,simprocAttr]));try rfl)
 | succ m hm =>
  intro i hi a;have h1:(i:Int)<(I.length:Int):=by omega
  have h2:=zi (i:=i) (n:=I.length) (by omega) (by unfold maxLen;omega);have h4:0≤(i:Int)∧(i:Int)<(I.length:Int):=⟨by omega,h1⟩;have hp:=hI _ (vk (I:=I) (i:=i) (by omega));have s1:=fun S=>uQ S (Zx _ hp.wth);have s2:=fun S=>uQ S (Zx _ hp.what);rw[V3 (by omega)];unfold XL;by_cases c:(I.getD i pr0).rates.length≤10
  ·have c' : ¬ 10<((I.getD i pr0).rates.length:Int):=by omega
   have key:=hm (i+1) (by omega) (IntKind.i64.wrap (a+IntKind.i64.wrap ((I.getD i pr0).wth.size+(I.getD i pr0).what.size)));rw[bH c,bC];apply zC;(repeat((conv=>lhs;whnf);simp only[go_sem,simprocAttr,h1,h2,h4,bD,c',s1,s2]));exact key
  ·have c':10<((I.getD i pr0).rates.length:Int):=by omega
   rw[bI c,bB];apply zC;((repeat((conv=>lhs;whnf);simp only[go_sem,simprocAttr,h1,h2,h4,bD,c']));try rfl)
theorem zHM {sV:PV} {ls:Nat} (hs:yJ (tyi Tryz.prog 35) sV=some (.int .i64 (ls:Int))) (I:List Pr) (n:Node) (hI : ∀p∈I,p.ok) (hn:n.ok):callL Tryz.prog zD 9 [sV,.sl (zS I) false,.agg n.cells]=some (.bool (XM ls I n)):=by
 have s1:=fun S=>uQ S (Zx n hn);unfold XM;by_cases c1:ls≤100
 case neg =>
  have c1':100<(ls:Int):=by omega
  rw[bI c1,bB,bB];apply FX.callB2 ok9_ 1000 rfl rfl;((repeat((conv=>lhs;whnf);simp only[go_sem,simprocAttr,hs,c1']));try rfl)
 have c1' : ¬ 100<(ls:Int):=by omega
 rw[bH c1,bC];by_cases c2:I.length≤60
 case neg =>
  have c2':60<(I.length:Int):=by omega
  rw[bI c2,bB,bB];apply FX.callB2 ok9_ 1000 rfl rfl;((repeat((conv=>lhs;whnf);simp only[go_sem,simprocAttr,hs,c1',c2']));try rfl)
 have c2' : ¬ 60<(I.length:Int):=by omega
 rw[bH c2,bC];by_cases c3:n.size≤1000
 case neg =>
  have c3':1000<n.size:=by omega
  rw[bI c3,bB];apply FX.callB2 ok9_ 1000 rfl rfl;((repeat((conv=>lhs;whnf);simp only[go_sem,simprocAttr,hs,c1',c2',s1,c3']));try rfl)
 have c3' : ¬ 1000<n.size:=by omega
 have key:=zHL I n hI c2 I.length 0 (by omega) 0;rw[bY]at key;rw[bH c3,bC];apply FX.callB2 ok9_ 1000 rfl rfl;(repeat((conv=>lhs;whnf);simp only[go_sem,simprocAttr,hs,c1',c2',s1,c3']));exact key
end
theorem Uc : ∀(I:List Pr) (a:Int),0≤a→a≤1000000000000→(∀p∈I,p.wth.count≤1000000000∧p.what.count≤1000000000)→I.length≤60→a+2000000000*(I.length:Int)≤1000000000000→XL a I=true→∀p∈I,p.rates.length≤10∧a+(p.wth.count:Int)+p.what.count≤1000
 | [],a,_,_,_,_,_,_=>by simp
 | p::r,a,h0,h1,hc,hl,hb,h=>by
  unfold XL at h;simp only[bP,bR]at h;obtain⟨h2,h3⟩:=h;obtain⟨k1,k2⟩:=hc p (by simp);rw[ky _ k1,ky _ k2]at h3;have w1:IntKind.i64.wrap ((p.wth.count:Int)+p.what.count)=(p.wth.count:Int)+p.what.count:=by rw[bE];omega
  rw[w1]at h3;have w2:IntKind.i64.wrap (a+((p.wth.count:Int)+p.what.count))=a+((p.wth.count:Int)+p.what.count):=by rw[bE];omega
  rw[w2]at h3;simp only[bL]at hb hl;have ih:=Uc r (a+((p.wth.count:Int)+p.what.count)) (by omega) (by omega) (fun q hq=>hc q (by simp[hq])) (by omega) (by omega) h3;have last:a+((p.wth.count:Int)+p.what.count)≤1000:=by
   cases r with
   | nil=>unfold XL at h3;simpa using h3
   | cons q r =>
    have:=(ih q (by simp)).2;omega
  intro q hq
  rcases aF.1 hq with rfl | hq
  ·exact⟨h2,by omega⟩
  ·have:=ih q hq;exact⟨this.1,by omega⟩
theorem zEu {ls:Nat} {I:List Pr} {n:Node} (hc : ∀p∈I,p.wth.count≤1000000000∧p.what.count≤1000000000) (hn:n.count≤1000000000) (h:XM ls I n=true):ls≤100∧I.length≤60∧n.count≤1000∧∀p∈I,p.rates.length≤10∧p.wth.count≤1000∧p.what.count≤1000:=by
 unfold XM at h;simp only[bP,bR]at h;obtain⟨⟨h1,h2,h3⟩,h4⟩:=h;rw[ky n hn]at h3;refine⟨h1,h2,by omega,fun p hp=>?_⟩;have:=Uc I 0 (by omega) (by omega) hc h2 (by omega) h4 p hp;exact⟨this.1,by omega,by omega⟩
end
section
def vw (o:Int):Int:=if o=10∨o=11 then 1 else if o=37∨o=38 then 2 else 0
def kz:List Int:=[33,34,35,36,39,12,3]
def XN (I:List Pr) (i:Nat) (p:Pr):Bool:=(I.take i).any fun q=>decide (q.what.cmp p.what=0)
def okP (I:List Pr) (i:Nat) (p:Pr):Bool :=
 decide (vw p.what.op≠0)&&(decide (p.what.check (vw p.what.op)=0)&&(decide (p.rates.length=0)&&(decide (p.what.sym.cmp p.what=0)&&(!XN I i p &&
 (decide (p.wth.check (vw p.what.op)=0)&&(!p.wth.has (xw kz)&&(!p.wth.has yP && !(decide (p.what.kids.length=0)&&p.wth.has (xw [13])))))))))
def zCZ (I:List Pr):Nat→Nat→Bool
 | 0,_=>true
 | m+1,i=>okP I i (I.getD i pr0)&&zCZ I m (i+1)
theorem zNj (p:Pr):zV [p.cells]=[]:=by
 show vX p.cells++[]=[]
 rw[Pr.refs];rfl
theorem WC {I:List Pr} {i j:Nat} (hj:j<i) (hi:i≤I.length):(I.take i).drop j=I.getD j pr0::(I.take i).drop (j+1):=by
 have h:j<(I.take i).length:=by simp;omega
 rw[V3 h]
 congr 1
 simp[bM,HE,hj]
theorem Q4 {I:List Pr} {i j:Nat} (hj:j<i):(I.take i).getD j pr0=I.getD j pr0:=by
 simp[bM,HE,hj]
theorem Zg {S:zB} {id k:Nat} {ops:List Int} {g:Option (Option Nat)} {f ex:Bool} (n:Node) (hn:n.ok) (hl:ops.length≤1000) (hS:S[id]? = some (.arr (zE .i64 ops) g f)) (hk:ops.length=k):zO (callL Tryz.prog zD) S 40 [.agg n.cells,.msl id 0 k ex]=some {v:=.bool (n.has (xw ops)),fz:=[id]} := by
 have hid:=(bS.1 hS).1;refine JA (zJe ops hl n hn) ?_ ?_ ?_
 ·simp only[xf,Node.fz,uV (xH hS) hk,bG];rfl
 ·have:List.flatMap PV.refs [.agg n.cells,.msl id 0 k ex]=[id]:=by
   simp[BN,PV.refs,Node.refs]
  rw[this];exact zAF (xH hS) (zm _ _) 7
 ·simp[hid]
section
attribute [local irreducible] Vs.callL Vs.callRL tyi zO zn zg zR zY za zI zZ zA zK ze zX zG zJ zW zr yJ zq zL zf Vs.gc zH
noncomputable def ka:FX:=⟨Tryz.f10,zD.of 10,[]⟩
instance ok10_:ka.ok 10:=FX.mk'
theorem Z3 (I:List Pr) (hI : ∀p∈I,p.ok) (hl:I.length≤60) (i:Nat) (hi:i<I.length) (w:Int) (sy:List PV) (hsy:vX sy=[]) (fs:List Fr) : ∀(m j:Nat),j+m=i →
  ((((I.take i).drop j).any fun q=>decide (q.what.cmp (I.getD i pr0).what=0))=false→∀z,yB 0 ka 3 fs [(0,.sl (zS I) false),(4,.mp 0 0 0),(5,.int .i64 w),(13,.sl (zS I) false),(14,.int .i64 I.length),(15,.int .i64 i),(53,.undef),(54,.undef),(55,.undef),(56,.undef)] [.arr [(I.getD i pr0).cells] none false,.arr [sy] none false]=some z →
   zU 0 ka 3 956916 2 fs [(0,.sl (zS I) false),(4,.mp 0 0 0),(5,.int .i64 w),(13,.sl (zS I) false),(14,.int .i64 I.length),(15,.int .i64 i),(53,.sl (zS (I.take i)) false),(54,.int .i64 i),(55,.int .i64 j)] [.arr [(I.getD i pr0).cells] none false,.arr [sy] none false]=some z) ∧
  ((((I.take i).drop j).any fun q=>decide (q.what.cmp (I.getD i pr0).what=0))=true→∃S',
   zU 0 ka 3 956916 2 fs [(0,.sl (zS I) false),(4,.mp 0 0 0),(5,.int .i64 w),(13,.sl (zS I) false),(14,.int .i64 I.length),(15,.int .i64 i),(53,.sl (zS (I.take i)) false),(54,.int .i64 i),(55,.int .i64 j)] [.arr [(I.getD i pr0).cells] none false,.arr [sy] none false]=some (.int .i64 3,S')):=by
 intro m
 induction m with
 | zero =>
  intro j hj;have h1 : ¬(j:Int)<(i:Int):=by omega
  have e0:((I.take i).drop j)=[]:=bU (by simp;omega);rw[e0];refine⟨fun _ z hz=>?_,fun h=>by simp at h⟩;apply zC;(repeat((conv=>lhs;whnf);simp only[go_sem,simprocAttr,h1]));exact hz
 | succ m hm =>
  intro j hj;have h1:(j:Int)<(i:Int):=by omega
  have h2:=zi (i:=j) (n:=I.length) (by omega) (by unfold maxLen;omega);have h3:0≤(j:Int)∧(j:Int)<((I.take i).length:Int):=⟨by omega,by simp;omega⟩;have hg:=Q4 (I:=I) (i:=i) (j:=j) (by omega);have hp:=hI _ (vk (I:=I) (i:=i) hi);have hq:=hI _ (vk (I:=I) (i:=j) (by omega));have hE:=fun S=>jZ S _ _ hq.what hp.what;obtain⟨k1,k2⟩:=hm (j+1) (by omega);rw[WC (I:=I) (i:=i) (j:=j) (by omega) (by omega),BJ];generalize hK:I.getD i pr0=K at *;by_cases c:(I.getD j pr0).what.cmp K.what=0
  ·refine⟨fun h=>by (rw[bH c,pI]at h;cases h),fun _=>?_⟩;apply Exists.intro;apply zC;((repeat((conv=>lhs;whnf);simp only[go_sem,simprocAttr,h1,h2,h3,bD,hg,hE,c,yG,hsy]));try rfl)
  ·rw[bI c,bX];refine⟨fun h z hz=>?_,fun h=>?_⟩
   ·apply zC;(repeat((conv=>lhs;whnf);simp only[go_sem,simprocAttr,h1,h2,h3,bD,hg,hE,c,yG,hsy]));exact k1 h z hz
   ·obtain⟨S',k⟩:=k2 h;refine⟨S',yv ok10_.good 1000 ?_⟩;(repeat((conv=>lhs;whnf);simp only[go_sem,simprocAttr,h1,h2,h3,bD,hg,hE,c,yG,hsy]));exact k
theorem zNk (I:List Pr) (hI : ∀p∈I,p.ok) (hl:I.length≤60) (i:Nat) (hi:i<I.length) (K:Pr) (hK:I.getD i pr0=K) (hwc:K.wth.count≤1000) (R:Bool) (Sn:zB) (key:zU 0 ka 0 116 0 [.blk 0,.seq 0 15] [(0,.sl (zS I) false),(13,.sl (zS I) false),(14,.int .i64 I.length),(15,.int .i64 ((i+1:Nat):Int))] []=some (.int .i64 (if R=true then 0 else 3),Sn)) (ho:K.what.op=10) :
  ∃S',zU 0 ka 0 116 0 [.blk 0,.seq 0 15] [(0,.sl (zS I) false),(13,.sl (zS I) false),(14,.int .i64 I.length),(15,.int .i64 i)] []=some (.int .i64 (if ((decide (K.what.check 1=0)&&(decide (K.rates.length=0)&&(decide (K.what.sym.cmp K.what=0)&&(!XN I i K&&(decide (K.wth.check 1=0)&&(!K.wth.has (xw kz)&&(!K.wth.has yP && !(decide (K.what.kids.length=0)&&K.wth.has (xw [13])))))))))&&R)=true then 0 else 3),S'):=by
 have h1:(i:Int)<(I.length:Int):=by omega
 have h2:=zi (i:=i) (n:=I.length) (by omega) (by unfold maxLen;omega);have h4:0≤(i:Int)∧(i:Int)<(I.length:Int):=⟨by omega,h1⟩;have hp:K.ok:=hK ▸ hI _ (vk (I:=I) (i:=i) (by omega));have hlt:(I.take i).length=i:=by simp;omega
 have hcut:=fun S=>KH S I i (by omega);have L3:=fun fs=>Z3 I hI hl i (by omega) 1 K.what.sym.cells (Node.refs _) fs i 0 (by omega);simp only[bY,hK]at L3;have tCheck_c:=fun S s=>jX S K.what hp.what s;have wCheck_c:=fun S s=>jX S K.wth hp.wth s;have hE:=fun S=>jZ S _ _ (Y5 hp.what) hp.what;by_cases c1:K.what.check 1=0
 case neg =>
  rw[bI c1,bB,bB,hZ (by simp)];apply Exists.intro;apply zC;((repeat((conv=>lhs;whnf);simp only[go_sem,simprocAttr,h1,h4,bD,hK,yG,ho,Int.reduceEq,tCheck_c,c1]));try rfl)
 rw[bH c1,bC];by_cases c2:K.rates.length=0
 case neg =>
  have c2':0<(K.rates.length:Int):=by omega
  rw[bI c2,bB,bB,hZ (by simp)];apply Exists.intro;apply zC;((repeat((conv=>lhs;whnf);simp only[go_sem,simprocAttr,h1,h4,bD,hK,yG,ho,Int.reduceEq,tCheck_c,c1,c2']));try rfl)
 have c2' : ¬ 0<(K.rates.length:Int):=by omega
 rw[bH c2,bC];by_cases c3:K.what.sym.cmp K.what=0
 case neg =>
  rw[bI c3,bB,bB,hZ (by simp)];apply Exists.intro;apply zC;((repeat((conv=>lhs;whnf);simp only[go_sem,simprocAttr,h1,h4,bD,hK,yG,ho,Int.reduceEq,tCheck_c,c1,c2',wP,zj,hE,c3]));try rfl)
 rw[bH c3,bC]
 cases c4:XN I i K
 case true =>
  rw[bT,bB,bB,hZ (by simp)];obtain⟨S',k⟩:=(L3 _).2 c4;refine⟨S',?_⟩;apply zC;(repeat((conv=>lhs;whnf);simp only[go_sem,simprocAttr,h1,h4,bD,hK,yG,ho,Int.reduceEq,tCheck_c,c1,c2',wP,zj,hE,c3,hcut,hlt]));exact k
 rw[bK,bC];have go_on : ∀z,(∀fs,fs=[Fr.blk 3,.seq 1 119615,.blk 1,.seq 0 935,.lop 0 116 0,.blk 0,.seq 0 15]→yB 0 ka 3 fs [(0,.sl (zS I) false),(4,.mp 0 0 0),(5,.int .i64 1),(13,.sl (zS I) false),(14,.int .i64 I.length),(15,.int .i64 i),(53,.undef),(54,.undef),(55,.undef),(56,.undef)] [.arr [K.cells] none false,.arr [K.what.sym.cells] none false]=some z)→zU 0 ka 0 116 0 [.blk 0,.seq 0 15] [(0,.sl (zS I) false),(13,.sl (zS I) false),(14,.int .i64 I.length),(15,.int .i64 i)] []=some z:=fun z hz=>by
  apply zC;(repeat((conv=>lhs;whnf);simp only[go_sem,simprocAttr,h1,h4,bD,hK,yG,ho,Int.reduceEq,tCheck_c,c1,c2',wP,zj,hE,c3,hcut,hlt]));exact (L3 _).1 c4 z (hz _ rfl)
 by_cases c5:K.wth.check 1=0
 case neg =>
  rw[bI c5,bB,bB,hZ (by simp)];apply Exists.intro;refine go_on _ fun fs hfs=>?_;subst hfs;apply zN;((repeat((conv=>lhs;whnf);simp only[go_sem,simprocAttr,wCheck_c,c5]));try rfl)
 rw[bH c5,bC];have u1:=Zg (S:=[.arr [K.cells] none false,.arr [K.what.sym.cells] none false,.arr [[PV.int .i64 33],[.int .i64 34],[.int .i64 35],[.int .i64 36],[.int .i64 39],[.int .i64 12],[.int .i64 3]] (some (some 1)) false]) (id:=2) (ops:=kz) (k:=7) (ex:=true) K.wth hp.wth (by decide) rfl rfl
 cases c6:K.wth.has (xw kz)
 case true =>
  rw[c6]at u1;rw[bT,bB,bB,hZ (by simp)];apply Exists.intro;refine go_on _ fun fs hfs=>?_;subst hfs;apply zN;((repeat((conv=>lhs;whnf);simp only[go_sem,simprocAttr,wCheck_c,c5,u1]));try rfl)
 rw[c6]at u1;rw[bK,bC];obtain⟨L,ex,hso,hme,_,_⟩:=Z2 K.wth hp.wth (by omega)
 cases c7:K.wth.has yP
 case true =>
  have hL:0<(L.length:Int):=by
   have:L≠[]:=fun h=>by
    have:=(kX K.wth).1 (hme.1 h);rw[c7]at this;cases this
   have:=PC.2 this;omega
  rw[bT,bB,bB,hZ (by simp)];apply Exists.intro;refine go_on _ fun fs hfs=>?_;subst hfs;apply zN;((repeat((conv=>lhs;whnf);simp only[go_sem,simprocAttr,wCheck_c,c5,u1,hso,hL]));try rfl)
 have hL : ¬ 0<(L.length:Int):=by
  have:=hme.2 ((kX K.wth).2 c7);rw[this];simp
 rw[bK,bC];by_cases c8:K.what.kids.length=0
 ·have c8':(K.what.kids.length:Int)=0:=by omega
  have u2:=Zg (S:=[.arr [K.cells] none false,.arr [K.what.sym.cells] none false,.arr [[PV.int .i64 33],[.int .i64 34],[.int .i64 35],[.int .i64 36],[.int .i64 39],[.int .i64 12],[.int .i64 3]] (some (some 1)) true,.arr [[PV.int .i64 13]] (some (some 1)) false]) (id:=3) (ops:=[13]) (k:=1) (ex:=true) K.wth hp.wth (by decide) rfl rfl;rw[bH c8,bC]
  cases c9:K.wth.has (xw [13])
  case true =>
   rw[c9]at u2;rw[bT,bB,hZ (by simp)];apply Exists.intro;refine go_on _ fun fs hfs=>?_;subst hfs;apply zN;((repeat((conv=>lhs;whnf);simp only[go_sem,simprocAttr,wCheck_c,c5,u1,hso,hL,c8',u2]));try rfl)
  rw[c9]at u2;rw[bK,bC];refine⟨Sn,?_⟩;refine go_on _ fun fs hfs=>?_;subst hfs;apply zN;(repeat((conv=>lhs;whnf);simp only[go_sem,simprocAttr,wCheck_c,c5,u1,hso,hL,c8',u2,h2]));exact key
 ·have c8' : ¬(K.what.kids.length:Int)=0:=by omega
  rw[bI c8,bB,bK,bC];refine⟨Sn,?_⟩;refine go_on _ fun fs hfs=>?_;subst hfs;apply zN;(repeat((conv=>lhs;whnf);simp only[go_sem,simprocAttr,wCheck_c,c5,u1,hso,hL,c8',h2]));exact key
theorem zNl (I:List Pr) (hI : ∀p∈I,p.ok) (hl:I.length≤60) (i:Nat) (hi:i<I.length) (K:Pr) (hK:I.getD i pr0=K) (hwc:K.wth.count≤1000) (R:Bool) (Sn:zB) (key:zU 0 ka 0 116 0 [.blk 0,.seq 0 15] [(0,.sl (zS I) false),(13,.sl (zS I) false),(14,.int .i64 I.length),(15,.int .i64 ((i+1:Nat):Int))] []=some (.int .i64 (if R=true then 0 else 3),Sn)) (ho:K.what.op=11) :
  ∃S',zU 0 ka 0 116 0 [.blk 0,.seq 0 15] [(0,.sl (zS I) false),(13,.sl (zS I) false),(14,.int .i64 I.length),(15,.int .i64 i)] []=some (.int .i64 (if ((decide (K.what.check 1=0)&&(decide (K.rates.length=0)&&(decide (K.what.sym.cmp K.what=0)&&(!XN I i K&&(decide (K.wth.check 1=0)&&(!K.wth.has (xw kz)&&(!K.wth.has yP && !(decide (K.what.kids.length=0)&&K.wth.has (xw [13])))))))))&&R)=true then 0 else 3),S'):=by
 have h1:(i:Int)<(I.length:Int):=by omega
 have h2:=zi (i:=i) (n:=I.length) (by omega) (by unfold maxLen;omega);have h4:0≤(i:Int)∧(i:Int)<(I.length:Int):=⟨by omega,h1⟩;have hp:K.ok:=hK ▸ hI _ (vk (I:=I) (i:=i) (by omega));have hlt:(I.take i).length=i:=by simp;omega
 have hcut:=fun S=>KH S I i (by omega);have L3:=fun fs=>Z3 I hI hl i (by omega) 1 K.what.sym.cells (Node.refs _) fs i 0 (by omega);simp only[bY,hK]at L3;have tCheck_c:=fun S s=>jX S K.what hp.what s;have wCheck_c:=fun S s=>jX S K.wth hp.wth s;have hE:=fun S=>jZ S _ _ (Y5 hp.what) hp.what;by_cases c1:K.what.check 1=0
 case neg =>
  rw[bI c1,bB,bB,hZ (by simp)];apply Exists.intro;apply zC;((repeat((conv=>lhs;whnf);simp only[go_sem,simprocAttr,h1,h4,bD,hK,yG,ho,Int.reduceEq,tCheck_c,c1]));try rfl)
 rw[bH c1,bC];by_cases c2:K.rates.length=0
 case neg =>
  have c2':0<(K.rates.length:Int):=by omega
  rw[bI c2,bB,bB,hZ (by simp)];apply Exists.intro;apply zC;((repeat((conv=>lhs;whnf);simp only[go_sem,simprocAttr,h1,h4,bD,hK,yG,ho,Int.reduceEq,tCheck_c,c1,c2']));try rfl)
 have c2' : ¬ 0<(K.rates.length:Int):=by omega
 rw[bH c2,bC];by_cases c3:K.what.sym.cmp K.what=0
 case neg =>
  rw[bI c3,bB,bB,hZ (by simp)];apply Exists.intro;apply zC;((repeat((conv=>lhs;whnf);simp only[go_sem,simprocAttr,h1,h4,bD,hK,yG,ho,Int.reduceEq,tCheck_c,c1,c2',wP,zj,hE,c3]));try rfl)
 rw[bH c3,bC]
 cases c4:XN I i K
 case true =>
  rw[bT,bB,bB,hZ (by simp)];obtain⟨S',k⟩:=(L3 _).2 c4;refine⟨S',?_⟩;apply zC;(repeat((conv=>lhs;whnf);simp only[go_sem,simprocAttr,h1,h4,bD,hK,yG,ho,Int.reduceEq,tCheck_c,c1,c2',wP,zj,hE,c3,hcut,hlt]));exact k
 rw[bK,bC];have go_on : ∀z,(∀fs,fs=[Fr.blk 3,.seq 1 119615,.blk 1,.seq 0 935,.lop 0 116 0,.blk 0,.seq 0 15]→yB 0 ka 3 fs [(0,.sl (zS I) false),(4,.mp 0 0 0),(5,.int .i64 1),(13,.sl (zS I) false),(14,.int .i64 I.length),(15,.int .i64 i),(53,.undef),(54,.undef),(55,.undef),(56,.undef)] [.arr [K.cells] none false,.arr [K.what.sym.cells] none false]=some z)→zU 0 ka 0 116 0 [.blk 0,.seq 0 15] [(0,.sl (zS I) false),(13,.sl (zS I) false),(14,.int .i64 I.length),(15,.int .i64 i)] []=some z:=fun z hz=>by
  apply zC;(repeat((conv=>lhs;whnf);simp only[go_sem,simprocAttr,h1,h4,bD,hK,yG,ho,Int.reduceEq,tCheck_c,c1,c2',wP,zj,hE,c3,hcut,hlt]));exact (L3 _).1 c4 z (hz _ rfl)
 by_cases c5:K.wth.check 1=0
 case neg =>
  rw[bI c5,bB,bB,hZ (by simp)];apply Exists.intro;refine go_on _ fun fs hfs=>?_;subst hfs;apply zN;((repeat((conv=>lhs;whnf);simp only[go_sem,simprocAttr,wCheck_c,c5]));try rfl)
 rw[bH c5,bC];have u1:=Zg (S:=[.arr [K.cells] none false,.arr [K.what.sym.cells] none false,.arr [[PV.int .i64 33],[.int .i64 34],[.int .i64 35],[.int .i64 36],[.int .i64 39],[.int .i64 12],[.int .i64 3]] (some (some 1)) false]) (id:=2) (ops:=kz) (k:=7) (ex:=true) K.wth hp.wth (by decide) rfl rfl
 cases c6:K.wth.has (xw kz)
 case true =>
  rw[c6]at u1;rw[bT,bB,bB,hZ (by simp)];apply Exists.intro;refine go_on _ fun fs hfs=>?_;subst hfs;apply zN;((repeat((conv=>lhs;whnf);simp only[go_sem,simprocAttr,wCheck_c,c5,u1]));try rfl)
 rw[c6]at u1;rw[bK,bC];obtain⟨L,ex,hso,hme,_,_⟩:=Z2 K.wth hp.wth (by omega)
 cases c7:K.wth.has yP
 case true =>
  have hL:0<(L.length:Int):=by
   have:L≠[]:=fun h=>by
    have:=(kX K.wth).1 (hme.1 h);rw[c7]at this;cases this
   have:=PC.2 this;omega
  rw[bT,bB,bB,hZ (by simp)];apply Exists.intro;refine go_on _ fun fs hfs=>?_;subst hfs;apply zN;((repeat((conv=>lhs;whnf);simp only[go_sem,simprocAttr,wCheck_c,c5,u1,hso,hL]));try rfl)
 have hL : ¬ 0<(L.length:Int):=by
  have:=hme.2 ((kX K.wth).2 c7);rw[this];simp
 rw[bK,bC];by_cases c8:K.what.kids.length=0
 ·have c8':(K.what.kids.length:Int)=0:=by omega
  have u2:=Zg (S:=[.arr [K.cells] none false,.arr [K.what.sym.cells] none false,.arr [[PV.int .i64 33],[.int .i64 34],[.int .i64 35],[.int .i64 36],[.int .i64 39],[.int .i64 12],[.int .i64 3]] (some (some 1)) true,.arr [[PV.int .i64 13]] (some (some 1)) false]) (id:=3) (ops:=[13]) (k:=1) (ex:=true) K.wth hp.wth (by decide) rfl rfl;rw[bH c8,bC]
  cases c9:K.wth.has (xw [13])
  case true =>
   rw[c9]at u2;rw[bT,bB,hZ (by simp)];apply Exists.intro;refine go_on _ fun fs hfs=>?_;subst hfs;apply zN;((repeat((conv=>lhs;whnf);simp only[go_sem,simprocAttr,wCheck_c,c5,u1,hso,hL,c8',u2]));try rfl)
  rw[c9]at u2;rw[bK,bC];refine⟨Sn,?_⟩;refine go_on _ fun fs hfs=>?_;subst hfs;apply zN;(repeat((conv=>lhs;whnf);simp only[go_sem,simprocAttr,wCheck_c,c5,u1,hso,hL,c8',u2,h2]));exact key
 ·have c8' : ¬(K.what.kids.length:Int)=0:=by omega
  rw[bI c8,bB,bK,bC];refine⟨Sn,?_⟩;refine go_on _ fun fs hfs=>?_;subst hfs;apply zN;(repeat((conv=>lhs;whnf);simp only[go_sem,simprocAttr,wCheck_c,c5,u1,hso,hL,c8',h2]));exact key
theorem zNm (I:List Pr) (hI : ∀p∈I,p.ok) (hl:I.length≤60) (i:Nat) (hi:i<I.length) (K:Pr) (hK:I.getD i pr0=K) (hwc:K.wth.count≤1000) (R:Bool) (Sn:zB) (key:zU 0 ka 0 116 0 [.blk 0,.seq 0 15] [(0,.sl (zS I) false),(13,.sl (zS I) false),(14,.int .i64 I.length),(15,.int .i64 ((i+1:Nat):Int))] []=some (.int .i64 (if R=true then 0 else 3),Sn)) (ho:K.what.op=37) :
  ∃S',zU 0 ka 0 116 0 [.blk 0,.seq 0 15] [(0,.sl (zS I) false),(13,.sl (zS I) false),(14,.int .i64 I.length),(15,.int .i64 i)] []=some (.int .i64 (if ((decide (K.what.check 2=0)&&(decide (K.rates.length=0)&&(decide (K.what.sym.cmp K.what=0)&&(!XN I i K&&(decide (K.wth.check 2=0)&&(!K.wth.has (xw kz)&&(!K.wth.has yP && !(decide (K.what.kids.length=0)&&K.wth.has (xw [13])))))))))&&R)=true then 0 else 3),S'):=by
 have h1:(i:Int)<(I.length:Int):=by omega
 have h2:=zi (i:=i) (n:=I.length) (by omega) (by unfold maxLen;omega);have h4:0≤(i:Int)∧(i:Int)<(I.length:Int):=⟨by omega,h1⟩;have hp:K.ok:=hK ▸ hI _ (vk (I:=I) (i:=i) (by omega));have hlt:(I.take i).length=i:=by simp;omega
 have hcut:=fun S=>KH S I i (by omega);have L3:=fun fs=>Z3 I hI hl i (by omega) 2 K.what.sym.cells (Node.refs _) fs i 0 (by omega);simp only[bY,hK]at L3;have tCheck_c:=fun S s=>jX S K.what hp.what s;have wCheck_c:=fun S s=>jX S K.wth hp.wth s;have hE:=fun S=>jZ S _ _ (Y5 hp.what) hp.what;by_cases c1:K.what.check 2=0
 case neg =>
  rw[bI c1,bB,bB,hZ (by simp)];apply Exists.intro;apply zC;((repeat((conv=>lhs;whnf);simp only[go_sem,simprocAttr,h1,h4,bD,hK,yG,ho,Int.reduceEq,tCheck_c,c1]));try rfl)
 rw[bH c1,bC];by_cases c2:K.rates.length=0
 case neg =>
  have c2':0<(K.rates.length:Int):=by omega
  rw[bI c2,bB,bB,hZ (by simp)];apply Exists.intro;apply zC;((repeat((conv=>lhs;whnf);simp only[go_sem,simprocAttr,h1,h4,bD,hK,yG,ho,Int.reduceEq,tCheck_c,c1,c2']));try rfl)
 have c2' : ¬ 0<(K.rates.length:Int):=by omega
 rw[bH c2,bC];by_cases c3:K.what.sym.cmp K.what=0
 case neg =>
  rw[bI c3,bB,bB,hZ (by simp)];apply Exists.intro;apply zC;((repeat((conv=>lhs;whnf);simp only[go_sem,simprocAttr,h1,h4,bD,hK,yG,ho,Int.reduceEq,tCheck_c,c1,c2',wP,zj,hE,c3]));try rfl)
 rw[bH c3,bC]
 cases c4:XN I i K
 case true =>
  rw[bT,bB,bB,hZ (by simp)];obtain⟨S',k⟩:=(L3 _).2 c4;refine⟨S',?_⟩;apply zC;(repeat((conv=>lhs;whnf);simp only[go_sem,simprocAttr,h1,h4,bD,hK,yG,ho,Int.reduceEq,tCheck_c,c1,c2',wP,zj,hE,c3,hcut,hlt]));exact k
 rw[bK,bC];have go_on : ∀z,(∀fs,fs=[Fr.blk 3,.seq 1 119615,.blk 1,.seq 0 935,.lop 0 116 0,.blk 0,.seq 0 15]→yB 0 ka 3 fs [(0,.sl (zS I) false),(4,.mp 0 0 0),(5,.int .i64 2),(13,.sl (zS I) false),(14,.int .i64 I.length),(15,.int .i64 i),(53,.undef),(54,.undef),(55,.undef),(56,.undef)] [.arr [K.cells] none false,.arr [K.what.sym.cells] none false]=some z)→zU 0 ka 0 116 0 [.blk 0,.seq 0 15] [(0,.sl (zS I) false),(13,.sl (zS I) false),(14,.int .i64 I.length),(15,.int .i64 i)] []=some z:=fun z hz=>by
  apply zC;(repeat((conv=>lhs;whnf);simp only[go_sem,simprocAttr,h1,h4,bD,hK,yG,ho,Int.reduceEq,tCheck_c,c1,c2',wP,zj,hE,c3,hcut,hlt]));exact (L3 _).1 c4 z (hz _ rfl)
 by_cases c5:K.wth.check 2=0
 case neg =>
  rw[bI c5,bB,bB,hZ (by simp)];apply Exists.intro;refine go_on _ fun fs hfs=>?_;subst hfs;apply zN;((repeat((conv=>lhs;whnf);simp only[go_sem,simprocAttr,wCheck_c,c5]));try rfl)
 rw[bH c5,bC];have u1:=Zg (S:=[.arr [K.cells] none false,.arr [K.what.sym.cells] none false,.arr [[PV.int .i64 33],[.int .i64 34],[.int .i64 35],[.int .i64 36],[.int .i64 39],[.int .i64 12],[.int .i64 3]] (some (some 1)) false]) (id:=2) (ops:=kz) (k:=7) (ex:=true) K.wth hp.wth (by decide) rfl rfl
 cases c6:K.wth.has (xw kz)
 case true =>
  rw[c6]at u1;rw[bT,bB,bB,hZ (by simp)];apply Exists.intro;refine go_on _ fun fs hfs=>?_;subst hfs;apply zN;((repeat((conv=>lhs;whnf);simp only[go_sem,simprocAttr,wCheck_c,c5,u1]));try rfl)
 rw[c6]at u1;rw[bK,bC];obtain⟨L,ex,hso,hme,_,_⟩:=Z2 K.wth hp.wth (by omega)
 cases c7:K.wth.has yP
 case true =>
  have hL:0<(L.length:Int):=by
   have:L≠[]:=fun h=>by
    have:=(kX K.wth).1 (hme.1 h);rw[c7]at this;cases this
   have:=PC.2 this;omega
  rw[bT,bB,bB,hZ (by simp)];apply Exists.intro;refine go_on _ fun fs hfs=>?_;subst hfs;apply zN;((repeat((conv=>lhs;whnf);simp only[go_sem,simprocAttr,wCheck_c,c5,u1,hso,hL]));try rfl)
 have hL : ¬ 0<(L.length:Int):=by
  have:=hme.2 ((kX K.wth).2 c7);rw[this];simp
 rw[bK,bC];by_cases c8:K.what.kids.length=0
 ·have c8':(K.what.kids.length:Int)=0:=by omega
  have u2:=Zg (S:=[.arr [K.cells] none false,.arr [K.what.sym.cells] none false,.arr [[PV.int .i64 33],[.int .i64 34],[.int .i64 35],[.int .i64 36],[.int .i64 39],[.int .i64 12],[.int .i64 3]] (some (some 1)) true,.arr [[PV.int .i64 13]] (some (some 1)) false]) (id:=3) (ops:=[13]) (k:=1) (ex:=true) K.wth hp.wth (by decide) rfl rfl;rw[bH c8,bC]
  cases c9:K.wth.has (xw [13])
  case true =>
   rw[c9]at u2;rw[bT,bB,hZ (by simp)];apply Exists.intro;refine go_on _ fun fs hfs=>?_;subst hfs;apply zN;((repeat((conv=>lhs;whnf);simp only[go_sem,simprocAttr,wCheck_c,c5,u1,hso,hL,c8',u2]));try rfl)
  rw[c9]at u2;rw[bK,bC];refine⟨Sn,?_⟩;refine go_on _ fun fs hfs=>?_;subst hfs;apply zN;(repeat((conv=>lhs;whnf);simp only[go_sem,simprocAttr,wCheck_c,c5,u1,hso,hL,c8',u2,h2]));exact key
 ·have c8' : ¬(K.what.kids.length:Int)=0:=by omega
  rw[bI c8,bB,bK,bC];refine⟨Sn,?_⟩;refine go_on _ fun fs hfs=>?_;subst hfs;apply zN;(repeat((conv=>lhs;whnf);simp only[go_sem,simprocAttr,wCheck_c,c5,u1,hso,hL,c8',h2]));exact key
theorem zNn (I:List Pr) (hI : ∀p∈I,p.ok) (hl:I.length≤60) (i:Nat) (hi:i<I.length) (K:Pr) (hK:I.getD i pr0=K) (hwc:K.wth.count≤1000) (R:Bool) (Sn:zB) (key:zU 0 ka 0 116 0 [.blk 0,.seq 0 15] [(0,.sl (zS I) false),(13,.sl (zS I) false),(14,.int .i64 I.length),(15,.int .i64 ((i+1:Nat):Int))] []=some (.int .i64 (if R=true then 0 else 3),Sn)) (ho:K.what.op=38) :
  ∃S',zU 0 ka 0 116 0 [.blk 0,.seq 0 15] [(0,.sl (zS I) false),(13,.sl (zS I) false),(14,.int .i64 I.length),(15,.int .i64 i)] []=some (.int .i64 (if ((decide (K.what.check 2=0)&&(decide (K.rates.length=0)&&(decide (K.what.sym.cmp K.what=0)&&(!XN I i K&&(decide (K.wth.check 2=0)&&(!K.wth.has (xw kz)&&(!K.wth.has yP && !(decide (K.what.kids.length=0)&&K.wth.has (xw [13])))))))))&&R)=true then 0 else 3),S'):=by
 have h1:(i:Int)<(I.length:Int):=by omega
 have h2:=zi (i:=i) (n:=I.length) (by omega) (by unfold maxLen;omega);have h4:0≤(i:Int)∧(i:Int)<(I.length:Int):=⟨by omega,h1⟩;have hp:K.ok:=hK ▸ hI _ (vk (I:=I) (i:=i) (by omega));have hlt:(I.take i).length=i:=by simp;omega
 have hcut:=fun S=>KH S I i (by omega);have L3:=fun fs=>Z3 I hI hl i (by omega) 2 K.what.sym.cells (Node.refs _) fs i 0 (by omega);simp only[bY,hK]at L3;have tCheck_c:=fun S s=>jX S K.what hp.what s;have wCheck_c:=fun S s=>jX S K.wth hp.wth s;have hE:=fun S=>jZ S _ _ (Y5 hp.what) hp.what;by_cases c1:K.what.check 2=0
 case neg =>
  rw[bI c1,bB,bB,hZ (by simp)];apply Exists.intro;apply zC;((repeat((conv=>lhs;whnf);simp only[go_sem,simprocAttr,h1,h4,bD,hK,yG,ho,Int.reduceEq,tCheck_c,c1]));try rfl)
 rw[bH c1,bC];by_cases c2:K.rates.length=0
 case neg =>
  have c2':0<(K.rates.length:Int):=by omega
  rw[bI c2,bB,bB,hZ (by simp)];apply Exists.intro;apply zC;((repeat((conv=>lhs;whnf);simp only[go_sem,simprocAttr,h1,h4,bD,hK,yG,ho,Int.reduceEq,tCheck_c,c1,c2']));try rfl)
 have c2' : ¬ 0<(K.rates.length:Int):=by omega
 rw[bH c2,bC];by_cases c3:K.what.sym.cmp K.what=0
 case neg =>
  rw[bI c3,bB,bB,hZ (by simp)];apply Exists.intro;apply zC;((repeat((conv=>lhs;whnf);simp only[go_sem,simprocAttr,h1,h4,bD,hK,yG,ho,Int.reduceEq,tCheck_c,c1,c2',wP,zj,hE,c3]));try rfl)
 rw[bH c3,bC]
 cases c4:XN I i K
 case true =>
  rw[bT,bB,bB,hZ (by simp)];obtain⟨S',k⟩:=(L3 _).2 c4;refine⟨S',?_⟩;apply zC;(repeat((conv=>lhs;whnf);simp only[go_sem,simprocAttr,h1,h4,bD,hK,yG,ho,Int.reduceEq,tCheck_c,c1,c2',wP,zj,hE,c3,hcut,hlt]));exact k
 rw[bK,bC];have go_on : ∀z,(∀fs,fs=[Fr.blk 3,.seq 1 119615,.blk 1,.seq 0 935,.lop 0 116 0,.blk 0,.seq 0 15]→yB 0 ka 3 fs [(0,.sl (zS I) false),(4,.mp 0 0 0),(5,.int .i64 2),(13,.sl (zS I) false),(14,.int .i64 I.length),(15,.int .i64 i),(53,.undef),(54,.undef),(55,.undef),(56,.undef)] [.arr [K.cells] none false,.arr [K.what.sym.cells] none false]=some z)→zU 0 ka 0 116 0 [.blk 0,.seq 0 15] [(0,.sl (zS I) false),(13,.sl (zS I) false),(14,.int .i64 I.length),(15,.int .i64 i)] []=some z:=fun z hz=>by
  apply zC;(repeat((conv=>lhs;whnf);simp only[go_sem,simprocAttr,h1,h4,bD,hK,yG,ho,Int.reduceEq,tCheck_c,c1,c2',wP,zj,hE,c3,hcut,hlt]));exact (L3 _).1 c4 z (hz _ rfl)
 by_cases c5:K.wth.check 2=0
 case neg =>
  rw[bI c5,bB,bB,hZ (by simp)];apply Exists.intro;refine go_on _ fun fs hfs=>?_;subst hfs;apply zN;((repeat((conv=>lhs;whnf);simp only[go_sem,simprocAttr,wCheck_c,c5]));try rfl)
 rw[bH c5,bC];have u1:=Zg (S:=[.arr [K.cells] none false,.arr [K.what.sym.cells] none false,.arr [[PV.int .i64 33],[.int .i64 34],[.int .i64 35],[.int .i64 36],[.int .i64 39],[.int .i64 12],[.int .i64 3]] (some (some 1)) false]) (id:=2) (ops:=kz) (k:=7) (ex:=true) K.wth hp.wth (by decide) rfl rfl
 cases c6:K.wth.has (xw kz)
 case true =>
  rw[c6]at u1;rw[bT,bB,bB,hZ (by simp)];apply Exists.intro;refine go_on _ fun fs hfs=>?_;subst hfs;apply zN;((repeat((conv=>lhs;whnf);simp only[go_sem,simprocAttr,wCheck_c,c5,u1]));try rfl)
 rw[c6]at u1;rw[bK,bC];obtain⟨L,ex,hso,hme,_,_⟩:=Z2 K.wth hp.wth (by omega)
 cases c7:K.wth.has yP
 case true =>
  have hL:0<(L.length:Int):=by
   have:L≠[]:=fun h=>by
    have:=(kX K.wth).1 (hme.1 h);rw[c7]at this;cases this
   have:=PC.2 this;omega
  rw[bT,bB,bB,hZ (by simp)];apply Exists.intro;refine go_on _ fun fs hfs=>?_;subst hfs;apply zN;((repeat((conv=>lhs;whnf);simp only[go_sem,simprocAttr,wCheck_c,c5,u1,hso,hL]));try rfl)
 have hL : ¬ 0<(L.length:Int):=by
  have:=hme.2 ((kX K.wth).2 c7);rw[this];simp
 rw[bK,bC];by_cases c8:K.what.kids.length=0
 ·have c8':(K.what.kids.length:Int)=0:=by omega
  have u2:=Zg (S:=[.arr [K.cells] none false,.arr [K.what.sym.cells] none false,.arr [[PV.int .i64 33],[.int .i64 34],[.int .i64 35],[.int .i64 36],[.int .i64 39],[.int .i64 12],[.int .i64 3]] (some (some 1)) true,.arr [[PV.int .i64 13]] (some (some 1)) false]) (id:=3) (ops:=[13]) (k:=1) (ex:=true) K.wth hp.wth (by decide) rfl rfl;rw[bH c8,bC]
  cases c9:K.wth.has (xw [13])
  case true =>
   rw[c9]at u2;rw[bT,bB,hZ (by simp)];apply Exists.intro;refine go_on _ fun fs hfs=>?_;subst hfs;apply zN;((repeat((conv=>lhs;whnf);simp only[go_sem,simprocAttr,wCheck_c,c5,u1,hso,hL,c8',u2]));try rfl)
  rw[c9]at u2;rw[bK,bC];refine⟨Sn,?_⟩;refine go_on _ fun fs hfs=>?_;subst hfs;apply zN;(repeat((conv=>lhs;whnf);simp only[go_sem,simprocAttr,wCheck_c,c5,u1,hso,hL,c8',u2,h2]));exact key
 ·have c8' : ¬(K.what.kids.length:Int)=0:=by omega
  rw[bI c8,bB,bK,bC];refine⟨Sn,?_⟩;refine go_on _ fun fs hfs=>?_;subst hfs;apply zN;(repeat((conv=>lhs;whnf);simp only[go_sem,simprocAttr,wCheck_c,c5,u1,hso,hL,c8',h2]));exact key
theorem zHN (I:List Pr) (hI : ∀p∈I,p.ok) (hl:I.length≤60) (hc : ∀p∈I,p.wth.count≤1000∧p.what.count≤1000) : ∀(m i:Nat),i+m=I.length →
  ∃S',zU 0 ka 0 116 0 [.blk 0,.seq 0 15] [(0,.sl (zS I) false),(13,.sl (zS I) false),(14,.int .i64 I.length),(15,.int .i64 i)] []=some (.int .i64 (if zCZ I m i=true then 0 else 3),S'):=by
 intro m
 induction m with
 | zero =>
  intro i hi;have h1 : ¬(i:Int)<(I.length:Int):=by omega
  apply Exists.intro;apply zC;unfold zCZ;rw[bA rfl];(repeat((conv=>lhs;whnf);simp only[go_sem,simprocAttr,h1]));apply zN;((repeat((conv=>lhs;whnf);simp only[go_sem,simprocAttr]));try rfl)
 | succ m hm =>
  intro i hi;have h1:(i:Int)<(I.length:Int):=by omega
  have h4:0≤(i:Int)∧(i:Int)<(I.length:Int):=⟨by omega,h1⟩;have hpc:=hc _ (vk (I:=I) (i:=i) (by omega));obtain⟨Sn,key⟩:=hm (i+1) (by omega);unfold zCZ okP;generalize hK:I.getD i pr0=K at *;by_cases g10:K.what.op=10
  ·have:=zNk I hI hl i (by omega) K hK hpc.1 _ Sn key g10;rw[g10];exact this
  by_cases g11:K.what.op=11
  ·have:=zNl I hI hl i (by omega) K hK hpc.1 _ Sn key g11;rw[g11];exact this
  by_cases g37:K.what.op=37
  ·have:=zNm I hI hl i (by omega) K hK hpc.1 _ Sn key g37;rw[g37];exact this
  by_cases g38:K.what.op=38
  ·have:=zNn I hI hl i (by omega) K hK hpc.1 _ Sn key g38;rw[g38];exact this
  have hw:vw K.what.op=0:=by
   unfold vw;rw[hZ (by omega),hZ (by omega)]
  have e:decide (vw K.what.op≠0)=false:=by simp[hw]
  rw[e,bB,bB,hZ (by simp)];apply Exists.intro;apply zC;((repeat((conv=>lhs;whnf);simp only[go_sem,simprocAttr,h1,h4,bD,hK,yG,g10,g11,g37,g38]));try rfl)
def qZ (I:List Pr):Int:=if I.length≤40∧zCZ I I.length 0=true then 0 else 3
theorem zC0 (I:List Pr) (hI : ∀p∈I,p.ok) (hl:I.length≤60) (hc : ∀p∈I,p.wth.count≤1000∧p.what.count≤1000):callL Tryz.prog zD 10 [.sl (zS I) false]=some (.int .i64 (qZ I)):=by
 unfold qZ;by_cases h:I.length≤40
 ·have h' : ¬ 40<(I.length:Int):=by omega
  obtain⟨S',k⟩:=zHN I hI hl hc I.length 0 (by omega);have e:(I.length≤40∧zCZ I I.length 0=true)↔zCZ I I.length 0=true:=⟨fun x=>x.2,fun x=>⟨h,x⟩⟩;simp only[e];apply FX.callV ok10_ 1000 rfl rfl
  ·(repeat((conv=>lhs;whnf);simp only[go_sem,simprocAttr,h']));exact k
  ·rfl
 ·have h':40<(I.length:Int):=by omega
  rw[hZ (fun x=>h x.1)];apply FX.callV ok10_ 1000 rfl rfl
  ·((repeat((conv=>lhs;whnf);simp only[go_sem,simprocAttr,h']));try rfl)
  ·rfl
theorem zJo (S:zB) (I:List Pr) (hI : ∀p∈I,p.ok) (hl:I.length≤60) (hc : ∀p∈I,p.wth.count≤1000∧p.what.count≤1000):zO (callL Tryz.prog zD) S 10 [.sl (zS I) false]=some {v:=.int .i64 (qZ I)} := zF (zC0 I hI hl hc) (by simp[zh.sl])
end
end
section
def Y7 (I:List Pr) (i:Nat) (p:Pr):Bool:=(I.take i).any fun q=>decide (p.what.cmp q.what=0)
def uH (p:Pr):Bool:=if p.what.op=10∨p.what.op=11 then decide (p.wth.check 1=0) else if p.what.op=37∨p.what.op=38 then decide (p.wth.check 2=0) && !p.wth.has yi else false
def okR (I:List Pr) (i:Nat) (p:Pr):Bool :=
 p.what.isSymbol&&(decide (p.rates.length=0)&&(!Y7 I i p&&(uH p&&(!p.wth.has yP&&(!p.wth.has (ys 12)&&(!p.wth.has (ys 3) && !(decide (p.what.kids.length=0)&&p.wth.has (ys 13))))))))
def W1 (I:List Pr):Nat→Nat→Bool
 | 0,_=>true
 | m+1,i=>okR I i (I.getD i pr0)&&W1 I m (i+1)
section
attribute [local irreducible] Vs.callL Vs.callRL tyi zO zn zg zR zY za zI zZ zA zK ze zX zG zJ zW zr yJ zq zL zf Vs.gc zH
noncomputable def qf:FX:=⟨Tryz.f11,zD.of 11,[]⟩
instance ok11_:qf.ok 11:=FX.mk'
theorem zC1 (I:List Pr) (hI : ∀p∈I,p.ok) (hl:I.length≤60) (i:Nat) (hi:i<I.length) (fs:List Fr) : ∀(m j:Nat),j+m=i →
  ((((I.take i).drop j).any fun q=>decide ((I.getD i pr0).what.cmp q.what=0))=false→∀z,yB 0 qf 2 fs [(0,.sl (zS I) false),(3,.int .i64 i),(4,.mp 0 0 0),(5,.mp 1 0 0),(6,.undef),(33,.undef)] [.arr [(I.getD i pr0).cells] none false,.arr [(I.getD i pr0).what.cells] none false]=some z →
   zU 0 qf 2 119412 2 fs [(0,.sl (zS I) false),(3,.int .i64 i),(4,.mp 0 0 0),(5,.mp 1 0 0),(6,.int .i64 j)] [.arr [(I.getD i pr0).cells] none false,.arr [(I.getD i pr0).what.cells] none false]=some z) ∧
  ((((I.take i).drop j).any fun q=>decide ((I.getD i pr0).what.cmp q.what=0))=true→∃S',
   zU 0 qf 2 119412 2 fs [(0,.sl (zS I) false),(3,.int .i64 i),(4,.mp 0 0 0),(5,.mp 1 0 0),(6,.int .i64 j)] [.arr [(I.getD i pr0).cells] none false,.arr [(I.getD i pr0).what.cells] none false]=some (.int .i64 3,S')):=by
 intro m
 induction m with
 | zero =>
  intro j hj;have h1 : ¬(j:Int)<(i:Int):=by omega
  have e0:((I.take i).drop j)=[]:=bU (by simp;omega);rw[e0];refine⟨fun _ z hz=>?_,fun h=>by simp at h⟩;apply zC;(repeat((conv=>lhs;whnf);simp only[go_sem,simprocAttr,h1]));exact hz
 | succ m hm =>
  intro j hj;have h1:(j:Int)<(i:Int):=by omega
  have h2:=zi (i:=j) (n:=I.length) (by omega) (by unfold maxLen;omega);have h3:0≤(j:Int)∧(j:Int)<(I.length:Int):=⟨by omega,by omega⟩;have hp:=hI _ (vk (I:=I) (i:=i) hi);have hq:=hI _ (vk (I:=I) (i:=j) (by omega));have hE:=fun S=>zEk S _ _ hp.what hq.what;obtain⟨k1,k2⟩:=hm (j+1) (by omega);rw[WC (I:=I) (i:=i) (j:=j) (by omega) (by omega),BJ];generalize hK:I.getD i pr0=K at *;by_cases c:K.what.cmp (I.getD j pr0).what=0
  ·refine⟨fun h=>by (rw[bH c,pI]at h;cases h),fun _=>?_⟩;apply Exists.intro;apply zC;((repeat((conv=>lhs;whnf);simp only[go_sem,simprocAttr,h1,h2,h3,bD,hE,c]));try rfl)
  ·rw[bI c,bX];refine⟨fun h z hz=>?_,fun h=>?_⟩
   ·apply zC;(repeat((conv=>lhs;whnf);simp only[go_sem,simprocAttr,h1,h2,h3,bD,hE,c]));exact k1 h z hz
   ·obtain⟨S',k⟩:=k2 h;refine⟨S',yv ok11_.good 1000 ?_⟩;(repeat((conv=>lhs;whnf);simp only[go_sem,simprocAttr,h1,h2,h3,bD,hE,c]));exact k
theorem zHO (I:List Pr) (hI : ∀p∈I,p.ok) (hl:I.length≤60) (i:Nat) (hi:i<I.length) (K:Pr) (hK:I.getD i pr0=K) :
  (K.what.isSymbol&&(decide (K.rates.length=0) && !Y7 I i K))=false∧(∃S',zU 0 qf 0 116 0 [.blk 0,.seq 0 15] [(0,.sl (zS I) false),(3,.int .i64 i)] []=some (.int .i64 3,S')) ∨
  (K.what.isSymbol&&(decide (K.rates.length=0) && !Y7 I i K))=true∧∀z,(∀fs,fs=[Fr.blk 2,.seq 1 14927,.blk 1,.seq 0 467,.lop 0 116 0,.blk 0,.seq 0 15]→yB 0 qf 2 fs [(0,.sl (zS I) false),(3,.int .i64 i),(4,.mp 0 0 0),(5,.mp 1 0 0),(6,.undef),(33,.undef)] [.arr [K.cells] none false,.arr [K.what.cells] none false]=some z)→zU 0 qf 0 116 0 [.blk 0,.seq 0 15] [(0,.sl (zS I) false),(3,.int .i64 i)] []=some z:=by
 have h1:(i:Int)<(I.length:Int):=by omega
 have h4:0≤(i:Int)∧(i:Int)<(I.length:Int):=⟨by omega,h1⟩;have hp:K.ok:=hK ▸ hI _ (vk (I:=I) (i:=i) (by omega));have L2:=fun fs=>zC1 I hI hl i (by omega) fs i 0 (by omega);simp only[bY,hK]at L2;have hS:=fun S=>zHF S K.what hp.what
 cases c1:K.what.isSymbol
 ·rw[c1]at hS
  left
  refine⟨by simp,?_⟩;apply Exists.intro;apply zC;((repeat((conv=>lhs;whnf);simp only[go_sem,simprocAttr,h1,h4,bD,hK,yG,zj,hS]));try rfl)
 rw[c1]at hS;by_cases c2:K.rates.length=0
 case neg =>
  have c2':0<(K.rates.length:Int):=by omega
  left
  refine⟨by simp[c2],?_⟩;apply Exists.intro;apply zC;((repeat((conv=>lhs;whnf);simp only[go_sem,simprocAttr,h1,h4,bD,hK,yG,zj,hS,c2']));try rfl)
 have c2' : ¬ 0<(K.rates.length:Int):=by omega
 cases c3:Y7 I i K
 case true =>
  left
  obtain⟨S',k⟩:=(L2 _).2 c3;refine⟨by simp,S',?_⟩;apply zC;(repeat((conv=>lhs;whnf);simp only[go_sem,simprocAttr,h1,h4,bD,hK,yG,zj,hS,c2']));exact k
 right
 refine⟨by simp[c2],fun z hz=>?_⟩;apply zC;(repeat((conv=>lhs;whnf);simp only[go_sem,simprocAttr,h1,h4,bD,hK,yG,zj,hS,c2']));exact (L2 _).1 c3 z (hz _ rfl)
theorem zNo (I:List Pr) (hl:I.length≤60) (i:Nat) (hi:i<I.length) (K:Pr) (hp:K.ok) (hwc:K.wth.count≤1000) (R:Bool) (Sn:zB) (key:zU 0 qf 0 116 0 [.blk 0,.seq 0 15] [(0,.sl (zS I) false),(3,.int .i64 ((i+1:Nat):Int))] []=some (.int .i64 (if R=true then 0 else 3),Sn)) (ho:K.what.op=10) :
  ∃S',yB 0 qf 2 [Fr.blk 2,.seq 1 14927,.blk 1,.seq 0 467,.lop 0 116 0,.blk 0,.seq 0 15] [(0,.sl (zS I) false),(3,.int .i64 i),(4,.mp 0 0 0),(5,.mp 1 0 0),(6,.undef),(33,.undef)] [.arr [K.cells] none false,.arr [K.what.cells] none false]=some (.int .i64 (if ((uH K&&(!K.wth.has yP&&(!K.wth.has (ys 12)&&(!K.wth.has (ys 3) && !(decide (K.what.kids.length=0)&&K.wth.has (ys 13))))))&&R)=true then 0 else 3),S'):=by
 have h2:=zi (i:=i) (n:=I.length) (by omega) (by unfold maxLen;omega);have wch:=fun S s=>qU S K.wth hp.wth (by omega) s;have hsy:=fun S=>Xa S K.wth hp.wth;have hM:=fun S=>VX S K.wth hp.wth;have o12:=fun S=>uR S 12 K.wth hp.wth;have o3:=fun S=>uR S 3 K.wth hp.wth;have o13:=fun S=>uR S 13 K.wth hp.wth;have e:uH K=decide (K.wth.check 1=0):=by unfold uH;rw[bA (by omega)]
 rw[e];clear e;by_cases c5:K.wth.check 1=0
 case neg =>
  rw[bI c5,bB,bB,hZ (by simp)];apply Exists.intro;apply zN;((repeat((conv=>lhs;whnf);simp only[go_sem,simprocAttr,ho,Int.reduceEq,wch,c5]));try rfl)
 rw[bH c5,bC]
 cases c_hsy:K.wth.has yP
 case true =>
  rw[c_hsy]at hsy;rw[bT,bB,bB,hZ (by simp)];apply Exists.intro;apply zN;((repeat((conv=>lhs;whnf);simp only[go_sem,simprocAttr,ho,Int.reduceEq,wch,c5,hsy]));try rfl)
 rw[c_hsy]at hsy;rw[bK,bC]
 cases c_o12:K.wth.has (ys 12)
 case true =>
  rw[c_o12]at o12;rw[bT,bB,bB,hZ (by simp)];apply Exists.intro;apply zN;((repeat((conv=>lhs;whnf);simp only[go_sem,simprocAttr,ho,Int.reduceEq,wch,c5,hsy,o12]));try rfl)
 rw[c_o12]at o12;rw[bK,bC]
 cases c_o3:K.wth.has (ys 3)
 case true =>
  rw[c_o3]at o3;rw[bT,bB,bB,hZ (by simp)];apply Exists.intro;apply zN;((repeat((conv=>lhs;whnf);simp only[go_sem,simprocAttr,ho,Int.reduceEq,wch,c5,hsy,o12,o3]));try rfl)
 rw[c_o3]at o3;rw[bK,bC];by_cases c8:K.what.kids.length=0
 ·have c8':(K.what.kids.length:Int)=0:=by omega
  rw[bH c8,bC]
  cases c9:K.wth.has (ys 13)
  case true =>
   rw[c9]at o13;rw[bT,bB,hZ (by simp)];apply Exists.intro;apply zN;((repeat((conv=>lhs;whnf);simp only[go_sem,simprocAttr,ho,Int.reduceEq,wch,c5,hsy,o12,o3,c8',o13]));try rfl)
  rw[c9]at o13;rw[bK,bC];refine⟨Sn,?_⟩;apply zN;(repeat((conv=>lhs;whnf);simp only[go_sem,simprocAttr,ho,Int.reduceEq,wch,c5,hsy,o12,o3,c8',o13,h2]));exact key
 ·have c8' : ¬(K.what.kids.length:Int)=0:=by omega
  rw[bI c8,bB,bK,bC];refine⟨Sn,?_⟩;apply zN;(repeat((conv=>lhs;whnf);simp only[go_sem,simprocAttr,ho,Int.reduceEq,wch,c5,hsy,o12,o3,c8',h2]));exact key
theorem zNp (I:List Pr) (hl:I.length≤60) (i:Nat) (hi:i<I.length) (K:Pr) (hp:K.ok) (hwc:K.wth.count≤1000) (R:Bool) (Sn:zB) (key:zU 0 qf 0 116 0 [.blk 0,.seq 0 15] [(0,.sl (zS I) false),(3,.int .i64 ((i+1:Nat):Int))] []=some (.int .i64 (if R=true then 0 else 3),Sn)) (ho:K.what.op=11) :
  ∃S',yB 0 qf 2 [Fr.blk 2,.seq 1 14927,.blk 1,.seq 0 467,.lop 0 116 0,.blk 0,.seq 0 15] [(0,.sl (zS I) false),(3,.int .i64 i),(4,.mp 0 0 0),(5,.mp 1 0 0),(6,.undef),(33,.undef)] [.arr [K.cells] none false,.arr [K.what.cells] none false]=some (.int .i64 (if ((uH K&&(!K.wth.has yP&&(!K.wth.has (ys 12)&&(!K.wth.has (ys 3) && !(decide (K.what.kids.length=0)&&K.wth.has (ys 13))))))&&R)=true then 0 else 3),S'):=by
 have h2:=zi (i:=i) (n:=I.length) (by omega) (by unfold maxLen;omega);have wch:=fun S s=>qU S K.wth hp.wth (by omega) s;have hsy:=fun S=>Xa S K.wth hp.wth;have hM:=fun S=>VX S K.wth hp.wth;have o12:=fun S=>uR S 12 K.wth hp.wth;have o3:=fun S=>uR S 3 K.wth hp.wth;have o13:=fun S=>uR S 13 K.wth hp.wth;have e:uH K=decide (K.wth.check 1=0):=by unfold uH;rw[bA (by omega)]
 rw[e];clear e;by_cases c5:K.wth.check 1=0
 case neg =>
  rw[bI c5,bB,bB,hZ (by simp)];apply Exists.intro;apply zN;((repeat((conv=>lhs;whnf);simp only[go_sem,simprocAttr,ho,Int.reduceEq,wch,c5]));try rfl)
 rw[bH c5,bC]
 cases c_hsy:K.wth.has yP
 case true =>
  rw[c_hsy]at hsy;rw[bT,bB,bB,hZ (by simp)];apply Exists.intro;apply zN;((repeat((conv=>lhs;whnf);simp only[go_sem,simprocAttr,ho,Int.reduceEq,wch,c5,hsy]));try rfl)
 rw[c_hsy]at hsy;rw[bK,bC]
 cases c_o12:K.wth.has (ys 12)
 case true =>
  rw[c_o12]at o12;rw[bT,bB,bB,hZ (by simp)];apply Exists.intro;apply zN;((repeat((conv=>lhs;whnf);simp only[go_sem,simprocAttr,ho,Int.reduceEq,wch,c5,hsy,o12]));try rfl)
 rw[c_o12]at o12;rw[bK,bC]
 cases c_o3:K.wth.has (ys 3)
 case true =>
  rw[c_o3]at o3;rw[bT,bB,bB,hZ (by simp)];apply Exists.intro;apply zN;((repeat((conv=>lhs;whnf);simp only[go_sem,simprocAttr,ho,Int.reduceEq,wch,c5,hsy,o12,o3]));try rfl)
 rw[c_o3]at o3;rw[bK,bC];by_cases c8:K.what.kids.length=0
 ·have c8':(K.what.kids.length:Int)=0:=by omega
  rw[bH c8,bC]
  cases c9:K.wth.has (ys 13)
  case true =>
   rw[c9]at o13;rw[bT,bB,hZ (by simp)];apply Exists.intro;apply zN;((repeat((conv=>lhs;whnf);simp only[go_sem,simprocAttr,ho,Int.reduceEq,wch,c5,hsy,o12,o3,c8',o13]));try rfl)
  rw[c9]at o13;rw[bK,bC];refine⟨Sn,?_⟩;apply zN;(repeat((conv=>lhs;whnf);simp only[go_sem,simprocAttr,ho,Int.reduceEq,wch,c5,hsy,o12,o3,c8',o13,h2]));exact key
 ·have c8' : ¬(K.what.kids.length:Int)=0:=by omega
  rw[bI c8,bB,bK,bC];refine⟨Sn,?_⟩;apply zN;(repeat((conv=>lhs;whnf);simp only[go_sem,simprocAttr,ho,Int.reduceEq,wch,c5,hsy,o12,o3,c8',h2]));exact key
theorem zNq (I:List Pr) (hl:I.length≤60) (i:Nat) (hi:i<I.length) (K:Pr) (hp:K.ok) (hwc:K.wth.count≤1000) (R:Bool) (Sn:zB) (key:zU 0 qf 0 116 0 [.blk 0,.seq 0 15] [(0,.sl (zS I) false),(3,.int .i64 ((i+1:Nat):Int))] []=some (.int .i64 (if R=true then 0 else 3),Sn)) (ho:K.what.op=37) :
  ∃S',yB 0 qf 2 [Fr.blk 2,.seq 1 14927,.blk 1,.seq 0 467,.lop 0 116 0,.blk 0,.seq 0 15] [(0,.sl (zS I) false),(3,.int .i64 i),(4,.mp 0 0 0),(5,.mp 1 0 0),(6,.undef),(33,.undef)] [.arr [K.cells] none false,.arr [K.what.cells] none false]=some (.int .i64 (if ((uH K&&(!K.wth.has yP&&(!K.wth.has (ys 12)&&(!K.wth.has (ys 3) && !(decide (K.what.kids.length=0)&&K.wth.has (ys 13))))))&&R)=true then 0 else 3),S'):=by
 have h2:=zi (i:=i) (n:=I.length) (by omega) (by unfold maxLen;omega);have wch:=fun S s=>qU S K.wth hp.wth (by omega) s;have hsy:=fun S=>Xa S K.wth hp.wth;have hM:=fun S=>VX S K.wth hp.wth;have o12:=fun S=>uR S 12 K.wth hp.wth;have o3:=fun S=>uR S 3 K.wth hp.wth;have o13:=fun S=>uR S 13 K.wth hp.wth;have e:uH K=(decide (K.wth.check 2=0) && !K.wth.has yi):=by unfold uH;rw[hZ (by omega),bA (by omega)]
 rw[e];clear e;by_cases c5:K.wth.check 2=0
 case neg =>
  rw[bI c5,bB,bB,bB,hZ (by simp)];apply Exists.intro;apply zN;((repeat((conv=>lhs;whnf);simp only[go_sem,simprocAttr,ho,Int.reduceEq,wch,c5]));try rfl)
 rw[bH c5,bC]
 cases cm:K.wth.has yi
 case true =>
  rw[cm]at hM;rw[bT,bB,bB,hZ (by simp)];apply Exists.intro;apply zN;((repeat((conv=>lhs;whnf);simp only[go_sem,simprocAttr,ho,Int.reduceEq,wch,c5,hM]));try rfl)
 rw[cm]at hM;rw[bK,bC]
 cases c_hsy:K.wth.has yP
 case true =>
  rw[c_hsy]at hsy;rw[bT,bB,bB,hZ (by simp)];apply Exists.intro;apply zN;((repeat((conv=>lhs;whnf);simp only[go_sem,simprocAttr,ho,Int.reduceEq,wch,c5,hM,hsy]));try rfl)
 rw[c_hsy]at hsy;rw[bK,bC]
 cases c_o12:K.wth.has (ys 12)
 case true =>
  rw[c_o12]at o12;rw[bT,bB,bB,hZ (by simp)];apply Exists.intro;apply zN;((repeat((conv=>lhs;whnf);simp only[go_sem,simprocAttr,ho,Int.reduceEq,wch,c5,hM,hsy,o12]));try rfl)
 rw[c_o12]at o12;rw[bK,bC]
 cases c_o3:K.wth.has (ys 3)
 case true =>
  rw[c_o3]at o3;rw[bT,bB,bB,hZ (by simp)];apply Exists.intro;apply zN;((repeat((conv=>lhs;whnf);simp only[go_sem,simprocAttr,ho,Int.reduceEq,wch,c5,hM,hsy,o12,o3]));try rfl)
 rw[c_o3]at o3;rw[bK,bC];by_cases c8:K.what.kids.length=0
 ·have c8':(K.what.kids.length:Int)=0:=by omega
  rw[bH c8,bC]
  cases c9:K.wth.has (ys 13)
  case true =>
   rw[c9]at o13;rw[bT,bB,hZ (by simp)];apply Exists.intro;apply zN;((repeat((conv=>lhs;whnf);simp only[go_sem,simprocAttr,ho,Int.reduceEq,wch,c5,hM,hsy,o12,o3,c8',o13]));try rfl)
  rw[c9]at o13;rw[bK,bC];refine⟨Sn,?_⟩;apply zN;(repeat((conv=>lhs;whnf);simp only[go_sem,simprocAttr,ho,Int.reduceEq,wch,c5,hM,hsy,o12,o3,c8',o13,h2]));exact key
 ·have c8' : ¬(K.what.kids.length:Int)=0:=by omega
  rw[bI c8,bB,bK,bC];refine⟨Sn,?_⟩;apply zN;(repeat((conv=>lhs;whnf);simp only[go_sem,simprocAttr,ho,Int.reduceEq,wch,c5,hM,hsy,o12,o3,c8',h2]));exact key
theorem zNr (I:List Pr) (hl:I.length≤60) (i:Nat) (hi:i<I.length) (K:Pr) (hp:K.ok) (hwc:K.wth.count≤1000) (R:Bool) (Sn:zB) (key:zU 0 qf 0 116 0 [.blk 0,.seq 0 15] [(0,.sl (zS I) false),(3,.int .i64 ((i+1:Nat):Int))] []=some (.int .i64 (if R=true then 0 else 3),Sn)) (ho:K.what.op=38) :
  ∃S',yB 0 qf 2 [Fr.blk 2,.seq 1 14927,.blk 1,.seq 0 467,.lop 0 116 0,.blk 0,.seq 0 15] [(0,.sl (zS I) false),(3,.int .i64 i),(4,.mp 0 0 0),(5,.mp 1 0 0),(6,.undef),(33,.undef)] [.arr [K.cells] none false,.arr [K.what.cells] none false]=some (.int .i64 (if ((uH K&&(!K.wth.has yP&&(!K.wth.has (ys 12)&&(!K.wth.has (ys 3) && !(decide (K.what.kids.length=0)&&K.wth.has (ys 13))))))&&R)=true then 0 else 3),S'):=by
 have h2:=zi (i:=i) (n:=I.length) (by omega) (by unfold maxLen;omega);have wch:=fun S s=>qU S K.wth hp.wth (by omega) s;have hsy:=fun S=>Xa S K.wth hp.wth;have hM:=fun S=>VX S K.wth hp.wth;have o12:=fun S=>uR S 12 K.wth hp.wth;have o3:=fun S=>uR S 3 K.wth hp.wth;have o13:=fun S=>uR S 13 K.wth hp.wth;have e:uH K=(decide (K.wth.check 2=0) && !K.wth.has yi):=by unfold uH;rw[hZ (by omega),bA (by omega)]
 rw[e];clear e;by_cases c5:K.wth.check 2=0
 case neg =>
  rw[bI c5,bB,bB,bB,hZ (by simp)];apply Exists.intro;apply zN;((repeat((conv=>lhs;whnf);simp only[go_sem,simprocAttr,ho,Int.reduceEq,wch,c5]));try rfl)
 rw[bH c5,bC]
 cases cm:K.wth.has yi
 case true =>
  rw[cm]at hM;rw[bT,bB,bB,hZ (by simp)];apply Exists.intro;apply zN;((repeat((conv=>lhs;whnf);simp only[go_sem,simprocAttr,ho,Int.reduceEq,wch,c5,hM]));try rfl)
 rw[cm]at hM;rw[bK,bC]
 cases c_hsy:K.wth.has yP
 case true =>
  rw[c_hsy]at hsy;rw[bT,bB,bB,hZ (by simp)];apply Exists.intro;apply zN;((repeat((conv=>lhs;whnf);simp only[go_sem,simprocAttr,ho,Int.reduceEq,wch,c5,hM,hsy]));try rfl)
 rw[c_hsy]at hsy;rw[bK,bC]
 cases c_o12:K.wth.has (ys 12)
 case true =>
  rw[c_o12]at o12;rw[bT,bB,bB,hZ (by simp)];apply Exists.intro;apply zN;((repeat((conv=>lhs;whnf);simp only[go_sem,simprocAttr,ho,Int.reduceEq,wch,c5,hM,hsy,o12]));try rfl)
 rw[c_o12]at o12;rw[bK,bC]
 cases c_o3:K.wth.has (ys 3)
 case true =>
  rw[c_o3]at o3;rw[bT,bB,bB,hZ (by simp)];apply Exists.intro;apply zN;((repeat((conv=>lhs;whnf);simp only[go_sem,simprocAttr,ho,Int.reduceEq,wch,c5,hM,hsy,o12,o3]));try rfl)
 rw[c_o3]at o3;rw[bK,bC];by_cases c8:K.what.kids.length=0
 ·have c8':(K.what.kids.length:Int)=0:=by omega
  rw[bH c8,bC]
  cases c9:K.wth.has (ys 13)
  case true =>
   rw[c9]at o13;rw[bT,bB,hZ (by simp)];apply Exists.intro;apply zN;((repeat((conv=>lhs;whnf);simp only[go_sem,simprocAttr,ho,Int.reduceEq,wch,c5,hM,hsy,o12,o3,c8',o13]));try rfl)
  rw[c9]at o13;rw[bK,bC];refine⟨Sn,?_⟩;apply zN;(repeat((conv=>lhs;whnf);simp only[go_sem,simprocAttr,ho,Int.reduceEq,wch,c5,hM,hsy,o12,o3,c8',o13,h2]));exact key
 ·have c8' : ¬(K.what.kids.length:Int)=0:=by omega
  rw[bI c8,bB,bK,bC];refine⟨Sn,?_⟩;apply zN;(repeat((conv=>lhs;whnf);simp only[go_sem,simprocAttr,ho,Int.reduceEq,wch,c5,hM,hsy,o12,o3,c8',h2]));exact key
theorem zEv (I:List Pr) (hI : ∀p∈I,p.ok) (hl:I.length≤60) (hc : ∀p∈I,p.wth.count≤1000∧p.what.count≤1000) : ∀(m i:Nat),i+m=I.length →
  ∃S',zU 0 qf 0 116 0 [.blk 0,.seq 0 15] [(0,.sl (zS I) false),(3,.int .i64 i)] []=some (.int .i64 (if W1 I m i=true then 0 else 3),S'):=by
 intro m
 induction m with
 | zero =>
  intro i hi;have h1 : ¬(i:Int)<(I.length:Int):=by omega
  apply Exists.intro;apply zC;unfold W1;rw[bA rfl];(repeat((conv=>lhs;whnf);simp only[go_sem,simprocAttr,h1]));apply zN;((repeat((conv=>lhs;whnf);simp only[go_sem,simprocAttr]));try rfl)
 | succ m hm =>
  intro i hi;have hpc:=hc _ (vk (I:=I) (i:=i) (by omega));obtain⟨Sn,key⟩:=hm (i+1) (by omega);have hpk:=hI _ (vk (I:=I) (i:=i) (by omega));have pre:=zHO I hI hl i (by omega) _ rfl;unfold W1 okR;generalize hK:I.getD i pr0=K at *;have asoc:(K.what.isSymbol&&(decide (K.rates.length=0)&&(!Y7 I i K&&(uH K&&(!K.wth.has yP&&(!K.wth.has (ys 12)&&(!K.wth.has (ys 3) && !(decide (K.what.kids.length=0)&&K.wth.has (ys 13))))))))&&W1 I m (i+1)) =
    ((K.what.isSymbol&&(decide (K.rates.length=0) && !Y7 I i K))&&((uH K&&(!K.wth.has yP&&(!K.wth.has (ys 12)&&(!K.wth.has (ys 3) && !(decide (K.what.kids.length=0)&&K.wth.has (ys 13))))))&&W1 I m (i+1))):=by simp only[Bool.and_assoc]
  rw[asoc]
  rcases pre with⟨p1,S',p2⟩ | ⟨p1,p2⟩
  ·rw[p1,bB,hZ (by simp)];exact⟨S',p2⟩
  rw[p1,bC];by_cases g10:K.what.op=10
  ·obtain⟨S',k⟩:=zNo I hl i (by omega) K hpk hpc.1 _ Sn key g10;exact⟨S',p2 _ fun fs hfs=>hfs ▸ k⟩
  by_cases g11:K.what.op=11
  ·obtain⟨S',k⟩:=zNp I hl i (by omega) K hpk hpc.1 _ Sn key g11;exact⟨S',p2 _ fun fs hfs=>hfs ▸ k⟩
  by_cases g37:K.what.op=37
  ·obtain⟨S',k⟩:=zNq I hl i (by omega) K hpk hpc.1 _ Sn key g37;exact⟨S',p2 _ fun fs hfs=>hfs ▸ k⟩
  by_cases g38:K.what.op=38
  ·obtain⟨S',k⟩:=zNr I hl i (by omega) K hpk hpc.1 _ Sn key g38;exact⟨S',p2 _ fun fs hfs=>hfs ▸ k⟩
  have e:uH K=false:=by unfold uH;rw[hZ (by omega),hZ (by omega)]
  rw[e,bB,bB,hZ (by simp)];apply Exists.intro;refine p2 _ fun fs hfs=>?_;subst hfs;apply zN;((repeat((conv=>lhs;whnf);simp only[go_sem,simprocAttr,g10,g11,g37,g38]));try rfl)
def qa (I:List Pr):Int:=if I.length≤40∧W1 I I.length 0=true then 0 else 3
theorem zEw (I:List Pr) (hI : ∀p∈I,p.ok) (hl:I.length≤60) (hc : ∀p∈I,p.wth.count≤1000∧p.what.count≤1000):callL Tryz.prog zD 11 [.sl (zS I) false]=some (.int .i64 (qa I)):=by
 unfold qa;by_cases h:I.length≤40
 ·have h' : ¬ 40<(I.length:Int):=by omega
  obtain⟨S',k⟩:=zEv I hI hl hc I.length 0 (by omega);have e:(I.length≤40∧W1 I I.length 0=true)↔W1 I I.length 0=true:=⟨fun x=>x.2,fun x=>⟨h,x⟩⟩;simp only[e];apply FX.callV ok11_ 1000 rfl rfl
  ·(repeat((conv=>lhs;whnf);simp only[go_sem,simprocAttr,h']));exact k
  ·rfl
 ·have h':40<(I.length:Int):=by omega
  rw[hZ (fun x=>h x.1)];apply FX.callV ok11_ 1000 rfl rfl
  ·((repeat((conv=>lhs;whnf);simp only[go_sem,simprocAttr,h']));try rfl)
  ·rfl
theorem V4 (S:zB) (I:List Pr) (hI : ∀p∈I,p.ok) (hl:I.length≤60) (hc : ∀p∈I,p.wth.count≤1000∧p.what.count≤1000):zO (callL Tryz.prog zD) S 11 [.sl (zS I) false]=some {v:=.int .i64 (qa I)} := zF (zEw I hI hl hc) (by simp[zh.sl])
end
end
end Go.Vs

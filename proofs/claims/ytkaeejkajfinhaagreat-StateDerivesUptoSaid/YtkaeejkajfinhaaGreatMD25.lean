
import Derived.Test.YtkaeejkajfinhaaGreatMD24
set_option linter.unusedVariables false
set_option linter.unusedSimpArgs false
set_option maxRecDepth 100000
namespace Go.Vs
open Go Go.Proofs
structure Tm (n:Node):Prop where
 op:1≤n.op∧n.op≤13
 kids : ∀k∈n.kids,zv k.op=1∧∃a b c,k.formed a b c=true
 len:n.kids.length=(yU n.op n.kids.length).length
 num:n.op=1→vt n.neg n.num n.den=true
 nm:n.op=2∨n.op=3→yQ n.name=true
 fn:n.op=10→n.kids.length≤1
 tail:xF n.op n.kids=true
theorem zIY {n:Node} (hs:zv n.op=1) {a b c:Bool} (h:n.formed a b c=true):Tm n:=by
 have ho:=Z4 hs;rw[Node.formed_eq]at h;simp only[bP,bR]at h;obtain⟨h1,h2,h3,h4,h5⟩:=h;refine⟨ho,fun k hk=>?_,h3,fun e=>?_,fun e=>?_,fun e=>?_,h5⟩
 ·obtain⟨k1,k2⟩:=qV _ _ _ _ _ h4 h3 (qN ho _) k hk;exact⟨k1,_,_,_,k2⟩
 ·unfold uq at h1;rw[bA e]at h1;simp only[bP]at h1;exact h1.1
 ·unfold uq at h1;simp only[bP]at h1;have hh:yS n.op=true:=by
   unfold yS
   rcases e with e | e <;> rw[e] <;> decide
  have:=h1.2;rw[hh]at this;simp only[bC,bT,bB,pJ,Bool.not_not]at this;exact this
 ·unfold wU at h2;rw[bA (.inl e)]at h2;simp only[bP,bR]at h2;exact h2.2
theorem Tm.two {n:Node} (h:Tm n) (ho:5≤n.op∧n.op≤9):n.kids.length=2:=by
 have:=h.len;unfold yU zP at this;rw[hZ (by omega),hZ (by omega),hZ (by omega),hZ (by omega),hZ (by omega),bA (by omega)]at this;exact this
theorem Tm.one {n:Node} (h:Tm n) (ho:n.op=4∨n.op=12):n.kids.length=1:=by
 have:=h.len;unfold yU zP at this;rw[hZ (by omega),hZ (by omega),bA ho]at this;exact this
theorem Tm.none {n:Node} (h:Tm n) (ho:n.op=11):n.kids.length=0:=by
 have:=h.len;unfold yU zP at this;rw[ho]at this
 simpa using this
theorem Tm.div {n:Node} (h:Tm n) (ho:n.op=8):vt (n.kids.getD 1 nd0).neg (n.kids.getD 1 nd0).num (n.kids.getD 1 nd0).den=true∧(n.kids.getD 1 nd0).num.length≠0:=by
 have ht:=h.tail;have h2:=h.two (by omega);unfold xF at ht;rw[bA ho]at ht;simp only[bP,bR]at ht;obtain⟨k1,a,b,c,k2⟩:=h.kids _ (yA (l:=n.kids) (i:=1) (by omega));exact⟨(zIY k1 k2).num ht.1,by omega⟩
theorem Tm.pow {n:Node} (h:Tm n) (hn:n.ok) (ho:n.op=9):0≤vg (n.kids.getD 1 nd0).num 20∧vg (n.kids.getD 1 nd0).num 20≤20:=by
 have ht:=h.tail;have h2:=h.two (by omega);unfold xF at ht;rw[hZ (by omega),bA ho]at ht;simp only[bP,HD,bR]at ht;have hk:=hn.kids _ (yA (l:=n.kids) (i:=1) (by omega));unfold vg
 rcases ht.2 with h0 | ⟨h1,h3⟩
 ·rw[bA h0];omega
 ·rw[hZ (by omega),hZ (by omega)];have:=hk.val.n.getD (by decide) 0;have e:(n.kids.getD 1 nd0).val.num=(n.kids.getD 1 nd0).num:=rfl;rw[e]at this;omega
theorem zAh : ∀ {l:List Node} {k s:Node},k∈l→s∈k.syms→s∈Node.symss l
 | [],k,s,h,_=>by cases h
 | n::r,k,s,h,hs=>by
  show s∈n.syms++Node.symss r
  rcases aF.1 h with rfl | h
  ·exact ST _ hs
  ·exact SO _ (zAh h hs)
theorem zFO {n k s:Node} (h:k∈n.kids) (hs:s∈k.syms):s∈n.syms:=by
 rw[Node.syms_eq];exact SO _ (zAh h hs)
theorem Xi {n:Node} (h:yP n.op=true):n.sym∈n.syms:=by
 rw[Node.syms_eq,bA h];simp
theorem Tm.head {n:Node} (h:Tm n) (ho:n.op=10∨n.op=11):n.head=n.sym:=by
 rcases ho with e | e
 ·exact (Xc (.inl e)).symm
 ·rw[qp (.inl e)];unfold Node.head;rw[hZ (by rw[h.none e];simp)]
theorem Jm {B:Nat} {L:List Bd} {I:List Pr} (h:RC B L I) (sy:Node→DV→Bool→Option DV) : ∀n:Node,n.ok→zv n.op=1→(∃a b c,n.formed a b c=true)→(∀s∈n.syms,∃w,jc I s=some w∧EvR B L I (sy s) w)→EvR B L I (n.ev B L sy) n:=by
 refine Node.ind' fun n ih hn hs hf hsy=>?_;obtain⟨a,b,c,hf⟩:=hf;have tm:=zIY hs hf;have kid : ∀i,i<n.kids.length→EvR B L I ((n.kids.getD i nd0).ev B L sy) (n.kids.getD i nd0):=by
  intro i hi;have hm:=yA hi;obtain⟨k1,k2⟩:=tm.kids _ hm;exact ih _ hm (hn.kids _ hm) k1 k2 fun s h=>hsy s (zFO hm h)
 obtain⟨o1,o2⟩:=tm.op
 rcases Int.lt_or_le n.op 4 with c4 | c4
 ·by_cases e1:n.op=1
  ·exact zMG h sy n hn e1 (tm.num e1)
  by_cases e2:n.op=2
  ·exact zMI h sy n hn e2 (tm.nm (.inl e2))
  have e3:n.op=3:=by omega
  exact zHY h sy n hn e3 (tm.nm (.inr e3))
 by_cases e4:n.op=4
 ·have l:=tm.one (.inl e4);exact zMJ h sy n hn e4 (by omega) (kid 0 (by omega))
 by_cases e12:n.op=12
 ·have l:=tm.one (.inr e12);exact zJw h sy n hn e12 (by omega) (kid 0 (by omega))
 by_cases e13:n.op=13
 ·exact zMH h sy n hn e13
 by_cases e10:n.op=10
 ·obtain⟨w,hw,kw⟩:=hsy _ (Xi (by rw[e10];rfl));exact zHZ h sy n hn e10 (tm.head (.inl e10)) (kid 0) hw kw
 by_cases e11:n.op=11
 ·obtain⟨w,hw,kw⟩:=hsy _ (Xi (by rw[e11];rfl));exact zH0 h sy n hn e11 (tm.head (.inr e11)) (kid 0) hw kw
 have l:=tm.two (by omega);have k0:=kid 0 (by omega);have k1:=kid 1 (by omega);by_cases e5:n.op=5
 ·exact zMK h sy n hn e5 (by omega) k0 (by omega) k1
 by_cases e6:n.op=6
 ·exact zMM h sy n hn e6 (by omega) k0 (by omega) k1
 by_cases e7:n.op=7
 ·exact zML h sy n hn e7 (by omega) k0 (by omega) k1
 by_cases e8:n.op=8
 ·obtain⟨d1,d2⟩:=tm.div e8;exact zMN h sy n hn e8 (by omega) k0 (by omega) d1 d2
 have e9:n.op=9:=by omega
 exact zMQ h sy n hn e9 (by omega) k0 (by omega) (tm.pow hn e9)
structure GoodI (I:List Pr):Prop where
 term : ∀p∈I,p.what.op=10∨p.what.op=11→zv p.wth.op=1∧p.wth.formed false false false=true
 form : ∀p∈I,p.what.op=37∨p.what.op=38→zv p.wth.op=2∧p.wth.formed false false false=true
 syms : ∀p∈I,p.wth.syms=[]
 plain : ∀p∈I,p.wth.has (ys 12)=false∧p.wth.has (ys 3)=false∧p.wth.has yi=false
 kind : ∀p∈I,p.what.op=10∨p.what.op=11∨p.what.op=37∨p.what.op=38
 dot : ∀p∈I,p.what.kids.length=0→p.wth.has (ys 13)=false
theorem zIZ {I:List Pr} : ∀ {m i:Nat},W1 I m i=true→∀j,i≤j→j<i+m→okR I j (I.getD j pr0)=true
 | 0,i,_,j,h1,h2=>by omega
 | m+1,i,h,j,h1,h2=>by
  simp only[W1,bP]at h;by_cases e:j=i
  ·subst e;exact h.1
  ·exact zIZ h.2 j (by omega) (by omega)
theorem Vc {I:List Pr} (h:qa I=0):GoodI I:=by
 unfold qa at h;have h0:I.length≤40∧W1 I I.length 0=true:=by
  by_cases c:I.length≤40∧W1 I I.length 0=true
  ·exact c
  ·rw[hZ c]at h;cases h
 have key : ∀p∈I,∃j,okR I j p=true:=by
  intro p hp;obtain⟨j,hj,rfl⟩:=List.mem_iff_getElem.1 hp;have:=zIZ h0.2 j (by omega) (by omega);rw[bM,pR hj,BM]at this;exact⟨j,this⟩
 have all : ∀p∈I,uH p=true∧p.wth.has yP=false∧p.wth.has (ys 12)=false∧p.wth.has (ys 3)=false∧(p.what.kids.length=0→p.wth.has (ys 13)=false):=by
  intro p hp;obtain⟨j,hj⟩:=key p hp;unfold okR at hj;simp only[bP,BI,Bool.and_eq_false_iff,decide_eq_false_iff_not]at hj;obtain⟨_,_,_,g1,g2,g3,g4,g5⟩:=hj;refine⟨g1,g2,g3,g4,fun e=>?_⟩
  rcases g5 with g | g
  ·exact absurd e g
  ·exact g
 have kind : ∀p∈I,p.what.op=10∨p.what.op=11∨p.what.op=37∨p.what.op=38:=by
  intro p hp;have:=(all p hp).1;unfold uH at this;by_cases c:p.what.op=10∨p.what.op=11
  ·omega
  ·rw[hZ c]at this;by_cases c2:p.what.op=37∨p.what.op=38
   ·omega
   ·rw[hZ c2]at this;cases this
 have term : ∀p∈I,p.what.op=10∨p.what.op=11→zv p.wth.op=1∧p.wth.formed false false false=true:=by
  intro p hp c;have:=(all p hp).1;unfold uH at this;rw[bA c,bR]at this;exact (uu this).2
 have form : ∀p∈I,p.what.op=37∨p.what.op=38→(zv p.wth.op=2∧p.wth.formed false false false=true)∧p.wth.has yi=false:=by
  intro p hp c;have:=(all p hp).1;unfold uH at this;rw[hZ (by omega),bA c,bP,bR,BI]at this;exact⟨(uu this.1).2,this.2⟩
 refine⟨term,fun p hp c=>(form p hp c).1,fun p hp=>(kX _).2 (all p hp).2.1,fun p hp=>⟨(all p hp).2.2.1,(all p hp).2.2.2.1,?_⟩,kind,fun p hp=>(all p hp).2.2.2.2⟩;by_cases c:p.what.op=10∨p.what.op=11
 ·obtain⟨t1,t2⟩:=term p hp c;exact ZB _ _ _ _ t2 t1
 ·exact (form p hp (by have:=kind p hp;omega)).2
section
theorem zH1 {I:List Pr} {j:Nat} (h:j<I.length) (s:Node):known (I.drop j) s=(decide ((I.getD j pr0).what.cmp s=0)||known (I.drop (j+1)) s):=by
 rw[V3 h];rfl
section
attribute [local irreducible] Vs.callL Vs.callRL tyi zO zn zg zR zY za zI zZ zA zK ze zX zG zJ zW zr yJ zq zL zf Vs.gc zH
noncomputable def zI0:FX:=⟨Tryz.f96,zD.of 96,[]⟩
instance ok96_:zI0.ok 96:=FX.mk'
theorem zFP (I:List Pr) (hI : ∀p∈I,p.ok) (hl:I.length≤60) (s:Node) (hs:s.ok) (n:Node) (sr:List (List PV)) (sx:Bool) (len i:Int) (fs:List Fr) : ∀(m j:Nat),j+m=I.length→∀(acc:Bool) (z:PV × zB),
  yB 0 zI0 2 fs [(1,.sl (zS I) false),(6,.undef),(7,.bool (acc||known (I.drop j) s)),(14,.sl sr sx),(15,.int .i64 len),(16,.int .i64 i),(20,.undef),(21,.undef),(22,.undef),(23,.undef)] [.arr [n.cells] none false,.arr [[PV.int .i64 13]] (some (some 1)) true,.arr [s.cells] none false]=some z →
  zU 0 zI0 2 119604 3 fs [(1,.sl (zS I) false),(6,.mp 2 0 0),(7,.bool acc),(14,.sl sr sx),(15,.int .i64 len),(16,.int .i64 i),(20,.sl (zS I) false),(21,.int .i64 I.length),(22,.int .i64 j)] [.arr [n.cells] none false,.arr [[PV.int .i64 13]] (some (some 1)) true,.arr [s.cells] none false]=some z:=by
 intro m
 induction m with
 | zero =>
  intro j hj acc z hz;have h1 : ¬(j:Int)<(I.length:Int):=by omega
  rw[bU (by omega)]at hz;have e:known [] s=false:=rfl;rw[e,pJ]at hz;apply zC;(repeat((conv=>lhs;whnf);simp only[go_sem,simprocAttr,h1]));exact hz
 | succ m hm =>
  intro j hj acc z hz;have h1:(j:Int)<(I.length:Int):=by omega
  have h2:=zi (i:=j) (n:=I.length) (by omega) (by unfold maxLen;omega);have h4:0≤(j:Int)∧(j:Int)<(I.length:Int):=⟨by omega,h1⟩;have hp:=hI _ (vk (I:=I) (i:=j) (by omega));have hE:=fun S=>jZ S _ s hp.what hs;rw[zH1 (by omega),←Bool.or_assoc]at hz;have key:=hm (j+1) (by omega) _ z hz;cases acc
  ·rw[bX]at key;apply zC;(repeat((conv=>lhs;whnf);simp only[go_sem,simprocAttr,h1,h2,h4,bD,hE,yG]));exact key
  ·rw[pI]at key;apply zC;(repeat((conv=>lhs;whnf);simp only[go_sem,simprocAttr,h1,h2,h4,bD,yG]));exact key
theorem zH2 (I:List Pr) (hI : ∀p∈I,p.ok) (hl:I.length≤60) (n:Node) (Ls:List Node) (ex:Bool) (hLs : ∀m∈Ls,m.ok) (hll:Ls.length≤1000000) : ∀(m i:Nat),i+m=Ls.length →
  ∃S',zU 0 zI0 0 116 2 [.blk 0,.seq 0 15] [(1,.sl (zS I) false),(14,.sl (Node.rows Ls) ex),(15,.int .i64 Ls.length),(16,.int .i64 i)] [.arr [n.cells] none false,.arr [[PV.int .i64 13]] (some (some 1)) true]=some (.int .i64 (if (Ls.drop i).all (known I)=true then 0 else 110),S'):=by
 intro m
 induction m with
 | zero =>
  intro i hi;have h1 : ¬(i:Int)<(Ls.length:Int):=by omega
  rw[bU (by omega),BP,bA rfl];apply Exists.intro;apply zC;(repeat((conv=>lhs;whnf);simp only[go_sem,simprocAttr,h1]));apply zN;((repeat((conv=>lhs;whnf);simp only[go_sem,simprocAttr]));try rfl)
 | succ m hm =>
  intro i hi;have h1:(i:Int)<(Ls.length:Int):=by omega
  have h2:IntKind.i64.wrap ((i:Int)+1)=((i+1:Nat):Int):=by rw[bE];omega
  have h4:0≤(i:Int)∧(i:Int)<(Ls.length:Int):=⟨by omega,h1⟩;have hs:=hLs _ (yA (l:=Ls) (i:=i) (by omega));obtain⟨S',key⟩:=hm (i+1) (by omega);rw[xO (by omega),HY];have L2:=fun fs=>zFP I hI hl _ hs n (Node.rows Ls) ex Ls.length i fs I.length 0 (by omega) false;simp only[bY,bX]at L2
  cases e:known I (Ls.getD i nd0)
  ·rw[e]at L2;rw[bB,hZ (by simp)];apply Exists.intro;apply zC;(repeat((conv=>lhs;whnf);simp only[go_sem,simprocAttr,h1,h4,bD,zj]));apply L2;apply zN;((repeat((conv=>lhs;whnf);simp only[go_sem,simprocAttr]));try rfl)
  ·rw[e]at L2;rw[bC];refine⟨S',?_⟩;apply zC;(repeat((conv=>lhs;whnf);simp only[go_sem,simprocAttr,h1,h4,bD,zj]));apply L2;apply zN;(repeat((conv=>lhs;whnf);simp only[go_sem,simprocAttr,h2]));exact key
def Jn (I:List Pr) (n:Node):Int:=if (!n.has (xw [13])&&n.syms.all (known I))=true then 0 else 110
theorem zH3 (I:List Pr) (hI : ∀p∈I,p.ok) (hl:I.length≤60) (n:Node) (hn:n.ok) (hc:n.count≤100000):callL Tryz.prog zD 96 [.agg n.cells,.sl (zS I) false]=some (.int .i64 (Jn I n)):=by
 have u:=Zg (S:=[.arr [n.cells] none false,.arr [[PV.int .i64 13]] (some (some 1)) false]) (id:=1) (ops:=[13]) (k:=1) (ex:=true) n hn (by decide) rfl rfl;obtain⟨Ls,ex,so,sok,smem,slen⟩:=zEs n hn hc;unfold Jn
 cases e:n.has (xw [13])
 ·rw[e]at u;have ea:n.syms.all (known I)=Ls.all (known I):=by
   rw[Bool.eq_iff_iff,pH,pH];exact⟨fun h x hx=>h x ((smem x).1 hx),fun h x hx=>h x ((smem x).2 hx)⟩
  obtain⟨S',key⟩:=zH2 I hI hl n Ls ex sok (by omega) Ls.length 0 (by omega);rw[bY]at key;rw[bK,bC,ea];apply FX.callV ok96_ 1000 rfl rfl
  ·(repeat((conv=>lhs;whnf);simp only[go_sem,simprocAttr,u,so]));exact key
  ·rfl
 ·rw[e]at u;rw[bT,bB,hZ (by simp)];apply FX.callV ok96_ 1000 rfl rfl
  ·((repeat((conv=>lhs;whnf);simp only[go_sem,simprocAttr,u]));try rfl)
  ·rfl
end
end
section
theorem zCb:(tyi Tryz.prog 89).d=.struct [(0,3,true),(3,3,true)]:=by kernel_rfl
@[go_sem] theorem zOE:(tyi Tryz.prog 89).size=6:=nr (by kernel_rfl)
@[go_sem] theorem zMR:(tyi Tryz.prog 89).known=true:=nr (by kernel_rfl)
@[go_sem] theorem zI1:(tyi Tryz.prog 89).zero=some [.bool false,.sl [] true,.sl [] true,.bool false,.sl [] true,.sl [] true]:=nr (by kernel_rfl)
@[go_sem] theorem zSl (n:Nat):zW (tyi Tryz.prog 89) n=some {v:=.mp n 0 0,new:=some ([[.bool false,.sl [] true,.sl [] true,.bool false,.sl [] true,.sl [] true]],none)} := nr (by unfold zW;rw[zI1];rfl)
@[go_sem] theorem zSm (l:List (Nat × PV)):zX Tryz.prog 89 l=(qd [(0,3,true),(3,3,true)] [.bool false,.sl [] true,.sl [] true,.bool false,.sl [] true,.sl [] true] l).map .agg:=nr (by unfold zX;rw[zCb];dsimp only;unfold ze;rw[zCb,zI1];rfl)
theorem zMS (row:List PV):part (tyi Tryz.prog 89) row=if 6≤row.length then some (.agg (row.take 6)) else none:=by simp[part,zMR,TI.isAgg,zCb,zOE]
@[go_sem] theorem zUS (id i off:Nat):zA (tyi Tryz.prog 89) 0 (.mp id i off)=some (.mp id i (off+0)):=by simp[zA,zCb]
@[go_sem] theorem zUT (r:List PV):zA (tyi Tryz.prog 89) 0 (.cp r)=some (.cp (r.drop 0)):=by simp[zA,zCb]
@[go_sem] theorem zUU (cs:List PV):zK (tyi Tryz.prog 89) 0 (.agg cs)=if 0+3≤cs.length then some (.agg ((cs.drop 0).take 3)) else none:=by simp[zK,zCb]
@[go_sem] theorem zUV (id i off:Nat):zA (tyi Tryz.prog 89) 1 (.mp id i off)=some (.mp id i (off+3)):=by simp[zA,zCb]
@[go_sem] theorem zUW (r:List PV):zA (tyi Tryz.prog 89) 1 (.cp r)=some (.cp (r.drop 3)):=by simp[zA,zCb]
@[go_sem] theorem zUX (cs:List PV):zK (tyi Tryz.prog 89) 1 (.agg cs)=if 3+3≤cs.length then some (.agg ((cs.drop 3).take 3)) else none:=by simp[zK,zCb]
theorem jl:(tyi Tryz.prog 91).d=.struct [(0,1,false),(1,1,false),(2,6,true),(8,1,false),(9,1,false)]:=by kernel_rfl
@[go_sem] theorem zMT:(tyi Tryz.prog 91).size=10:=nr (by kernel_rfl)
@[go_sem] theorem zJx:(tyi Tryz.prog 91).known=true:=nr (by kernel_rfl)
@[go_sem] theorem zMU:(tyi Tryz.prog 91).zero=some [.sl [] true,.sl [] true,.bool false,.sl [] true,.sl [] true,.bool false,.sl [] true,.sl [] true,.bool false,.bool false]:=nr (by kernel_rfl)
@[go_sem] theorem zQw (l:List (Nat × PV)):zX Tryz.prog 91 l=(qd [(0,1,false),(1,1,false),(2,6,true),(8,1,false),(9,1,false)] [.sl [] true,.sl [] true,.bool false,.sl [] true,.sl [] true,.bool false,.sl [] true,.sl [] true,.bool false,.bool false] l).map .agg:=nr (by unfold zX;rw[jl];dsimp only;unfold ze;rw[jl,zMU];rfl)
theorem zJy (row:List PV):part (tyi Tryz.prog 91) row=if 10≤row.length then some (.agg (row.take 10)) else none:=by simp[part,zJx,TI.isAgg,jl,zMT]
@[go_sem] theorem zSn (id i off:Nat):zA (tyi Tryz.prog 91) 0 (.mp id i off)=some (.mp id i (off+0)):=by simp[zA,jl]
@[go_sem] theorem zSo (r:List PV):zA (tyi Tryz.prog 91) 0 (.cp r)=some (.cp (r.drop 0)):=by simp[zA,jl]
@[go_sem] theorem zSp (cs:List PV):zK (tyi Tryz.prog 91) 0 (.agg cs)=cs[0]? := by simp[zK,jl]
@[go_sem] theorem zSq (id i off:Nat):zA (tyi Tryz.prog 91) 1 (.mp id i off)=some (.mp id i (off+1)):=by simp[zA,jl]
@[go_sem] theorem zSr (r:List PV):zA (tyi Tryz.prog 91) 1 (.cp r)=some (.cp (r.drop 1)):=by simp[zA,jl]
@[go_sem] theorem zSs (cs:List PV):zK (tyi Tryz.prog 91) 1 (.agg cs)=cs[1]? := by simp[zK,jl]
@[go_sem] theorem zSt (id i off:Nat):zA (tyi Tryz.prog 91) 2 (.mp id i off)=some (.mp id i (off+2)):=by simp[zA,jl]
@[go_sem] theorem zSu (r:List PV):zA (tyi Tryz.prog 91) 2 (.cp r)=some (.cp (r.drop 2)):=by simp[zA,jl]
@[go_sem] theorem zSv (cs:List PV):zK (tyi Tryz.prog 91) 2 (.agg cs)=if 2+6≤cs.length then some (.agg ((cs.drop 2).take 6)) else none:=by simp[zK,jl]
@[go_sem] theorem zSw (id i off:Nat):zA (tyi Tryz.prog 91) 3 (.mp id i off)=some (.mp id i (off+8)):=by simp[zA,jl]
@[go_sem] theorem zSx (r:List PV):zA (tyi Tryz.prog 91) 3 (.cp r)=some (.cp (r.drop 8)):=by simp[zA,jl]
@[go_sem] theorem zSy (cs:List PV):zK (tyi Tryz.prog 91) 3 (.agg cs)=cs[8]? := by simp[zK,jl]
@[go_sem] theorem zSz (id i off:Nat):zA (tyi Tryz.prog 91) 4 (.mp id i off)=some (.mp id i (off+9)):=by simp[zA,jl]
@[go_sem] theorem zTA (r:List PV):zA (tyi Tryz.prog 91) 4 (.cp r)=some (.cp (r.drop 9)):=by simp[zA,jl]
@[go_sem] theorem zTB (cs:List PV):zK (tyi Tryz.prog 91) 4 (.agg cs)=cs[9]? := by simp[zK,jl]
attribute [go_sem] zMS zJy
theorem zCc {P:zB} {N:Nat} (h:P.length=N) (A:zB) (n:Nat):zl (P++A) (N+n)=zl A n:=by
 subst h;unfold zl;rw[pA (by omega),aN]
theorem zCd {P:zB} {N:Nat} (h:P.length=N) (A:zB):zl (P++A) N=zl A 0:=zCc h A 0
theorem zH4 {P:zB} {N:Nat} (h:P.length=N) (k:Nat) (A:zB) (n i off:Nat) (v:PV):yW k (P++A) (.mp (N+n) i off) v=(yW k A (.mp n i off) v).map fun B=>P++B:=by
 subst h;simp only[yW];rw[pA (by omega),aN]
 cases A[n]? with
 | none=>rfl
 | some o =>
  cases o with
  | gone=>rfl
  | arr rows g f =>
   cases f with
   | true=>rfl
   | false =>
    dsimp only;by_cases c:i<rows.length∧off+k≤(rows.getD i []).length∧v.cells.length=k∧v.cells.all PV.cell=true
    ·rw[bA c,bA c,pE,PI _ _ (by omega),aN]
    ·rw[hZ c,hZ c,HF]
theorem zI2 {P:zB} {N:Nat} (h:P.length=N) (k:Nat) (A:zB) (i off:Nat) (v:PV):yW k (P++A) (.mp N i off) v=(yW k A (.mp 0 i off) v).map fun B=>P++B:=zH4 h k A 0 i off v
theorem zOF (P A:zB) (n:Nat):zl (P++A) (P.length+n)=zl A n:=zCc rfl A n
theorem zFQ (P A:zB):zl (P++A) P.length=zl A 0:=zCd rfl A
theorem zOG (P:zB) (k:Nat) (A:zB) (n i off:Nat) (v:PV):yW k (P++A) (.mp (P.length+n) i off) v=(yW k A (.mp n i off) v).map fun B=>P++B:=zH4 rfl k A n i off v
theorem zMV (P:zB) (k:Nat) (A:zB) (i off:Nat) (v:PV):yW k (P++A) (.mp P.length i off) v=(yW k A (.mp 0 i off) v).map fun B=>P++B:=zI2 rfl k A i off v
theorem xK {P:zB} {N:Nat} (h:P.length=N):(∀A n,zl (P++A) (N+n)=zl A n)∧(∀A,zl (P++A) N=zl A 0)∧(∀k A n i off v,yW k (P++A) (.mp (N+n) i off) v=(yW k A (.mp n i off) v).map fun B=>P++B)∧(∀k A i off v,yW k (P++A) (.mp N i off) v=(yW k A (.mp 0 i off) v).map fun B=>P++B):=⟨zCc h,zCd h,zH4 h,zI2 h⟩
theorem wO:(∀P A n,zl (P++A) (P.length+n)=zl A n)∧(∀P A,zl (P++A) P.length=zl A 0)∧(∀P k A n i off v,yW k (P++A) (.mp (P.length+n) i off) v=(yW k A (.mp n i off) v).map fun B=>P++B)∧(∀P k A i off v,yW k (P++A) (.mp P.length i off) v=(yW k A (.mp 0 i off) v).map fun B=>P++B):=⟨zOF,zFQ,zOG,zMV⟩
theorem xX {α:Type} : (∀a b c:List α,a++b++c=a++(b++c))∧(∀a b:List α,(a++b).length=a.length+b.length)∧(∀(a:α) (l:List α),(a::l).length=l.length+1)∧([]:List α).length=0∧(∀(a:α) (l m:List α),a::l++m=a::(l++m))∧(∀l:List α,[]++l=l):=⟨pB,fun _ _=>bN,fun _ _=>rfl,rfl,fun _ _ _=>rfl,fun _=>rfl⟩
def ua (N:Nat) (A:zB):Bool:=A.all fun | .arr rows _ _=>(zV rows).all (fun i=>decide (i<N)) | .gone=>true
theorem wE (N:Nat) (A B:zB):ua N (A++B)=(ua N A&&ua N B):=by simp[ua]
theorem xh (N:Nat):ua N []=true:=rfl
theorem xB (N:Nat) (rows:List (List PV)) (g:Option (Option Nat)) (f:Bool) (A:zB):ua N (.arr rows g f::A)=((zV rows).all (fun i=>decide (i<N))&&ua N A):=rfl
theorem yp {N M:Nat} {A:zB} (h:ua N A=true) (hNM:N≤M):ua M A=true:=by
 simp only[ua,pH]at h ⊢;intro o ho;have:=h o ho;cases o with
 | gone=>rfl
 | arr rows g f =>
  simp only[pH,bR]at this ⊢;intro x hx;have:=this x hx;omega
theorem yH {rows:List (List PV)} (h:zV rows=[]) (N:Nat):((zV rows).all fun i=>decide (i<N))=true:=by rw[h];rfl
def d2 (v d:Rat):List PV:=[.bool (yT v),yD v.num.natAbs false,yD v.den false,.bool (yT d),yD d.num.natAbs false,yD d.den false]
theorem ZF (v d:Rat):zh (.agg (d2 v d)):=⟨rfl,fun _=>rfl⟩
theorem xD (v d:Rat):zV [d2 v d]=[]:=rfl
def evc (L:List Bd) (I:List Pr) (a c:Rat) (df lg:Bool):List PV:=.sl (yC L) false :: .sl (zS I) false::(d2 a c++[.bool df,.bool lg])
theorem Jo (L:List Bd) (I:List Pr) (a c:Rat) (df lg:Bool):zV [evc L I a c df lg]=[]:=rfl
structure ES (S:zB) (id:Nat) (c:List PV):Prop where
 at_:S[id]? = some (.arr [c] none false)
 low:ua S.length S=true
theorem ES.lt {S:zB} {id:Nat} {c:List PV} (h:ES S id c):id<S.length:=(bS.1 h.at_).1
theorem ES.rows {S:zB} {id:Nat} {c:List PV} (h:ES S id c) (A:zB):zl (S++A) id=some [c]:=xH (ut h.at_ A)
theorem ES.app {S:zB} {id:Nat} {c:List PV} (h:ES S id c) {A:zB} (hA:ua (S.length+A.length) A=true):ES (S++A) id c:=⟨ut h.at_ A,by rw[wE,bN,yp h.low (by omega),hA];rfl⟩
theorem zMW {S X:zB} {f:FuncId} {l:List PV} {v:PV} (hr:zD.refs f=true) (hc:callRL Tryz.prog zD f l S=some (v,S++X)) (hcl:xW S=true) (hb:wj S.length l=true):zn Tryz.prog zD S f l=some {v,S:=S++X} := by
 simp only[zn,hr,if_true,hc,bG];rw[bA ⟨by rw[bN];omega,hcl,hb,fun _=>by rw[List.take_append_of_le_length (bF _),SF]⟩]
theorem Jp (S:zB) (q r:Rat) (hq:wB q 4096) (hr:wB r 4096):zO (callL Tryz.prog zD) S 102 [xY q,xY r]=some {v:=xY (q*r)} := zF (zB6 q r (hq.mono (by omega)) (hr.mono (by omega))) (by simp[uK])
theorem zH5 (S:zB) (q r:Rat) (hq:wB q 100000) (hr:wB r 100000):zO (callL Tryz.prog zD) S 143 [xY q,xY r]=some {v:=xY (q+r)} := zF (zB7 q r (hq.mono (by omega)) (hr.mono (by omega))) (by simp[uK])
theorem zMX (S:zB) (q:Rat) (hq:wB q 4096):zO (callL Tryz.prog zD) S 142 [xY q]=some {v:=xY (-q)} := zF (zB4 q (hq.mono (by omega))) (by simp[uK])
theorem zMY (n:Nat):decide ((n:Int)≤4096)=decide (n≤4096):=decide_eq_decide.2 (by omega)
theorem zCe (S:zB) (q:Rat):zO (callL Tryz.prog zD) S 56 [xY q,.int .i64 4096]=some {v:=.bool (Zh 4096 q)} := zF (by rw[QH,zMY,zMY];rfl) (by simp[uK,zh.int])
theorem vl (S:zB):zO (callL Tryz.prog zD) S 54 []=some {v:=xY 0} := zF Za (by simp)
theorem zQB (S:zB):zO (callL Tryz.prog zD) S 103 []=some {v:=xY 1} := zF zB9 (by simp)
theorem wX (q:Rat):xY q=.agg [.bool (yT q),yD q.num.natAbs false,yD q.den false]:=rfl
section
attribute [local irreducible] Vs.callL Vs.callRL tyi zO zn zg zR zY za zI zZ zA zK ze zX zG zJ zW zr yJ zq zL zf Vs.gc zH
noncomputable def zTC:FX:=⟨Tryz.f97,zD.of 97,[]⟩
instance ok97_:zTC.ok 97:=FX.mk'
theorem zAi (v d:Rat) (hv:wB v 4096) (hd:wB d 4096):callL Tryz.prog zD 97 [.agg (d2 v d)]=some (.agg (d2 (-v) (-d))):=by
 have n1:=fun S=>zMX S v hv;have n2:=fun S=>zMX S d hd;simp only[wX]at *;apply FX.callV ok97_ 1000 rfl rfl
 ·unfold d2;unfold yD at *;((repeat((conv=>lhs;whnf);simp only[go_sem,simprocAttr,n1,n2]));try rfl)
 ·rfl
noncomputable def zTD:FX:=⟨Tryz.f99,zD.of 99,[]⟩
instance ok99_:zTD.ok 99:=FX.mk'
theorem zAj (v d w e:Rat) (hv:wB v 4096) (hd:wB d 4096) (hw:wB w 4096) (he:wB e 4096):callL Tryz.prog zD 99 [.agg (d2 v d),.agg (d2 w e)]=some (.agg (d2 (v+w) (d+e))):=by
 have n1:=fun S=>zH5 S v w (hv.mono (by omega)) (hw.mono (by omega));have n2:=fun S=>zH5 S d e (hd.mono (by omega)) (he.mono (by omega));simp only[wX]at *;apply FX.callV ok99_ 1000 rfl rfl
 ·unfold d2;unfold yD at *;((repeat((conv=>lhs;whnf);simp only[go_sem,simprocAttr,n1,n2]));try rfl)
 ·rfl
noncomputable def zTE:FX:=⟨Tryz.f98,zD.of 98,[]⟩
instance ok98_:zTE.ok 98:=FX.mk'
theorem zH6 {S:zB} {id:Nat} {L:List Bd} {I:List Pr} {a c:Rat} {df:Bool} (h:ES S id (evc L I a c df false)) (v d:Rat) (hv:Zh 4096 v=true) (hd:df=true→Zh 4096 d=true):callRL Tryz.prog zD 98 [.mp id 0 0,.agg (d2 v d)] S=some (.agg (d2 v (if df=true then d else 0)),S++[.arr [d2 v (if df=true then d else 0)] none false,.arr [d2 v (if df=true then d else 0)] none false]):=by
 have f1:=fun S=>zCe S v;have f2:=fun S=>zCe S d;have z:=vl;rw[hv]at f1;have e:=h.rows;obtain⟨N,hN⟩ : ∃N,S.length=N:=⟨_,rfl⟩;simp only[wX]at *;refine FX.callRL ok98_ 1000 rfl rfl ?_;cases df
 ·rw[hZ (by simp)];unfold d2 evc d2 at *;unfold yD at *;((repeat((conv=>lhs;whnf);simp only[go_sem,simprocAttr,f1,z,e,hN,xK hN,xX]));try rfl)
 ·rw[bA rfl];rw[hd rfl]at f2;unfold d2 evc d2 at *;unfold yD at *;((repeat((conv=>lhs;whnf);simp only[go_sem,simprocAttr,f1,f2,e,hN,xK hN,xX]));try rfl)
end
end
section
theorem zOf {q r:Rat} (hq:wB q 4096) (hr:wB r 4096):wB (q*r) 100000:=(zOc hq.dec hr.dec).words.mono (by omega)
theorem zI3 {k:Nat} {e:Env} {S:zB} (h1:(e.all fun (_,v)=>v.refs.all fun i=>decide (i<k))=true) (h2:ua k (S.take k)=true):Vs.gc k e S=S.take k:=by
 unfold Vs.gc;exact bA ⟨h1,h2⟩
@[go_sem] theorem zTF (v:PV) (r:List PV):part (tyi Tryz.prog 22) (v::r)=some v:=by
 have e:(tyi Tryz.prog 22).isAgg=false:=by kernel_rfl
 have k:(tyi Tryz.prog 22).known=true:=by kernel_rfl
 simp[part,k,e]
section
attribute [local irreducible] Vs.callL Vs.callRL tyi zO zn zg zR zY za zI zZ zA zK ze zX zG zJ zW zr yJ zq zL zf Vs.gc zH
noncomputable def zQC:FX:=⟨Tryz.f100,zD.of 100,[]⟩
instance ok100_:zQC.ok 100:=FX.mk'
theorem zMZ {S:zB} {id:Nat} {L:List Bd} {I:List Pr} {a c:Rat} {df:Bool} (h:ES S id (evc L I a c df false)) (v d w e:Rat) (hv:wB v 4096) (hd:wB d 4096) (hw:wB w 4096) (he:wB e 4096):callRL Tryz.prog zD 100 [.mp id 0 0,.agg (d2 v d),.agg (d2 w e)] S=some (.agg (d2 (v*w) (if df=true then d*w+v*e else 0)),S++[.arr [d2 v d] none false,.arr [d2 w e] none false,.arr [d2 (v*w) (if df=true then d*w+v*e else 0)] none false,.arr [d2 (v*w) (if df=true then d*w+v*e else 0)] none false]):=by
 have m1:=fun S=>Jp S v w hv hw;have m2:=fun S=>Jp S d w hd hw;have m3:=fun S=>Jp S v e hv he;have a1:=fun S=>zH5 S (d*w) (v*e) (zOf hd hw) (zOf hv he);have z:=vl;have ev:=h.rows;obtain⟨N,hN⟩ : ∃N,S.length=N:=⟨_,rfl⟩;simp only[wX]at *;refine FX.callRL ok100_ 1000 rfl rfl ?_;cases df
 ·rw[hZ (by simp)];unfold d2 evc d2 at *;unfold yD at *;((repeat((conv=>lhs;whnf);simp only[go_sem,simprocAttr,m1,z,ev,hN,xK hN,xX]));try rfl)
 ·rw[bA rfl];unfold d2 evc d2 at *;unfold yD at *;((repeat((conv=>lhs;whnf);simp only[go_sem,simprocAttr,m1,m2,m3,a1,z,ev,hN,xK hN,xX]));try rfl)
noncomputable def zM0:FX:=⟨Tryz.f104,zD.of 104,[]⟩
instance ok104_:zM0.ok 104:=FX.mk'
theorem zJz {S:zB} {N:Nat} (hN:S.length=N) (hS:ua N S=true) (I:List Pr) (hI : ∀p∈I,p.ok) (hl:I.length≤60) (n s w:Node) (hs:s.ok) : ∀(m i:Nat),i+m=I.length→jc (I.drop i) s=some w →
  ∃X,zU N zM0 0 244 (N+3) [.blk 0,.seq 0 31] [(4,.mp (N+1) 0 0),(6,.mp (N+2) 0 0),(21,.sl (zS I) false),(22,.int .i64 I.length),(23,.int .i64 i)] (S++[.arr [n.cells] none false,.arr [zc] none false,.arr [s.cells] none false])=some (.tup [.agg w.cells,.bool true],S++X)∧ua 0 X=true:=by
 intro m
 induction m with
 | zero =>
  intro i hi hm;rw[bU (by omega)]at hm;cases hm
 | succ m ih =>
  intro i hi hm;have h1:(i:Int)<(I.length:Int):=by omega
  have h2:=zi (i:=i) (n:=I.length) (by omega) (by unfold maxLen;omega);have h4:0≤(i:Int)∧(i:Int)<(I.length:Int):=⟨by omega,h1⟩;have hp:=hI _ (vk (I:=I) (i:=i) (by omega));have hE:=fun S=>jZ S _ s hp.what hs;rw[zAg (by omega)]at hm;by_cases c:(I.getD i pr0).what.cmp s=0
  ·rw[bA c]at hm;obtain rfl:=Option.some.inj hm;refine⟨[.arr [n.cells] none false,.arr [(I.getD i pr0).wth.cells] none false,.arr [s.cells] none false,.arr [(I.getD i pr0).cells] none false],?_,by
    simp only[xB,xh,yH (yZ _),yH (zNj _),pD]⟩
   apply zC;unfold zc;((repeat((conv=>lhs;whnf);simp only[go_sem,simprocAttr,h1,h2,h4,bD,hE,c,yG,hN,xK hN,xX]));try rfl)
  ·rw[hZ c]at hm;obtain⟨X,k1,k2⟩:=ih (i+1) (by omega) hm;refine⟨X,?_,k2⟩;have hG:Vs.gc (N+3) [(4,.mp (N+1) 0 0),(6,.mp (N+2) 0 0),(21,.sl (zS I) false),(22,.int .i64 I.length),(23,.int .i64 ((i+1:Nat):Int))] (S++[.arr [n.cells] none false,.arr [zc] none false,.arr [s.cells] none false,.arr [(I.getD i pr0).cells] none false])=S++[.arr [n.cells] none false,.arr [zc] none false,.arr [s.cells] none false]:=by
    have e:(S++[Obj.arr [n.cells] none false,Obj.arr [zc] none false,Obj.arr [s.cells] none false,Obj.arr [(I.getD i pr0).cells] none false]).take (N+3)=S++[.arr [n.cells] none false,.arr [zc] none false,.arr [s.cells] none false]:=by
     rw[List.take_append,hN,aN,aW (by omega)];rfl
    rw[zI3 _ _,e]
    ·simp[PV.refs]
    ·rw[e];simp only[wE,xB,xh,yH (yZ _),yp hS (show N≤N+3 by omega),pD,bC];rfl
   unfold zc at *;apply zC;(repeat((conv=>lhs;whnf);simp only[go_sem,simprocAttr,h1,h2,h4,bD,hE,c,yG,hN,xK hN,xX,hG]));exact k1
theorem zAk {S:zB} {id:Nat} {L:List Bd} {I:List Pr} {a c:Rat} {df:Bool} (h:ES S id (evc L I a c df false)) (hI : ∀p∈I,p.ok) (hl:I.length≤60) (n:Node) (hn:n.ok) (hs:yP n.op=true) {w:Node} (hw:jc I n.sym=some w) : ∃X,callRL Tryz.prog zD 104 [.mp id 0 0,.agg n.cells] S=some (.tup [.agg w.cells,.bool true],S++X)∧ua 0 X=true:=by
 obtain⟨N,hN⟩ : ∃N,S.length=N:=⟨_,rfl⟩;obtain⟨X,k1,k2⟩:=zJz hN (hN ▸ h.low) I hI hl n n.sym w (Y5 hn) I.length 0 (by omega) hw;refine⟨X,?_,k2⟩;have so:=fun S=>wP S n;rw[hs]at so;have ev:=h.rows;refine FX.callRL ok104_ 1000 rfl rfl ?_;unfold evc d2 zc at *;unfold yD at *;(repeat((conv=>lhs;whnf);simp only[go_sem,simprocAttr,so,ev,zj,hN,xK hN,xX]));exact k1
end
end
section
def wI (L:List Bd) (I:List Pr) (g:DV→Bool→Option DV) (w:Node):Prop:=∀(a c:Rat) (df:Bool) (x:DV) (S:zB) (id:Nat),jj 4096 (a,c)→(df=false→c=0)→(df=true→w.has (ys 12)=false)→g (a,c) df=some x→ES S id (evc L I a c df false)→∃X,callRL Tryz.prog zD 55 [.mp id 0 0,.agg w.cells] S=some (.agg (d2 x.1 x.2),S++X)∧ua (S.length+X.length) X=true
def zd:List PV:=[.bool false,.sl [] true,.sl [] true,.bool false,.sl [] true,.sl [] true]
def r3 (q:Rat):List PV:=[.bool (yT q),yD q.num.natAbs false,yD q.den false]
theorem qO (q:Rat):zV [r3 q]=[]:=rfl
theorem wI.m {L:List Bd} {I:List Pr} {g:DV→Bool→Option DV} {w:Node} (h:wI L I g w) {a c:Rat} {df:Bool} {x:DV} {S:zB} {id:Nat} (h1:jj 4096 (a,c)) (h2:df=false→c=0) (h3:df=true→w.has (ys 12)=false) (h4:g (a,c) df=some x) (h5:ES S id (evc L I a c df false)) : ∃X,zn Tryz.prog zD S 55 [.mp id 0 0,.agg w.cells]=some {v:=.agg (d2 x.1 x.2),S:=S++X} ∧ ua (S.length+X.length) X=true:=by
 obtain⟨X,k1,k2⟩:=h a c df x S id h1 h2 h3 h4 h5;refine⟨X,wL (by kernel_rfl) k1 (by rw[bN];omega) h5.low ?_,k2⟩;have:=h5.lt;simp[wj,yR,yy,vc,jN,Node.refs,this]
def A0 (id:Nat) (n:Node) (r:List PV):zB:=[.arr [[.mp id 0 0]] none false,.arr [n.cells] none false,.arr [r] none false,.arr [r3 0] none false]
theorem jB {id N:Nat} (h:id<N) (n:Node) {r:List PV} (hr:zV [r]=[]):ua N (A0 id n r)=true:=by
 unfold A0;simp only[xB,xh,yH (yZ _),yH hr,yH (qO 0),pD];simp[yq,yR,yy,vc,wQ,h]
theorem ES.A0 {S:zB} {id:Nat} {c:List PV} (h:ES S id c) (n:Node) {r:List PV} (hr:zV [r]=[]):ES (S++Vs.A0 id n r) id c:=h.app (jB (by have:=h.lt;omega) n hr)
@[go_sem] theorem zTG:(tyi Tryz.prog 86).size=1:=nr (by kernel_rfl)
@[go_sem] theorem zKA:(tyi Tryz.prog 86).known=true:=nr (by kernel_rfl)
@[go_sem] theorem zTH (v:PV) (r:List PV):part (tyi Tryz.prog 86) (v::r)=some v:=by
 have e:(tyi Tryz.prog 86).isAgg=false:=by kernel_rfl
 simp[part,zKA,e]
theorem ww:zV [zd]=[]:=rfl
section
attribute [local irreducible] Vs.callL Vs.callRL tyi zO zn zg zR zY za zI zZ zA zK ze zX zG zJ zW zr yJ zq zL zf Vs.gc zH
noncomputable def zM1:FX:=⟨Tryz.f55,zD.of 55,[]⟩
instance ok55_:zM1.ok 55:=FX.mk'
theorem zM2 {L:List Bd} {I:List Pr} (h:RC 4096 L I) (sy:Node→DV→Bool→Option DV) (n:Node) (hn:n.ok) (ho:n.op=1) (hk:vt n.neg n.num n.den=true):wI L I (n.ev 4096 L sy) n:=by
 intro a c df x S id hf hc h12 hx hS;rw[Node.ev_eq]at hx;unfold xe at hx;rw[bA ho]at hx;have ev:=hS.rows;obtain⟨N,hN⟩ : ∃N,S.length=N:=⟨_,rfl⟩;have z:=vl;obtain⟨rfl,_⟩:=zT.1 hx;obtain⟨q1,q2,_⟩:=Xf hk hn.val.n;have cp : ∀S,zO (callL Tryz.prog zD) S 63 [.agg [.bool n.neg,.sl (zE .u32 n.num) false,.sl (zE .u32 n.den) false]]=some {v:=xY (Zi n.num)} := fun S=>zF (by rw[q1];exact Zb _ (q2.mono (by omega))) (by rw[q1];simp[uK]);refine⟨A0 id n (d2 (Zi n.num) 0),?_,jB (by have:=hS.lt;omega) n (xD _ _)⟩;simp only[wX]at *;refine FX.callRL ok55_ 1000 rfl rfl ?_;unfold A0 r3 d2 evc d2 at *;unfold yD at *;((repeat((conv=>lhs;whnf);simp only[go_sem,simprocAttr,ho,z,cp,ev,hN,xK hN,wO,xX]));try rfl)
theorem zH7 {L:List Bd} {I:List Pr} (h:RC 4096 L I) (sy:Node→DV→Bool→Option DV) (n:Node) (hn:n.ok) (ho:n.op=3) (hnm:yQ n.name=true):wI L I (n.ev 4096 L sy) n:=by
 intro a c df x S id hf hc h12 hx hS;rw[Node.ev_eq]at hx;unfold xe at hx
 repeat rw[hZ (by rw[ho];decide)]at hx
 rw[bA ho]at hx;have ev:=hS.rows;obtain⟨N,hN⟩ : ∃N,S.length=N:=⟨_,rfl⟩;have z:=vl;obtain⟨rfl,_⟩:=zT.1 hx;obtain⟨q1,q2⟩:=YF (qE (nm:=wu n.name) h.okL h.good);have ad:=fun ti=>Xh ti hnm;have gt : ∀S,zO (callL Tryz.prog zD) S 59 [.sl (yC L) false,.str (wu n.name)]=some {v:=xY (uZ L (wu n.name))} := fun S=>by rw[zLc S L (wu n.name) h.okL h.val,q1];rfl
 refine⟨A0 id n (d2 (uZ L (wu n.name)) 0),?_,jB (by have:=hS.lt;omega) n (xD _ _)⟩;simp only[wX]at *;refine FX.callRL ok55_ 1000 rfl rfl ?_;unfold A0 r3 d2 evc d2 at *;unfold yD at *;((repeat((conv=>lhs;whnf);simp only[go_sem,simprocAttr,ho,z,ad,gt,ev,hN,xK hN,wO,xX]));try rfl)
theorem zM3 {L:List Bd} {I:List Pr} (h:RC 4096 L I) (sy:Node→DV→Bool→Option DV) (n:Node) (hn:n.ok) (ho:n.op=13):wI L I (n.ev 4096 L sy) n:=by
 intro a c df x S id hf hc h12 hx hS;rw[Node.ev_eq]at hx;unfold xe at hx
 repeat rw[hZ (by rw[ho];decide)]at hx
 rw[bA ho]at hx;have ev:=hS.rows;obtain⟨N,hN⟩ : ∃N,S.length=N:=⟨_,rfl⟩;have z:=vl;obtain rfl:=Option.some.inj hx;refine⟨A0 id n (d2 a c),?_,jB (by have:=hS.lt;omega) n (xD _ _)⟩;simp only[wX]at *;refine FX.callRL ok55_ 1000 rfl rfl ?_;unfold A0 r3 d2 evc d2 at *;unfold yD at *;((repeat((conv=>lhs;whnf);simp only[go_sem,simprocAttr,ho,z,ho,ev,hN,xK hN,wO,xX]));try rfl)
theorem zM4 {L:List Bd} {I:List Pr} (h:RC 4096 L I) (sy:Node→DV→Bool→Option DV) (n:Node) (hn:n.ok) (ho:n.op=2) (hnm:yQ n.name=true):wI L I (n.ev 4096 L sy) n:=by
 intro a c df x S id hf hc h12 hx hS;rw[Node.ev_eq]at hx;unfold xe at hx;rw[hZ (by rw[ho];decide)]at hx;rw[bA ho]at hx;have ev:=hS.rows;obtain⟨N,hN⟩ : ∃N,S.length=N:=⟨_,rfl⟩;have z:=vl;obtain⟨rfl,_⟩:=zT.1 hx;obtain⟨q1,q2⟩:=YF (qE (nm:=n.name) h.okL h.good);have gt : ∀S,zO (callL Tryz.prog zD) S 59 [.sl (yC L) false,.str n.name]=some {v:=xY (uZ L n.name)} := fun S=>by rw[zLc S L n.name h.okL h.val,q1];rfl
 obtain⟨p1,p2⟩:=YF (qE (nm:=wu n.name) h.okL h.good);have ad:=fun ti=>Xh ti hnm;have gt2 : ∀S,zO (callL Tryz.prog zD) S 59 [.sl (yC L) false,.str (wu n.name)]=some {v:=xY (uZ L (wu n.name))} := fun S=>by rw[zLc S L (wu n.name) h.okL h.val,p1];rfl
 have fl : ∀q r:Rat,ua (S.length+(A0 id n (d2 q r)++[Obj.arr [d2 q r] none false]).length) (A0 id n (d2 q r)++[Obj.arr [d2 q r] none false])=true:=fun q r=>by
  rw[wE,jB (by have:=hS.lt;omega) n (xD _ _)];simp only[xB,xh,yH (xD _ _),pD]
 cases df
 ·rw[hZ (by simp)]at *;refine⟨A0 id n (d2 (uZ L n.name) 0)++[.arr [d2 (uZ L n.name) 0] none false],?_,fl _ _⟩;simp only[wX]at *;refine FX.callRL ok55_ 1000 rfl rfl ?_;unfold A0 r3 d2 evc d2 at *;unfold yD at *;((repeat((conv=>lhs;whnf);simp only[go_sem,simprocAttr,ho,z,gt,ev,hN,xK hN,wO,xX]));try rfl)
 ·rw[bA rfl]at *;refine⟨A0 id n (d2 (uZ L n.name) (uZ L (wu n.name)))++[.arr [d2 (uZ L n.name) (uZ L (wu n.name))] none false],?_,fl _ _⟩;simp only[wX]at *;refine FX.callRL ok55_ 1000 rfl rfl ?_;unfold A0 r3 d2 evc d2 at *;unfold yD at *;((repeat((conv=>lhs;whnf);simp only[go_sem,simprocAttr,ho,z,gt,ad,gt2,ev,hN,xK hN,wO,xX]));try rfl)
end
end
section
theorem ud {p:Int→Bool} {n k:Node} (h:n.has p=false) (hk:k∈n.kids):k.has p=false:=by
 rw[Node.has_eq,BY,Node.hass_any,List.any_eq_false]at h
 simpa using h.2 k hk
theorem kL (id:Nat) (n:Node) (r:List PV):(A0 id n r).length=4:=rfl
theorem ES.flat {S:zB} {id:Nat} {c:List PV} (h:ES S id c) {A:zB} (hA:ua 0 A=true):ES (S++A) id c:=h.app (yp hA (by omega))
theorem qb (v d:Rat):ua 0 [.arr [d2 v d] none false]=true:=by simp only[xB,xh,yH (xD _ _),pD]
theorem Vd {S:zB} {id:Nat} {L:List Bd} {I:List Pr} {a c:Rat} {df:Bool} (h:ES S id (evc L I a c df false)) (x:DV) (hx:jj 4096 x) (hz:df=false→x.2=0):zn Tryz.prog zD S 98 [.mp id 0 0,.agg (d2 x.1 x.2)]=some {v:=.agg (d2 x.1 x.2),S:=S++[.arr [d2 x.1 x.2] none false,.arr [d2 x.1 x.2] none false]} := by
 have e:(if df=true then x.2 else 0)=x.2:=by
  cases df
  ·rw[hZ (by simp)];exact (hz rfl).symm
  ·rfl
 have hb:=zH6 h x.1 x.2 (vz.2 hx.1) (fun _=>vz.2 hx.2);rw[e]at hb;refine wL (by kernel_rfl) hb (by rw[bN];omega) h.low ?_;have:=h.lt;simp[wj,yR,yy,vc,(ZF x.1 x.2).1,this]
theorem zOg {S:zB} {id:Nat} {L:List Bd} {I:List Pr} {a c:Rat} {df:Bool} (h:ES S id (evc L I a c df false)) (x y:DV) (hx:jj 4096 x) (hy:jj 4096 y) (zx:df=false→x.2=0) (zy:df=false→y.2=0):zn Tryz.prog zD S 100 [.mp id 0 0,.agg (d2 x.1 x.2),.agg (d2 y.1 y.2)]=some {v:=.agg (d2 (xg x y).1 (xg x y).2),S:=S++[.arr [d2 x.1 x.2] none false,.arr [d2 y.1 y.2] none false,.arr [d2 (xg x y).1 (xg x y).2] none false,.arr [d2 (xg x y).1 (xg x y).2] none false]} := by
 have e:(if df=true then x.2*y.1+x.1*y.2 else 0)=(xg x y).2:=by
  cases df
  ·rw[hZ (by simp)];exact (jA (zx rfl) (zy rfl)).symm
  ·rfl
 have hb:=zMZ h x.1 x.2 y.1 y.2 hx.1 hx.2 hy.1 hy.2;rw[e]at hb;refine zMW (by kernel_rfl) hb h.low ?_;have:=h.lt;simp[wj,yR,yy,vc,(ZF x.1 x.2).1,(ZF y.1 y.2).1,this]
section
attribute [local irreducible] Vs.callL Vs.callRL tyi zO zn zg zR zY za zI zZ zA zK ze zX zG zJ zW zr yJ zq zL zf Vs.gc zH
theorem zM5 {L:List Bd} {I:List Pr} (h:RC 4096 L I) (sy:Node→DV→Bool→Option DV) (sF : ∀s,Vs.W2 4096 (sy s)) (sZ : ∀s,ZE (sy s)) (n:Node) (hn:n.ok) (ho:n.op=4) (h0:0<n.kids.length) (k0:wI L I ((n.kids.getD 0 nd0).ev 4096 L sy) (n.kids.getD 0 nd0)):wI L I (n.ev 4096 L sy) n:=by
 intro a c df x S id hf hc h12 hx hS;have zx:df=false→x.2=0:=fun e=>by
  subst e;exact wv sZ n _ _ (hc rfl) hx
 rw[Node.ev_eq]at hx;unfold xe at hx
 repeat rw[hZ (by rw[ho];decide)]at hx
 rw[bA ho]at hx;have ev:=hS.rows;obtain⟨N,hN⟩ : ∃N,S.length=N:=⟨_,rfl⟩;have z:=vl;obtain⟨y,yh,hx⟩:=bJ.1 hx;rw[uB _ _ _ _ _ h0]at yh;have yf:=uz (by omega) sF _ _ _ _ hf yh;have yz:df=false→y.2=0:=fun e=>by
  subst e;exact wv sZ _ _ _ (hc rfl) yh
 have i0:=XR h0;obtain⟨X0,c0,l0⟩:=k0.m hf hc (fun e=>ud (h12 e) (yA h0)) yh (hS.A0 n ww);obtain⟨rfl,fx⟩:=zT.1 hx;rw[UM];have ng:=fun S=>zF (S:=S) (zAi y.1 y.2 yf.1 yf.2) (by simp[ZF]);refine⟨A0 id n (d2 (-y.1) (-y.2))++(X0),?_,?_⟩
 rotate_left
 ·simp only[wE,xB,xh,yH (xD _ _),yH (qO _),pD,bC];rw[jB (by have:=hS.lt;omega) n (xD _ _),yp l0 (by simp only[bN,bL,bV,kL];omega)];rfl
 simp only[wX]at *;refine FX.callRL ok55_ 1000 rfl rfl ?_;unfold A0 zd r3 d2 evc d2 at *;unfold yD at *;simp only[pB,sB,pG]at *;((repeat((conv=>lhs;whnf);simp only[go_sem,simprocAttr,ho,z,i0,c0,ng,ev,hN,xK hN,wO,xX]));try rfl)
theorem zM6 {L:List Bd} {I:List Pr} (h:RC 4096 L I) (sy:Node→DV→Bool→Option DV) (sF : ∀s,Vs.W2 4096 (sy s)) (sZ : ∀s,ZE (sy s)) (n:Node) (hn:n.ok) (ho:n.op=5) (h0:0<n.kids.length) (k0:wI L I ((n.kids.getD 0 nd0).ev 4096 L sy) (n.kids.getD 0 nd0)) (h1:1<n.kids.length) (k1:wI L I ((n.kids.getD 1 nd0).ev 4096 L sy) (n.kids.getD 1 nd0)):wI L I (n.ev 4096 L sy) n:=by
 intro a c df x S id hf hc h12 hx hS;have zx:df=false→x.2=0:=fun e=>by
  subst e;exact wv sZ n _ _ (hc rfl) hx
 rw[Node.ev_eq]at hx;unfold xe at hx
 repeat rw[hZ (by rw[ho];decide)]at hx
 rw[bA ho]at hx;have ev:=hS.rows;obtain⟨N,hN⟩ : ∃N,S.length=N:=⟨_,rfl⟩;have z:=vl;obtain⟨y,yh,hx⟩:=bJ.1 hx;obtain⟨w,wh,hx⟩:=bJ.1 hx;rw[uB _ _ _ _ _ h0]at yh;have yf:=uz (by omega) sF _ _ _ _ hf yh;have yz:df=false→y.2=0:=fun e=>by
  subst e;exact wv sZ _ _ _ (hc rfl) yh
 have i0:=XR h0;rw[uB _ _ _ _ _ h1]at wh;have wf:=uz (by omega) sF _ _ _ _ hf wh;have wz:df=false→w.2=0:=fun e=>by
  subst e;exact wv sZ _ _ _ (hc rfl) wh
 have i1:=Qa h1;obtain⟨X0,c0,l0⟩:=k0.m hf hc (fun e=>ud (h12 e) (yA h0)) yh (hS.A0 n ww);obtain⟨X1,c1,l1⟩:=k1.m hf hc (fun e=>ud (h12 e) (yA h1)) wh (((hS.A0 n ww).app l0).flat (qb y.1 y.2));obtain⟨e,fx⟩:=zT.1 hx;subst e;have ad:=fun S=>zF (S:=S) (zAj y.1 y.2 w.1 w.2 yf.1 yf.2 wf.1 wf.2) (by simp[ZF]);have bd:=Vd (((((hS.A0 n ww).app l0).flat (qb y.1 y.2)).app l1).flat (qb w.1 w.2)) (Y8 y w) fx zx;change zn _ _ _ _ [_,.agg (d2 (y.1+w.1) (y.2+w.2))]=some {v:=.agg (d2 (y.1+w.1) (y.2+w.2)),S:=_++[.arr [d2 (y.1+w.1) (y.2+w.2)] none false,.arr [d2 (y.1+w.1) (y.2+w.2)] none false]} at bd;change ∃X,callRL Tryz.prog zD 55 [.mp id 0 0,.agg n.cells] S=some (.agg (d2 (y.1+w.1) (y.2+w.2)),S++X)∧ua (S.length+X.length) X=true;refine⟨A0 id n (d2 (y.1+w.1) (y.2+w.2))++(X0++([.arr [d2 y.1 y.2] none false]++(X1++([.arr [d2 w.1 w.2] none false]++([.arr [d2 (y.1+w.1) (y.2+w.2)] none false,.arr [d2 (y.1+w.1) (y.2+w.2)] none false]))))),?_,?_⟩
 rotate_left
 ·simp only[wE,xB,xh,yH (xD _ _),yH (qO _),pD,bC];rw[jB (by have:=hS.lt;omega) n (xD _ _),yp l0 (by simp only[bN,bL,bV,kL];omega),yp l1 (by simp only[bN,bL,bV,kL];omega)];rfl
 simp only[wX]at *;refine FX.callRL ok55_ 1000 rfl rfl ?_;unfold A0 zd r3 d2 evc d2 at *;unfold yD at *;simp only[pB,sB,pG]at *;((repeat((conv=>lhs;whnf);simp only[go_sem,simprocAttr,ho,z,i0,i1,c0,c1,ad,bd,ev,hN,xK hN,wO,xX]));try rfl)
theorem zM7 {L:List Bd} {I:List Pr} (h:RC 4096 L I) (sy:Node→DV→Bool→Option DV) (sF : ∀s,Vs.W2 4096 (sy s)) (sZ : ∀s,ZE (sy s)) (n:Node) (hn:n.ok) (ho:n.op=6) (h0:0<n.kids.length) (k0:wI L I ((n.kids.getD 0 nd0).ev 4096 L sy) (n.kids.getD 0 nd0)) (h1:1<n.kids.length) (k1:wI L I ((n.kids.getD 1 nd0).ev 4096 L sy) (n.kids.getD 1 nd0)):wI L I (n.ev 4096 L sy) n:=by
 intro a c df x S id hf hc h12 hx hS;have zx:df=false→x.2=0:=fun e=>by
  subst e;exact wv sZ n _ _ (hc rfl) hx
 rw[Node.ev_eq]at hx;unfold xe at hx
 repeat rw[hZ (by rw[ho];decide)]at hx
 rw[bA ho]at hx;have ev:=hS.rows;obtain⟨N,hN⟩ : ∃N,S.length=N:=⟨_,rfl⟩;have z:=vl;obtain⟨y,yh,hx⟩:=bJ.1 hx;obtain⟨w,wh,hx⟩:=bJ.1 hx;rw[uB _ _ _ _ _ h0]at yh;have yf:=uz (by omega) sF _ _ _ _ hf yh;have yz:df=false→y.2=0:=fun e=>by
  subst e;exact wv sZ _ _ _ (hc rfl) yh
 have i0:=XR h0;rw[uB _ _ _ _ _ h1]at wh;have wf:=uz (by omega) sF _ _ _ _ hf wh;have wz:df=false→w.2=0:=fun e=>by
  subst e;exact wv sZ _ _ _ (hc rfl) wh
 have i1:=Qa h1;obtain⟨X0,c0,l0⟩:=k0.m hf hc (fun e=>ud (h12 e) (yA h0)) yh (hS.A0 n ww);obtain⟨X1,c1,l1⟩:=k1.m hf hc (fun e=>ud (h12 e) (yA h1)) wh (((hS.A0 n ww).app l0).flat (qb y.1 y.2));obtain⟨e,fx⟩:=zT.1 hx;subst e;have ng:=fun S=>zF (S:=S) (zAi w.1 w.2 wf.1 wf.2) (by simp[ZF]);have ad:=fun S=>zF (S:=S) (zAj y.1 y.2 (-w.1) (-w.2) yf.1 yf.2 (V9 wf.1) (V9 wf.2)) (by simp[ZF]);have bd:=Vd (((((hS.A0 n ww).app l0).flat (qb y.1 y.2)).app l1).flat (qb (-w.1) (-w.2))) (Y8 y (xg (-1,0) w)) fx zx;rw[UM]at bd ⊢;change zn _ _ _ _ [_,.agg (d2 (y.1 + -w.1) (y.2 + -w.2))]=some {v:=.agg (d2 (y.1 + -w.1) (y.2 + -w.2)),S:=_++[.arr [d2 (y.1 + -w.1) (y.2 + -w.2)] none false,.arr [d2 (y.1 + -w.1) (y.2 + -w.2)] none false]} at bd;change ∃X,callRL Tryz.prog zD 55 [.mp id 0 0,.agg n.cells] S=some (.agg (d2 (y.1 + -w.1) (y.2 + -w.2)),S++X)∧ua (S.length+X.length) X=true;refine⟨A0 id n (d2 (y.1 + -w.1) (y.2 + -w.2))++(X0++([.arr [d2 y.1 y.2] none false]++(X1++([.arr [d2 (-w.1) (-w.2)] none false]++([.arr [d2 (y.1 + -w.1) (y.2 + -w.2)] none false,.arr [d2 (y.1 + -w.1) (y.2 + -w.2)] none false]))))),?_,?_⟩
 rotate_left
 ·simp only[wE,xB,xh,yH (xD _ _),yH (qO _),pD,bC];rw[jB (by have:=hS.lt;omega) n (xD _ _),yp l0 (by simp only[bN,bL,bV,kL];omega),yp l1 (by simp only[bN,bL,bV,kL];omega)];rfl
 simp only[wX]at *;refine FX.callRL ok55_ 1000 rfl rfl ?_;unfold A0 zd r3 d2 evc d2 at *;unfold yD at *;simp only[pB,sB,pG]at *;((repeat((conv=>lhs;whnf);simp only[go_sem,simprocAttr,ho,z,i0,i1,c0,c1,ng,ad,bd,ev,hN,xK hN,wO,xX]));try rfl)
theorem zM8 {L:List Bd} {I:List Pr} (h:RC 4096 L I) (sy:Node→DV→Bool→Option DV) (sF : ∀s,Vs.W2 4096 (sy s)) (sZ : ∀s,ZE (sy s)) (n:Node) (hn:n.ok) (ho:n.op=7) (h0:0<n.kids.length) (k0:wI L I ((n.kids.getD 0 nd0).ev 4096 L sy) (n.kids.getD 0 nd0)) (h1:1<n.kids.length) (k1:wI L I ((n.kids.getD 1 nd0).ev 4096 L sy) (n.kids.getD 1 nd0)):wI L I (n.ev 4096 L sy) n:=by
 intro a c df x S id hf hc h12 hx hS;have zx:df=false→x.2=0:=fun e=>by
  subst e;exact wv sZ n _ _ (hc rfl) hx
 rw[Node.ev_eq]at hx;unfold xe at hx
 repeat rw[hZ (by rw[ho];decide)]at hx
 rw[bA ho]at hx;have ev:=hS.rows;obtain⟨N,hN⟩ : ∃N,S.length=N:=⟨_,rfl⟩;have z:=vl;obtain⟨y,yh,hx⟩:=bJ.1 hx;obtain⟨w,wh,hx⟩:=bJ.1 hx;rw[uB _ _ _ _ _ h0]at yh;have yf:=uz (by omega) sF _ _ _ _ hf yh;have yz:df=false→y.2=0:=fun e=>by
  subst e;exact wv sZ _ _ _ (hc rfl) yh
 have i0:=XR h0;rw[uB _ _ _ _ _ h1]at wh;have wf:=uz (by omega) sF _ _ _ _ hf wh;have wz:df=false→w.2=0:=fun e=>by
  subst e;exact wv sZ _ _ _ (hc rfl) wh
 have i1:=Qa h1;obtain⟨X0,c0,l0⟩:=k0.m hf hc (fun e=>ud (h12 e) (yA h0)) yh (hS.A0 n ww);obtain⟨X1,c1,l1⟩:=k1.m hf hc (fun e=>ud (h12 e) (yA h1)) wh (((hS.A0 n ww).app l0).flat (qb y.1 y.2));obtain⟨e,fx⟩:=zT.1 hx;subst e;have e2:=((((hS.A0 n ww).app l0).flat (qb y.1 y.2)).app l1).flat (qb w.1 w.2);have mu:=zOg e2 y w yf wf yz wz;have bd:=Vd (e2.flat (A:=[.arr [d2 y.1 y.2] none false,.arr [d2 w.1 w.2] none false,.arr [d2 (xg y w).1 (xg y w).2] none false,.arr [d2 (xg y w).1 (xg y w).2] none false]) (by simp only[xB,xh,yH (xD _ _),pD])) (xg y w) fx zx;generalize xg y w=x at *;refine⟨A0 id n (d2 x.1 x.2)++(X0++([.arr [d2 y.1 y.2] none false]++(X1++([.arr [d2 w.1 w.2] none false]++([.arr [d2 y.1 y.2] none false,.arr [d2 w.1 w.2] none false,.arr [d2 x.1 x.2] none false,.arr [d2 x.1 x.2] none false]++([.arr [d2 x.1 x.2] none false,.arr [d2 x.1 x.2] none false])))))),?_,?_⟩
 rotate_left
 ·simp only[wE,xB,xh,yH (xD _ _),yH (qO _),pD,bC];rw[jB (by have:=hS.lt;omega) n (xD _ _),yp l0 (by simp only[bN,bL,bV,kL];omega),yp l1 (by simp only[bN,bL,bV,kL];omega)];rfl
 simp only[wX]at *;refine FX.callRL ok55_ 1000 rfl rfl ?_;unfold A0 zd r3 d2 evc d2 at *;unfold yD at *;simp only[pB,sB,pG]at *;((repeat((conv=>lhs;whnf);simp only[go_sem,simprocAttr,ho,z,i0,i1,c0,c1,mu,bd,ev,hN,xK hN,wO,xX]));try rfl)
theorem zM9 {L:List Bd} {I:List Pr} (h:RC 4096 L I) (sy:Node→DV→Bool→Option DV) (sF : ∀s,Vs.W2 4096 (sy s)) (sZ : ∀s,ZE (sy s)) (n:Node) (hn:n.ok) (ho:n.op=8) (h0:0<n.kids.length) (k0:wI L I ((n.kids.getD 0 nd0).ev 4096 L sy) (n.kids.getD 0 nd0)) (h1:1<n.kids.length) (hk:vt (n.kids.getD 1 nd0).neg (n.kids.getD 1 nd0).num (n.kids.getD 1 nd0).den=true) (hz:(n.kids.getD 1 nd0).num.length≠0):wI L I (n.ev 4096 L sy) n:=by
 intro a c df x S id hf hc h12 hx hS;have zx:df=false→x.2=0:=fun e=>by
  subst e;exact wv sZ n _ _ (hc rfl) hx
 rw[Node.ev_eq]at hx;unfold xe at hx
 repeat rw[hZ (by rw[ho];decide)]at hx
 rw[bA ho]at hx;have ev:=hS.rows;obtain⟨N,hN⟩ : ∃N,S.length=N:=⟨_,rfl⟩;have z:=vl;obtain⟨j,jh,hx⟩:=bJ.1 hx;obtain⟨y,yh,hx⟩:=bJ.1 hx;obtain⟨e,jf⟩:=zT.1 jh;subst e;rw[uB _ _ _ _ _ h0]at yh;have yf:=uz (by omega) sF _ _ _ _ hf yh;have yz:df=false→y.2=0:=fun e=>by
  subst e;exact wv sZ _ _ _ (hc rfl) yh
 have i0:=XR h0;obtain⟨X0,c0,l0⟩:=k0.m hf hc (fun e=>ud (h12 e) (yA h0)) yh (hS.A0 n ww);obtain⟨e,fx⟩:=zT.1 hx;subst e;have i1:=Qa h1;have hkn:=hn.kids _ (yA h1);obtain⟨q1,q2,q3⟩:=Xf hk hkn.val.n;have iv : ∀S,zO (callL Tryz.prog zD) S 101 [.agg [.bool (n.kids.getD 1 nd0).neg,.sl (zE .u32 (n.kids.getD 1 nd0).num) false,.sl (zE .u32 (n.kids.getD 1 nd0).den) false]]=some {v:=xY (Zi (n.kids.getD 1 nd0).num)⁻¹ } := fun S=>zF (by rw[q1];exact zB5 _ (q2.mono (by omega)) (q3 hz)) (by rw[q1];simp[uK]);clear q1 q2 q3;generalize (Zi (n.kids.getD 1 nd0).num)⁻¹ = q at *;have m1:=fun S=>Jp S y.1 q yf.1 jf.1;have m2:=fun S=>Jp S y.2 q yf.2 jf.1;rw[zHT]at fx zx ⊢;have bd:=Vd ((((hS.A0 n ww).app l0).flat (qb y.1 y.2)).flat (A:=[.arr [r3 q] none false]) (by simp only[xB,xh,yH (qO _),pD])) (y.1*q,y.2*q) fx zx;dsimp only at bd ⊢;refine⟨A0 id n (d2 (y.1*q) (y.2*q))++(X0++([.arr [d2 y.1 y.2] none false]++([.arr [r3 q] none false]++([.arr [d2 (y.1*q) (y.2*q)] none false,.arr [d2 (y.1*q) (y.2*q)] none false])))),?_,?_⟩
 rotate_left
 ·simp only[wE,xB,xh,yH (xD _ _),yH (qO _),pD,bC];rw[jB (by have:=hS.lt;omega) n (xD _ _),yp l0 (by simp only[bN,bL,bV,kL];omega)];rfl
 simp only[wX]at *;refine FX.callRL ok55_ 1000 rfl rfl ?_;unfold A0 zd r3 d2 evc d2 at *;unfold yD at *;simp only[pB,sB,pG]at *;((repeat((conv=>lhs;whnf);simp only[go_sem,simprocAttr,ho,z,i0,i1,c0,iv,m1,m2,bd,ev,hN,xK hN,wO,xX]));try rfl)
end
end
section
theorem UP {S:zB} {id:Nat} {c:List PV} (h:S[id]? = some (.arr [c] none false)) (k off:Nat) (v:PV) (h1:off+k≤c.length) (h2:v.cells.length=k) (h3:v.cells.all PV.cell=true) (A:zB):yW k (S++A) (.mp id 0 off) v=some (S.set id (.arr [kq c off v.cells] none false)++A):=by
 have hlt:=(bS.1 h).1;simp only[yW];rw[ut h A];dsimp only;rw[bA ⟨Nat.zero_lt_one,h1,h2,h3⟩,List.set_append_left _ _ hlt];rfl
theorem ES.set {S:zB} {id:Nat} {c:List PV} (h:ES S id c) {c':List PV} (hr:zV [c']=[]):ES (S.set id (.arr [c'] none false)) id c':=by
 refine⟨by rw[BO h.lt],?_⟩;exact ZA h.low id (by rw[hr];intro x hx;cases hx)
theorem Jq {S:zB} {id:Nat} {o o':Obj} (h:S[id]? = some o):(S.set id o').set id o=S:=by
 have hlt:=(bS.1 h).1;rw[List.set_set];refine SB fun i=>?_;rw[HX];by_cases e:id=i
 ·rw[bA e,bA hlt,←e,h]
 ·rw[hZ e]
section
attribute [local irreducible] Vs.callL Vs.callRL tyi zO zn zg zR zY za zI zZ zA zK ze zX zG zJ zW zr yJ zq zL zf Vs.gc zH
theorem zKB {L:List Bd} {I:List Pr} (h:RC 4096 L I) (sy:Node→DV→Bool→Option DV) (sF : ∀s,Vs.W2 4096 (sy s)) (sZ : ∀s,ZE (sy s)) (n:Node) (hn:n.ok) (ho:n.op=12) (h0:0<n.kids.length) (k0:wI L I ((n.kids.getD 0 nd0).ev 4096 L sy) (n.kids.getD 0 nd0)) (hk:(n.kids.getD 0 nd0).has (ys 12)=false):wI L I (n.ev 4096 L sy) n:=by
 intro a c df x S id hf hc h12 hx hS;have zx:df=false→x.2=0:=fun e=>by
  subst e;exact wv sZ n _ _ (hc rfl) hx
 rw[Node.ev_eq]at hx;unfold xe at hx
 repeat rw[hZ (by rw[ho];decide)]at hx
 rw[bA ho]at hx;have ev:=hS.rows;obtain⟨N,hN⟩ : ∃N,S.length=N:=⟨_,rfl⟩;have z:=vl;have ed:df=false:=by
  cases df
  ·rfl
  ·have:=h12 rfl;rw[Node.has_eq,ho]at this;exact absurd this (by simp[ys])
 subst ed;obtain rfl:=hc rfl;obtain⟨y,yh,hx⟩:=bJ.1 hx;rw[uB _ _ _ _ _ h0]at yh;have yf:=uz (by omega) sF _ _ _ _ hf yh;have i0:=XR h0;have hS1:=hS.set (Jo L I a 0 true false);have s1:=UP hS.at_ 1 8 (.bool true) (by show 9≤10;decide) rfl rfl;have s2:=UP hS1.at_ 1 8 (.bool false) (by show 9≤10;decide) rfl rfl;change ∀A,yW 1 (S++A) (.mp id 0 8) (.bool true)=some (S.set id (.arr [evc L I a 0 true false] none false)++A) at s1;change ∀A,yW 1 (S.set id (.arr [evc L I a 0 true false] none false)++A) (.mp id 0 8) (.bool false)=some ((S.set id (.arr [evc L I a 0 true false] none false)).set id (.arr [evc L I a 0 false false] none false)++A) at s2;rw[Jq hS.at_]at s2;have hN1:(S.set id (.arr [evc L I a 0 true false] none false)).length=N:=by rw[aY,hN]
 generalize S.set id (.arr [evc L I a 0 true false] none false)=S1 at *;have ev1:=hS1.rows;obtain⟨X0,c0,l0⟩:=k0.m hf (fun e=>by cases e) (fun _=>hk) yh (hS1.A0 n ww);obtain⟨e,fx⟩:=zT.1 hx;subst e;rw[bN,hN1,←hN,←bN (bs:=A0 id n zd)]at l0;dsimp only;refine⟨A0 id n (d2 y.2 0)++(X0++([.arr [d2 y.1 y.2] none false])),?_,?_⟩
 rotate_left
 ·simp only[wE,xB,xh,yH (xD _ _),yH (qO _),pD,bC];rw[jB (by have:=hS.lt;omega) n (xD _ _),yp l0 (by simp only[bN,bL,bV,kL];omega)];rfl
 simp only[wX]at *;refine FX.callRL ok55_ 1000 rfl rfl ?_;unfold A0 zd r3 d2 evc d2 at *;unfold yD at *;simp only[pB,sB,pG]at *;((repeat((conv=>lhs;whnf);simp only[go_sem,simprocAttr,ho,z,i0,c0,s1,s2,ev1,hN1,xK hN1,ev,hN,xK hN,wO,xX]));try rfl)
theorem zKC {L:List Bd} {I:List Pr} {a c:Rat} {df:Bool} (al:DV) (hal:jj 4096 al) (zal:df=false→al.2=0) {T:zB} {N M id pa:Nat} (hM:T.length=M) (hT : ∀A,ua 0 A=true→ES (T++A) id (evc L I a c df false)) (pT : ∀A,zl (T++A) N=some [[.mp id 0 0]]) (pa_ : ∀A,zl (T++A) pa=some [d2 al.1 al.2]) (hNM:N+2<M) (hpa:pa<M) (fs:List Fr) (K1:Nat) (hK1:K1=M+1) : ∀(k:Nat),k≤20→∀(o x:DV),jj 4096 o→(df=false→o.2=0)→Q9 4096 al k o=some x→∀z,
  yB N zM1 1 fs [(2,.undef),(4,.mp (N+2) 0 0),(13,.undef),(14,.undef),(16,.mp M 0 0),(186,.undef)] (T++[.arr [d2 x.1 x.2] none false])=some z →
  zU N zM1 1 1031798648 K1 fs [(2,.mp N 0 0),(4,.mp (N+2) 0 0),(13,.mp pa 0 0),(14,.int .i64 k),(16,.mp M 0 0)] (T++[.arr [d2 o.1 o.2] none false])=some z:=by
 subst hK1;intro k
 induction k with
 | zero =>
  intro _ o x hfo zo hx z hz;cases hx;have gl:=fun e=>zMF (T++[.arr [d2 o.1 o.2] none false]) e (M+1) (by simp[hM]);apply zC;unfold d2 evc d2 at *;unfold yD at *;(repeat((conv=>lhs;whnf);simp only[go_sem,simprocAttr,gl]));exact hz
 | succ k ih =>
  intro hk o x hfo zo hx z hz;obtain⟨p,ph,hx⟩:=bJ.1 hx;obtain⟨e,fp⟩:=zT.1 ph;subst e;have zp:df=false→(xg o al).2=0:=fun e=>jA (zo e) (zal e);have key:=ih (by omega) _ x fp zp hx z hz;have e1:=hT [.arr [d2 o.1 o.2] none false] (qb _ _);have mu:=zOg e1 o al hfo hal zo zal;have bd:=Vd (e1.flat (A:=[.arr [d2 o.1 o.2] none false,.arr [d2 al.1 al.2] none false,.arr [d2 (xg o al).1 (xg o al).2] none false,.arr [d2 (xg o al).1 (xg o al).2] none false]) (by simp only[xB,xh,yH (xD _ _),pD])) (xg o al) fp zp;have c1:(0:Int)<((k+1:Nat):Int):=by omega
  have w1:IntKind.i64.wrap (((k+1:Nat):Int)-1)=(k:Int):=by rw[bE];omega
  have pid:=fun A=>e1.rows A;have tp:=fun (o':Obj) (A:zB)=>hT (o'::A);have lT:=(hT [] rfl).low;rw[pX,hM]at lT;have p1 : ∀A,zl (T++A) id=some [evc L I a c df false]:=fun A=>by
   have:=(hT [] rfl).rows A
   rwa [pX]at this
  generalize xg o al=p at *;have hG : ∀A,Vs.gc (M+1) [(2,.mp N 0 0),(4,.mp (N+2) 0 0),(13,.mp pa 0 0),(14,.int .i64 k),(16,.mp M 0 0)] (T ++ .arr [d2 p.1 p.2] none false::A)=T++[.arr [d2 p.1 p.2] none false]:=fun A=>by
   have e:(T++Obj.arr [d2 p.1 p.2] none false::A).take (M+1)=T++[Obj.arr [d2 p.1 p.2] none false]:=by
    rw[List.take_append,hM,aN,aW (by omega)];rfl
   rw[zI3 _ _,e]
   ·simp[vc,jM];omega
   ·rw[e];simp only[wE,xB,xh,yH (xD _ _),yp lT (show M≤M+1 by omega),pD]
  clear hT tp e1 lT pid;apply zC;unfold d2 evc d2 at *;unfold yD at *;simp only[pB,sB,pG]at *;(repeat((conv=>lhs;whnf);simp only[go_sem,simprocAttr,c1,w1,pT,pa_,p1,mu,bd,hG,hM,xK hM,xX]));exact key
end
end
section
theorem zAl {A:zB} (h:ua 0 A=true) (N:Nat):ua N A=true:=yp h (sN N)
section
attribute [local irreducible] Vs.callL Vs.callRL tyi zO zn zg zR zY za zI zZ zA zK ze zX zG zJ zW zr yJ zq zL zf Vs.gc zH
theorem zMa {L:List Bd} {I:List Pr} (h:RC 4096 L I) (sy:Node→DV→Bool→Option DV) (sF : ∀s,Vs.W2 4096 (sy s)) (sZ : ∀s,ZE (sy s)) (n:Node) (hn:n.ok) (ho:n.op=9) (h0:0<n.kids.length) (k0:wI L I ((n.kids.getD 0 nd0).ev 4096 L sy) (n.kids.getD 0 nd0)) (h1:1<n.kids.length) (hz:0≤vg (n.kids.getD 1 nd0).num 20∧vg (n.kids.getD 1 nd0).num 20≤20):wI L I (n.ev 4096 L sy) n:=by
 intro a c df x S id hf hc h12 hx hS;have zx:df=false→x.2=0:=fun e=>by
  subst e;exact wv sZ n _ _ (hc rfl) hx
 rw[Node.ev_eq]at hx;unfold xe at hx
 repeat rw[hZ (by rw[ho];decide)]at hx
 rw[bA ho]at hx;have ev:=hS.rows;obtain⟨N,hN⟩ : ∃N,S.length=N:=⟨_,rfl⟩;have z:=vl;obtain⟨y,yh,hx⟩:=bJ.1 hx;rw[uB _ _ _ _ _ h0]at yh;have yf:=uz (by omega) sF _ _ _ _ hf yh;have yz:df=false→y.2=0:=fun e=>by
  subst e;exact wv sZ _ _ _ (hc rfl) yh
 have i0:=XR h0;obtain⟨X0,c0,l0⟩:=k0.m hf hc (fun e=>ud (h12 e) (yA h0)) yh (hS.A0 n ww);have i1:=Qa h1;obtain⟨K,hK⟩ : ∃K:Nat,vg (n.kids.getD 1 nd0).num 20=(K:Int):=⟨(vg (n.kids.getD 1 nd0).num 20).toNat,by omega⟩;rw[hK,bD]at hx;rw[hK]at hz;have on:=zQB;have f10:jj 4096 (1,0):=⟨V8 (by omega),uC (by omega)⟩;obtain⟨T,hT⟩ : ∃T,T=S++(A0 id n zd++(X0++[.arr [d2 y.1 y.2] none false])):=⟨_,rfl⟩;have eT : ∀A,T++A=S++(A0 id n zd++(X0++(.arr [d2 y.1 y.2] none false::A))):=fun A=>by rw[hT];simp
 have hM:T.length=N+(X0.length+1+1+1+1+1):=by
  rw[hT];simp[kL,hN];omega
 have q1 : ∀A,ua 0 A=true→ES (T++A) id (evc L I a c df false):=fun A hA=>by
  have e:=(((hS.A0 n ww).app l0).flat (qb y.1 y.2)).flat hA;have:T++A=S++A0 id n zd++X0++[.arr [d2 y.1 y.2] none false]++A:=by rw[eT];simp
  rw[this];exact e
 have q2 : ∀A,zl (T++A) N=some [[.mp id 0 0]]:=fun A=>by rw[eT,zCd hN];rfl
 have q3 : ∀A,zl (T++A) (N+(X0.length+1+1+1+1))=some [d2 y.1 y.2]:=fun A=>by
  rw[eT,zCc hN]
  show zl (X0++(.arr [d2 y.1 y.2] none false::A)) X0.length=_
  rw[zFQ];rfl
 have key:=fun fs K1 (hK1:K1=N+(X0.length+1+1+1+1+1)+1)=>zKC y yf yz hM q1 q2 q3 (by omega) (by omega) fs K1 hK1 K (by omega) (1,0) x f10 (fun _=>rfl) hx;simp only[eT]at key;clear q1 q2 q3 eT hM hT;by_cases hl:(n.kids.getD 1 nd0).num.length=0
 ·have k0:K=0:=by
   unfold vg at hK;rw[bA hl]at hK;omega
  subst k0;have g1 : ¬(0:Int)<((n.kids.getD 1 nd0).num.length:Int):=by omega
  refine⟨A0 id n (d2 x.1 x.2)++(X0++([.arr [d2 y.1 y.2] none false,.arr [d2 x.1 x.2] none false])),?_,?_⟩
  rotate_left
  ·simp only[wE,xB,xh,yH (xD _ _),yH (qO _),pD,bC];rw[jB (by have:=hS.lt;omega) n (xD _ _),yp l0 (by simp only[bN,bL,bV,kL];omega)];rfl
  simp only[wX]at *;refine FX.callRL ok55_ 1000 rfl rfl ?_;unfold A0 zd r3 d2 evc d2 at *;unfold yD at *;simp only[pB,sB,pG]at *;(repeat((conv=>lhs;whnf);simp only[go_sem,simprocAttr,ho,z,i0,i1,c0,on,g1,ev,hN,xK hN,wO,xX]));refine key _ _ (by omega) _ ?_;apply zN;((repeat((conv=>lhs;whnf);simp only[go_sem,simprocAttr,ho,z,ev,hN,xK hN,wO,xX]));try rfl)
 ·have kk:(n.kids.getD 1 nd0).num.getD 0 0=(K:Int):=by
   unfold vg at hK;rw[hZ hl]at hK;by_cases hc:1<(n.kids.getD 1 nd0).num.length∨20<(n.kids.getD 1 nd0).num.getD 0 0
   ·rw[bA hc]at hK;omega
   ·rw[hZ hc]at hK;exact hK
  have g1:(0:Int)<((n.kids.getD 1 nd0).num.length:Int):=by omega
  have g2:0≤(0:Int)∧(0:Int)<((n.kids.getD 1 nd0).num.length:Int):=⟨by omega,by omega⟩;have wk:IntKind.i64.wrap (K:Int)=(K:Int):=by rw[bE];omega
  refine⟨A0 id n (d2 x.1 x.2)++(X0++([.arr [d2 y.1 y.2] none false,.arr [d2 x.1 x.2] none false])),?_,?_⟩
  rotate_left
  ·simp only[wE,xB,xh,yH (xD _ _),yH (qO _),pD,bC];rw[jB (by have:=hS.lt;omega) n (xD _ _),yp l0 (by simp only[bN,bL,bV,kL];omega)];rfl
  simp only[wX]at *;refine FX.callRL ok55_ 1000 rfl rfl ?_;unfold A0 zd r3 d2 evc d2 at *;unfold yD at *;simp only[pB,sB,pG]at *;(repeat((conv=>lhs;whnf);simp only[go_sem,simprocAttr,ho,z,i0,i1,c0,on,g1,g2,kk,wk,ev,hN,xK hN,wO,xX]));refine key _ _ (by omega) _ ?_;apply zN;((repeat((conv=>lhs;whnf);simp only[go_sem,simprocAttr,ho,z,ev,hN,xK hN,wO,xX]));try rfl)
end
end
end Go.Vs

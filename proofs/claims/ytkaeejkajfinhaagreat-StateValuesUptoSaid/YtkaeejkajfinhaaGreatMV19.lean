
import Derived.Test.YtkaeejkajfinhaaGreatMV18
set_option linter.unusedVariables false
set_option linter.unusedSimpArgs false
set_option maxRecDepth 100000
namespace Go.Vs
open Go Go.Proofs
section
theorem zH0 {v:RV} (h:v.ok) (hf:v.fit=true) : ∃q:Rat,.agg v.cells=xU q∧v.neg=yU q∧v.num=words q.num.natAbs∧v.den=words q.den∧wL q 400:=by
 unfold RV.fit at hf;simp only[bO,pA]at hf;obtain⟨q,h1,h2,h3,h4,h5⟩:=(zFP h.n h.d).1 hf.2;refine⟨q,?_,h1,h2,h3,?_,?_⟩
 ·unfold RV.cells xU kS;rw[h1,h2,h3]
 ·rw[←h2];exact hf.1.1
 ·rw[←h3];exact hf.1.2
theorem zGD (v:RV) (h:v.ok) (hf:v.fit=true):callL Tryz.prog zE 63 [.agg v.cells]=some (.agg v.cells):=by
 obtain⟨q,h1,_,_,_,h2⟩:=zH0 h hf;rw[h1];exact ZM q (h2.mono (by omega))
theorem zMt (S:zB) (v:RV) (h:v.ok) (hf:v.fit=true):zO (callL Tryz.prog zE) S 63 [.agg v.cells]=some {v:=.agg v.cells} := zF (zGD v h hf) (by simp;exact jA v)
theorem Ve:xU 0=.agg rv0.cells:=by
 have h0:words 0=[]:=(vD WB2).2 rfl;have h1:words 1=[1]:=ku
 show kS _ (words 0) (words 1)=_
 rw[h0,h1];rfl
theorem zOz (S:zB):zO (callL Tryz.prog zE) S 54 []=some {v:=.agg rv0.cells} := zF (by rw[ZL,Ve]) (by simp)
theorem zKs {L:List Bd} (hg : ∀b∈L,b.good) {i:Nat} (hi:i<L.length):(L.getD i bd0).val.fit=true:=by
 rw[ZB hi];exact (hg _ (PE hi)).fit
section
attribute [local irreducible] Vs.callL Vs.callRL tyi zO zl zf zR zW za zI zY zA zK zb zV zG zJ zU zn yI zm zL ze Vs.gc zH
noncomputable def zR8:FX:=⟨Tryz.f59,zE.of 59,[]⟩
instance ok59_:zR8.ok 59:=FX.mk'
theorem zKt (L:List Bd) (nm:ByteArray) (hL:WD L) (hg : ∀b∈L,b.good) (hs:WE L) (hl:L.length≤1000000):callL Tryz.prog zE 59 [.sl (yW L) false,.str nm]=some (.agg (Zd nm L).cells):=by
 have cf:=fun S=>zF (S:=S) (zIj L nm hl (Kp nm hs)) (by simp[zh.str];exact Z9 L);have gp:=zDm nm hs;have zo:=fun S=>zOz S;unfold RV.cells at zo;change ∀S,zO _ S _ _=some {v:=(.tup [.int .i64 (Zc nm L),.bool (Kq nm L)]:PV)} at cf
 cases hf:Kq nm L
 ·rw[hf]at cf gp;simp only[bY,if_false]at gp;rw[←gp];refine FX.callL (r:=(.agg [.bool rv0.neg,.sl (zD .u32 rv0.num) false,.sl (zD .u32 rv0.den) false],[.arr [[.bool rv0.neg,.sl (zD .u32 rv0.num) false,.sl (zD .u32 rv0.den) false]] none false])) ok59_ 1000 rfl rfl ?_ rfl;((repeat((conv=>lhs;whnf);simp only[go_sem,simprocAttr,cf,zo]));try rfl)
 ·rw[hf]at cf gp;simp only[if_true]at gp;have hp:Zc nm L<L.length:=by
   unfold Kq at hf;simp only[bO,pA]at hf;exact hf.1
  have x1:0≤(Zc nm L:Int)∧(Zc nm L:Int)<(L.length:Int):=⟨by omega,by omega⟩;have cc:=fun S=>zMt S (L.getD (Zc nm L) bd0).val (hL.at hp).v (zKs hg hp);unfold RV.cells at cc;rw[←gp];refine FX.callL (r:=(.agg (L.getD (Zc nm L) bd0).val.cells,[.arr [(L.getD (Zc nm L) bd0).val.cells] none false])) ok59_ 1000 rfl rfl ?_ rfl;unfold RV.cells;((repeat((conv=>lhs;whnf);simp only[go_sem,simprocAttr,cf,x1,bD,Bd.cells,cc]));try rfl)
noncomputable def zNg:FX:=⟨Tryz.f60,zE.of 60,[]⟩
instance ok60_:zNg.ok 60:=FX.mk'
theorem zGE (L:List Bd) (nm:ByteArray) (hl:L.length≤1000000) : ∀(m i:Nat),i+m=L.length→(∀k,k<i→(L.getD k bd0).name.toList≠nm.toList)→zS 0 zNg 0 52 1 [.blk 0,.seq 0 7] [(0,.sl (yW L) false),(1,.str nm),(4,.mp 0 0 0),(5,.int .i64 i)] [.arr [[.bool false,.sl [] true,.sl [] true]] none false]=some (.agg (Zd nm (L.drop i)).cells,[.arr [(Zd nm (L.drop i)).cells] none false]):=by
 have zz : ∀S,zO (callL Tryz.prog zE) S 51 []=some {v:=rrV 0} := fun S=>zF YC (by simp);have zt : ∀S,zO (callL Tryz.prog zE) S 32 [rrV 0]=some {v:=.agg rv0.cells} := fun S=>zF (by rw[Ka 0 ⟨by decide +kernel,by decide +kernel⟩,Ve]) (by simp;exact jc 0);unfold RV.cells at zt;intro m
 induction m with
 | zero =>
  intro i hi hk;have h1 : ¬(i:Int)<(L.length:Int):=by omega
  have e:L.drop i=[]:=SE (by omega);rw[e];apply zC;(repeat((conv=>lhs;whnf);simp only[go_sem,simprocAttr,h1]));apply zN;unfold Zd RV.cells;((repeat((conv=>lhs;whnf);simp only[go_sem,simprocAttr,zz,zt]));try rfl)
 | succ m ih =>
  intro i hi hk;have h1:(i:Int)<(L.length:Int):=by omega
  have h2:=zg (i:=i) (n:=L.length) (by omega) (by unfold maxLen;omega);have x1:0≤(i:Int)∧(i:Int)<(L.length:Int):=⟨by omega,h1⟩;have e:L.drop i=L.getD i bd0::L.drop (i+1):=by rw[ZB (by omega)];exact PK (by omega)
  rw[e];apply zC;by_cases c:(L.getD i bd0).name.toList=nm.toList
  ·have c':((L.getD i bd0).name.toList == nm.toList)=true:=beq_iff_eq.2 c;simp only[Zd,c,if_true];unfold RV.cells;((repeat((conv=>lhs;whnf);simp only[go_sem,simprocAttr,h1,x1,bD,Bd.cells,c']));try rfl)
  ·have c':((L.getD i bd0).name.toList == nm.toList)=false:=beq_eq_false_iff_ne.2 c;have key:=ih (i+1) (by omega) (fun k hk'=>by
    rcases PD (Nat.le_of_lt_succ hk') with h | rfl
    ·exact hk k h
    ·exact c)
   simp only[Zd,c,if_false];(repeat((conv=>lhs;whnf);simp only[go_sem,simprocAttr,h1,x1,bD,Bd.cells,c',h2]));exact key
theorem zGF (L:List Bd) (nm:ByteArray) (hl:L.length≤1000000):callL Tryz.prog zE 60 [.sl (yW L) false,.str nm]=some (.agg (Zd nm L).cells):=by
 refine FX.callL (r:=(.agg (Zd nm L).cells,[.arr [(Zd nm L).cells] none false])) ok60_ 1000 rfl rfl ?_ rfl;have key:=zGE L nm hl L.length 0 (by omega) (fun k hk=>absurd hk (by omega));(repeat((conv=>lhs;whnf);simp only[go_sem,simprocAttr]));exact key
end
end
section
def rvE:RV:=⟨false,[],[]⟩
theorem zKu (S:zB) (L:List Bd) (nm:ByteArray) (hL:WD L) (h:YX L=true):zO (callL Tryz.prog zE) S 59 [.sl (yW L) false,.str nm]=some {v:=.agg (Zd nm L).cells} :=
 have h':=Ko.1 h
 zF (zKt L nm hL h'.2.1 h'.2.2 (by have:=h'.1;omega)) (by simp[zh.str];exact Z9 L)
theorem zBZ (S:zB) (L:List Bd) (nm:ByteArray) (h:L.length≤1000000):zO (callL Tryz.prog zE) S 60 [.sl (yW L) false,.str nm]=some {v:=.agg (Zd nm L).cells} := zF (zGF L nm h) (by simp[zh.str];exact Z9 L)
section
attribute [local irreducible] Vs.callL Vs.callRL tyi zO zl zf zR zW za zI zY zA zK zb zV zG zJ zU zn yI zm zL ze Vs.gc zH
end
end
@[go_sem] theorem zR9 (id n:Nat) (is:List Nat) (rows:List (List PV)):zG Tryz.prog 35 id n is rows=if is=List.range n∧yM 4 rows=true∧(rows.all fun r=>r.all PV.cell)=true∧n*4≤16777216 then some {v:=.msl id 0 n true,new:=some (rows,some (some 4))} else none:=zKi.buildSlice (by decide) id n is rows
theorem Bd.refs (b:Bd):zT [b.cells]=[]:=rfl
theorem RV.refs (v:RV):zT [v.cells]=[]:=rfl
theorem xA {rows:List (List PV)} {g:Option (Option Nat)} {f:Bool} {l:List Nat} (h:zT rows=[]):yr l (.arr rows g f)=.arr rows g f:=by
 simp only[yr,vL,h,BQ,bY,if_false]
section
theorem Wu {S S':zB} {j:Nat} (L:List Int) (x:Int) (g:Option Nat) (hg:g=none∨g=some 1) (hl:L.length≤10000000) (ex:Bool)
  (h1:S[2]? = some (.arr (zD .i64 L) (some g) false)) (hj:S[j]? = some (.arr [[.int .i64 x]] (some (some 1)) false)) (hS:(S.map (yr [2])).set 2 (.arr (zD .i64 (L++[x])) (some (some 1)) false)=S') :
  zR Tryz.prog 0 59 59 S (.msl 2 0 L.length false) (.msl j 0 1 ex)=some {v:=.msl 2 0 (L.length+1) false,S:=S',kill:=[2]} := by
 have:=qs.app (b:=0) (S:=S) (id:=2) (rows:=zD .i64 L) (new:=zD .i64 [x]) (g:=g) (p:=.msl j 0 1 ex) h1 (by decide) hg (RowsV.msl j (zD .i64 [x]) ex _ _ hj) (xg _ _) (xg _ _) (by rw[zQ,zQ];simp only[aE];omega) (by rw[zQ,zQ];simp;omega) (by rw[zk];simp) (by rw[zk];simp);rw[zQ,←qN,hS]at this;exact this
theorem Qm (l:List Node) (i:Nat):(Node.rows l).take i=Node.rows (l.take i):=by simp[Node.rows_eq,List.map_take]
theorem zMu (S:zB) (l:List Node) (i:Nat) (h:i≤l.length):zY Tryz.prog 28 S (.sl (Node.rows l) false) none (some (.int .i64 i)) none=some (.sl (Node.rows (l.take i)) false):=by
 have:=vf.firsts S (rows:=Node.rows l) false i (by rw[Node.rows_length];exact h) (Node.rows_ok l);rw[Qm]at this;exact this
def vU (i:Nat):List Int:=List.replicate i 4
theorem ur (i:Nat):(vU i).length=i:=by simp[vU]
theorem zGG (i:Nat):vU i++[4]=vU (i+1):=by simp[vU,SA]
section
attribute [local irreducible] Vs.callL Vs.callRL tyi zO zl zf zR zW za zI zY zA zK zb zV zG zJ zU zn yI zm zL ze Vs.gc zH
theorem zB0 (n:Node) (hn:n.ok) (a b c:Bool) (last i:Nat) (hi:i<n.kids.length) (g:Option Nat) (fs:List Fr) : ∀(m j:Nat),j+m=i →
  ((((n.kids.take i).drop j).all (vN (n.kids.getD i nd0)))=true→∀z,yB 0 qz 5 fs [(2,.mp 0 0 0),(3,.mp 1 0 0),(6,.msl 2 0 i false),(7,.int .i64 last),(8,.int .i64 i),(9,.undef),(137,.undef),(138,.undef),(139,.undef),(140,.undef)]
    [.arr [n.cells] none false,.arr [[.bool a,.bool b,.bool c]] none false,.arr (zD .i64 (vU i)) (some g) false,.arr [(n.kids.getD i nd0).cells] none false]=some z →
   zS 0 qz 5 131557684 4 fs [(2,.mp 0 0 0),(3,.mp 1 0 0),(6,.msl 2 0 i false),(7,.int .i64 last),(8,.int .i64 i),(9,.mp 3 0 0),(137,.sl (Node.rows (n.kids.take i)) false),(138,.int .i64 i),(139,.int .i64 j)]
    [.arr [n.cells] none false,.arr [[.bool a,.bool b,.bool c]] none false,.arr (zD .i64 (vU i)) (some g) false,.arr [(n.kids.getD i nd0).cells] none false]=some z) ∧
  ((((n.kids.take i).drop j).all (vN (n.kids.getD i nd0)))=false→∃S',
   zS 0 qz 5 131557684 4 fs [(2,.mp 0 0 0),(3,.mp 1 0 0),(6,.msl 2 0 i false),(7,.int .i64 last),(8,.int .i64 i),(9,.mp 3 0 0),(137,.sl (Node.rows (n.kids.take i)) false),(138,.int .i64 i),(139,.int .i64 j)]
    [.arr [n.cells] none false,.arr [[.bool a,.bool b,.bool c]] none false,.arr (zD .i64 (vU i)) (some g) false,.arr [(n.kids.getD i nd0).cells] none false]=some (.bool false,S')):=by
 intro m
 induction m with
 | zero =>
  intro j hj;have h1 : ¬(j:Int)<(i:Int):=by omega
  have e0:((n.kids.take i).drop j)=[]:=bT (by simp;omega);rw[e0];refine⟨fun _ z hz=>?_,fun h=>by simp at h⟩;apply zC;(repeat((conv=>lhs;whnf);simp only[go_sem,simprocAttr,h1]));exact hz
 | succ m hm =>
  intro j hj;have h1:(j:Int)<(i:Int):=by omega
  have h2:=zg (i:=j) (n:=n.kids.length) (by omega) hn.len;have h3:0≤(j:Int)∧(j:Int)<((n.kids.take i).length:Int):=⟨by omega,by simp;omega⟩;have hg:=zI9 (l:=n.kids) (i:=i) (j:=j) (by omega);obtain⟨k1,k2⟩:=hm (j+1) (by omega);rw[Yl (l:=n.kids) (i:=i) (j:=j) (by omega) (by omega),HP];generalize hK:n.kids.getD i nd0=K at *;unfold vN at *;by_cases hop:K.op=55
  ·cases hnm:(n.kids.getD j nd0).name.toList == K.name.toList
   ·simp only[hop,hnm,decide_true,bC,bJ]at k1 k2 ⊢;refine⟨fun ha z hz=>?_,fun ha=>?_⟩
    ·apply zC;(repeat((conv=>lhs;whnf);simp only[go_sem,simprocAttr,h1,h2,h3,bD,hg,hop,hnm]));exact k1 ha z hz
    ·obtain⟨S',k⟩:=k2 ha;refine⟨S',ys ok78_.good 1000 ?_⟩;(repeat((conv=>lhs;whnf);simp only[go_sem,simprocAttr,h1,h2,h3,bD,hg,hop,hnm]));exact k
   ·refine⟨fun ha=>by simp[hop,hnm]at ha,fun _=>?_⟩;apply Exists.intro;apply zC;((repeat((conv=>lhs;whnf);simp only[go_sem,simprocAttr,h1,h2,h3,bD,hg,hop,hnm]));try rfl)
  ·simp only[hop,decide_false,bB,bJ,bC]at k1 k2 ⊢;refine⟨fun ha z hz=>?_,fun ha=>?_⟩
   ·apply zC;(repeat((conv=>lhs;whnf);simp only[go_sem,simprocAttr,h1,h2,h3,bD,hg,hop]));exact k1 ha z hz
   ·obtain⟨S',k⟩:=k2 ha;refine⟨S',ys ok78_.good 1000 ?_⟩;(repeat((conv=>lhs;whnf);simp only[go_sem,simprocAttr,h1,h2,h3,bD,hg,hop]));exact k
theorem zB1 (n:Node) (hn:n.ok) (hlen:n.kids.length≤100000) (a b c:Bool) (last:Nat) (hlast:last+1=n.kids.length) :
  ∀(m i:Nat),i+m=last→∀(g:Option Nat),(g=none∨g=some 1)→∃g',(g'=none∨g'=some 1) ∧
   (uc n.kids last m i=true→∀z,yB 0 qz 3 [.blk 3,.seq 0 32119,.blk 0,.seq 0 63] [(2,.mp 0 0 0),(3,.mp 1 0 0),(6,.msl 2 0 last false),(7,.undef),(8,.undef),(112,.undef)]
     [.arr [n.cells] none false,.arr [[.bool a,.bool b,.bool c]] none false,.arr (zD .i64 (vU last)) (some g') false]=some z →
    zS 0 qz 3 256948 3 [.blk 3,.seq 0 32119,.blk 0,.seq 0 63] [(2,.mp 0 0 0),(3,.mp 1 0 0),(6,.msl 2 0 i false),(7,.int .i64 last),(8,.int .i64 i)]
     [.arr [n.cells] none false,.arr [[.bool a,.bool b,.bool c]] none false,.arr (zD .i64 (vU i)) (some g) false]=some z) ∧
   (uc n.kids last m i=false→∃S',
    zS 0 qz 3 256948 3 [.blk 3,.seq 0 32119,.blk 0,.seq 0 63] [(2,.mp 0 0 0),(3,.mp 1 0 0),(6,.msl 2 0 i false),(7,.int .i64 last),(8,.int .i64 i)]
     [.arr [n.cells] none false,.arr [[.bool a,.bool b,.bool c]] none false,.arr (zD .i64 (vU i)) (some g) false]=some (.bool false,S')):=by
 intro m
 induction m with
 | zero =>
  intro i hi g hg;obtain rfl:i=last:=by omega
  have h1 : ¬(i:Int)<(i:Int):=by omega
  refine⟨g,hg,fun _ z hz=>?_,fun h=>by simp[uc]at h⟩;apply zC;(repeat((conv=>lhs;whnf);simp only[go_sem,simprocAttr,h1]));exact hz
 | succ m hm =>
  intro i hi g hg;have h1:(i:Int)<(last:Int):=by omega
  have h2:(i:Int)<(n.kids.length:Int):=by omega
  have h3:0≤(i:Int)∧(i:Int)<(n.kids.length:Int):=⟨by omega,h2⟩;have hM:=xV;have hnl:=hn.len;have h4:IntKind.i64.wrap ((last:Int)-1)=((last-1:Nat):Int):=by rw[bE];omega
  have h5:=zg (i:=i) (n:=n.kids.length) (by omega) hn.len;have hsl:=fun S=>zMu S n.kids i (by omega);have hlt:(n.kids.take i).length=i:=by simp;omega
  obtain⟨g',hg',k1,k2⟩:=hm (i+1) (by omega) (some 1) (.inr rfl);have L5:=fun fs=>zB0 n hn a b c last i (by omega) g fs i 0 (by omega);have ha:=Wu (S:=[.arr [n.cells] none false,.arr [[.bool a,.bool b,.bool c]] none false,.arr (zD .i64 (vU i)) (some g) false,.arr [(n.kids.getD i nd0).cells] none false,.arr [[.int .i64 4]] (some (some 1)) false]) (j:=4) (vU i) 4 g hg (by rw[ur];omega) true rfl rfl
   (S':=[.arr [n.cells] none false,.arr [[.bool a,.bool b,.bool c]] none false,.arr (zD .i64 (vU (i+1))) (some (some 1)) false,.arr [(n.kids.getD i nd0).cells] none false,.arr [[.int .i64 4]] (some (some 1)) false])
   (by simp only[pZ,HQ,xA (yZ _),xA (zk _ _),xA (show zT [[PV.bool a,.bool b,.bool c]]=[] from rfl),xA (show zT [[PV.int .i64 4]]=[] from rfl),zGG];rfl)
  rw[ur]at ha;simp only[bX]at L5;have e0:uc n.kids last (m+1) i=(zAy n.kids last i&&uc n.kids last m (i+1)):=rfl;refine⟨g',hg',?_,?_⟩
  all_goals rw[e0]
  all_goals unfold zAy
  all_goals generalize hK:n.kids.getD i nd0=K at *
  ·intro hf z hz;simp only[bO]at hf;obtain⟨⟨f1,f2⟩,f3⟩:=hf;have key:=k1 f3 z hz;by_cases c1:K.op=55
   ·apply zC;(repeat((conv=>lhs;whnf);simp only[go_sem,simprocAttr,h1,h2,h3,h4,bD,hK,c1,hsl,hlt]));refine (L5 _).1 f2 z ?_;apply zN;(repeat((conv=>lhs;whnf);simp only[go_sem,simprocAttr,ha,h5]));exact key
   ·have c2:K.op=56∧i=last-1:=by simpa [c1] using f1
    have c3:(i:Int)=((last-1:Nat):Int):=by omega
    apply zC;(repeat((conv=>lhs;whnf);simp only[go_sem,simprocAttr,h1,h2,h3,h4,bD,hK,c2.1,←c3,hsl,hlt]));refine (L5 _).1 f2 z ?_;apply zN;(repeat((conv=>lhs;whnf);simp only[go_sem,simprocAttr,ha,h5]));exact key
  ·intro hf;by_cases c1:K.op=55
   ·simp only[c1,decide_true,pI,bC]at hf
    cases f2:((n.kids.take i).all (vN K))
    ·obtain⟨S',k⟩:=(L5 _).2 f2;refine⟨S',ys ok78_.good 1000 ?_⟩;(repeat((conv=>lhs;whnf);simp only[go_sem,simprocAttr,h1,h2,h3,h4,bD,hK,c1,hsl,hlt]));exact k
    ·rw[f2,bC]at hf;obtain⟨S',k⟩:=k2 hf;refine⟨S',ys ok78_.good 1000 ?_⟩;(repeat((conv=>lhs;whnf);simp only[go_sem,simprocAttr,h1,h2,h3,h4,bD,hK,c1,hsl,hlt]));refine (L5 _).1 f2 _ ?_;apply zN;(repeat((conv=>lhs;whnf);simp only[go_sem,simprocAttr,ha,h5]));exact k
   ·by_cases c2:K.op=56
    ·by_cases c4:i=last-1
     ·have c3:(i:Int)=((last-1:Nat):Int):=by omega
      rw[bH c1,bG c2,bG c4]at hf;simp only[sC,sM,bC]at hf
      cases f2:((n.kids.take i).all (vN K))
      ·obtain⟨S',k⟩:=(L5 _).2 f2;refine⟨S',ys ok78_.good 1000 ?_⟩;(repeat((conv=>lhs;whnf);simp only[go_sem,simprocAttr,h1,h2,h3,h4,bD,hK,c2,←c3,hsl,hlt]));exact k
      ·rw[f2,bC]at hf;obtain⟨S',k⟩:=k2 hf;refine⟨S',ys ok78_.good 1000 ?_⟩;(repeat((conv=>lhs;whnf);simp only[go_sem,simprocAttr,h1,h2,h3,h4,bD,hK,c2,←c3,hsl,hlt]));refine (L5 _).1 f2 _ ?_;apply zN;(repeat((conv=>lhs;whnf);simp only[go_sem,simprocAttr,ha,h5]));exact k
     ·have c3 : ¬(i:Int)=((last-1:Nat):Int):=by omega
      apply Exists.intro;apply zC;((repeat((conv=>lhs;whnf);simp only[go_sem,simprocAttr,h1,h2,h3,h4,bD,hK,c2,c3]));try rfl)
    ·apply Exists.intro;apply zC;((repeat((conv=>lhs;whnf);simp only[go_sem,simprocAttr,h1,h2,h3,h4,bD,hK,c1,c2]));try rfl)
end
end
section
def ZC (n:Node):Prop:=∀k∈n.kids,∀a b c,callL Tryz.prog zE 78 [.agg k.cells,.agg (yE a b c)]=some (.bool (k.formed a b c))
theorem ud (n:Node) (hn:n.ok) (a b c:Bool) (s:List Int) (h2:n.kids.length=s.length→(n.op=8∨n.op=9)→n.kids.length=2) (ih:ZC n) (hl:n.kids.length=s.length) (T:zB) (hT:uq T) (e:Bool) (he:e=false∨s=[]) :
  ∃S',zS 0 qz 7 2036 (T.length+2) [.blk 7,.seq 0 255] [(2,.mp 0 0 0),(3,.mp 1 0 0),(6,.sl (zD .i64 s) e),(208,.sl (Node.rows n.kids) false),(209,.int .i64 n.kids.length),(210,.int .i64 0)] (f2 n a b c T)=some (.bool (Node.formeds n.kids s a b c&&xH n.op n.kids),S') :=
 zDh n hn a b c s hl.symm e he (h2 hl) (fun k hk=>ih k hk a b c) T hT n.kids.length 0 (by omega)
theorem Vf (n:Node) (a b c:Bool) (h:n.op≠10∧n.op≠37∧n.op≠54∧n.op≠3∧n.op≠12∧n.op≠39):n.rest a b c=(decide (n.kids.length=(zP n.op).length)&&(Node.formeds n.kids (zP n.op) a b c&&xH n.op n.kids)):=by
 obtain⟨h1,h2,h3,h4,h5,h6⟩:=h;have e1:yX n.op n.kids.length=zP n.op:=by simp[yX,h1,h2,h3]
 simp[Node.rest,vF,e1,h1,h2,h3,h4,h5,h6]
theorem zGH (n:Node) (a b c:Bool) (h:n.op=3):n.rest a b c=(!(a||(b||c))&&(decide (n.kids.length=(zP n.op).length)&&(Node.formeds n.kids (zP n.op) a b c&&xH n.op n.kids))):=by
 simp[Node.rest,vF,yX,h]
theorem zIl (n:Node) (a b c:Bool) (h:n.op=12):n.rest a b c=(!(a||c)&&(decide (n.kids.length=(zP n.op).length)&&(Node.formeds n.kids (zP n.op) true b c&&xH n.op n.kids))):=by
 simp[Node.rest,vF,yX,h]
theorem zGI (n:Node) (a b c:Bool) (h:n.op=39):n.rest a b c=(!c&&(decide (n.kids.length=1)&&(n.kids.getD 0 nd0).diff)&&(decide (n.kids.length=(zP n.op).length)&&(Node.formeds n.kids (zP n.op) a true c&&xH n.op n.kids))):=by
 simp[Node.rest,vF,yX,h]
theorem zDn (n:Node) (a b c:Bool) (h:n.op=10∨n.op=37):n.rest a b c=(yP n.name&&decide (n.kids.length≤1)&&(Node.formeds n.kids (List.replicate n.kids.length 1) a b c&&xH n.op n.kids)):=by
 have e3:decide (n.op=12)=false∧decide (n.op=39)=false∧decide (n.op=54)=false:=by rcases h with h | h <;> simp[h]
 have:yX n.op n.kids.length=List.replicate n.kids.length 1:=by simp[yX,h]
 simp only[Node.rest,vF,bA h,this,e3.1,e3.2.1,e3.2.2,pJ,SI,decide_true,bC]
theorem zIm (n:Node) (a b c:Bool) (h:n.op=54):n.rest a b c=(yd n.name&&(decide (2≤n.kids.length)&&WC n.kids)&&(decide (n.kids.length=(vU (n.kids.length-1)++[2]).length)&&(Node.formeds n.kids (vU (n.kids.length-1)++[2]) a b true&&xH n.op n.kids))):=by
 simp[Node.rest,vF,yX,h,vU]
section
attribute [local irreducible] Vs.callL Vs.callRL tyi zO zl zf zR zW za zI zY zA zK zb zV zG zJ zU zn yI zm zL ze Vs.gc zH
theorem zB2 (n:Node) (hn:n.ok) (a b c:Bool) (ih:ZC n) (h1 : ¬n.op=1) (hneg:n.neg=false) (hnum : ¬ 0<(n.num.length:Int)) (hden : ¬ 0<(n.den.length:Int)) (hh:yR n.op=true) (hm:yP n.name=true) (h:n.op≠10∧n.op≠37∧n.op≠54∧n.op≠3∧n.op≠12∧n.op≠39):callL Tryz.prog zE 78 [.agg n.cells,.agg (yE a b c)]=some (.bool (n.rest a b c)):=by
 rw[Vf n a b c h];obtain⟨g1,g2,g3,g4,g5,g6⟩:=h;unfold yE;by_cases hl:n.kids.length=(zP n.op).length
 ·have hq:(n.kids.length:Int)=((zP n.op).length:Int):=by omega
  obtain⟨S',k⟩:=ud n hn a b c (zP n.op) (fun hl ho=>by rw[hl];rcases ho with ho | ho <;> rw[ho] <;> rfl) ih hl [] .nil (zP n.op).isEmpty (by cases zP n.op <;> simp);rw[bG hl,bC];rw[hq]at k;have hz : ∀S,wy S (.sl (zD .i64 (zP n.op)) (zP n.op).isEmpty)=some (.sl (zD .i64 (zP n.op)) (zP n.op).isEmpty):=fun S=>by
   cases zP n.op with
   | nil=>rfl
   | cons x r=>simp only[aB,go_sem]
  apply FX.callB2 ok78_ 1000 rfl rfl;(repeat((conv=>lhs;whnf);simp only[go_sem,simprocAttr,h1,hneg,hnum,hden,yY,xR,xG,hh,hm,g1,g2,g3,g4,g5,g6,hl,hq,hz]));exact k
 ·have hq : ¬(n.kids.length:Int)=((zP n.op).length:Int):=by omega
  rw[bH hl,bB];apply FX.callB2 ok78_ 1000 rfl rfl;((repeat((conv=>lhs;whnf);simp only[go_sem,simprocAttr,h1,hneg,hnum,hden,yY,xR,xG,hh,hm,g1,g2,g3,g4,g5,g6,hl,hq]));try rfl)
theorem zDo (n:Node) (hn:n.ok) (a b c:Bool) (ih:ZC n) (h1 : ¬n.op=1) (hneg:n.neg=false) (hnum : ¬ 0<(n.num.length:Int)) (hden : ¬ 0<(n.den.length:Int)) (hh:yR n.op=false) (hm:yd n.name=true) (h:n.op≠10∧n.op≠37∧n.op≠54∧n.op≠3∧n.op≠12∧n.op≠39):callL Tryz.prog zE 78 [.agg n.cells,.agg (yE a b c)]=some (.bool (n.rest a b c)):=by
 rw[Vf n a b c h];obtain⟨g1,g2,g3,g4,g5,g6⟩:=h;unfold yE yd at *;by_cases hl:n.kids.length=(zP n.op).length
 ·have hq:(n.kids.length:Int)=((zP n.op).length:Int):=by omega
  obtain⟨S',k⟩:=ud n hn a b c (zP n.op) (fun hl ho=>by rw[hl];rcases ho with ho | ho <;> rw[ho] <;> rfl) ih hl [] .nil (zP n.op).isEmpty (by cases zP n.op <;> simp);rw[bG hl,bC];rw[hq]at k;have hz : ∀S,wy S (.sl (zD .i64 (zP n.op)) (zP n.op).isEmpty)=some (.sl (zD .i64 (zP n.op)) (zP n.op).isEmpty):=fun S=>by
   cases zP n.op with
   | nil=>rfl
   | cons x r=>simp only[aB,go_sem]
  apply FX.callB2 ok78_ 1000 rfl rfl;(repeat((conv=>lhs;whnf);simp only[go_sem,simprocAttr,h1,hneg,hnum,hden,yY,xR,xG,hh,hm,g1,g2,g3,g4,g5,g6,hl,hq,hz]));exact k
 ·have hq : ¬(n.kids.length:Int)=((zP n.op).length:Int):=by omega
  rw[bH hl,bB];apply FX.callB2 ok78_ 1000 rfl rfl;((repeat((conv=>lhs;whnf);simp only[go_sem,simprocAttr,h1,hneg,hnum,hden,yY,xR,xG,hh,hm,g1,g2,g3,g4,g5,g6,hl,hq]));try rfl)
theorem zB3 (n:Node) (hn:n.ok) (a b c:Bool) (ih:ZC n) (hneg:n.neg=false) (hnum : ¬ 0<(n.num.length:Int)) (hden : ¬ 0<(n.den.length:Int)) (hm:yP n.name=true) (h:n.op=3):callL Tryz.prog zE 78 [.agg n.cells,.agg (yE a b c)]=some (.bool (n.rest a b c)):=by
 rw[zGH n a b c h];have hh:yR 3=true:=rfl;have hk:zP 3=[]:=rfl;rw[h,hk];have k7:=fun a b c hl=>ud n hn a b c [] (fun _ ho=>by rw[h]at ho;omega) ih hl [] .nil true (.inr rfl);rw[h]at k7;unfold yE;cases a
 ·cases b
  ·cases c
   ·by_cases hl:n.kids.length=0
    ·have hq:(n.kids.length:Int)=0:=by omega
     obtain⟨S',k⟩:=k7 false false false (by rw[hl];rfl);rw[hq]at k;simp only[hl,bU,bK,pC,decide_true,bC,pJ,sO,bJ,sM];apply FX.callB2 ok78_ 1000 rfl rfl;(repeat((conv=>lhs;whnf);simp only[go_sem,simprocAttr,hneg,hnum,hden,Int.reduceEq,pN,aB,yD,xa,yY,xR,xG,h,hh,hk,hm,hl,hq]));exact k
    ·have hq : ¬(n.kids.length:Int)=0:=by omega
     have hr : ¬(n.kids.length:Int)=((0:Nat):Int):=by omega
     simp only[hl,bU,bK,pC,decide_false,bB,bQ];apply FX.callB2 ok78_ 1000 rfl rfl;((repeat((conv=>lhs;whnf);simp only[go_sem,simprocAttr,hneg,hnum,hden,Int.reduceEq,pN,aB,yD,xa,yY,xR,xG,h,hh,hk,hm,hl,hq,hr]));try rfl)
   ·apply FX.callB2 ok78_ 1000 rfl rfl;((repeat((conv=>lhs;whnf);simp only[go_sem,simprocAttr,hneg,hnum,hden,Int.reduceEq,pN,aB,yD,xa,yY,xR,xG,h,hh,hk,hm]));try rfl)
  ·apply FX.callB2 ok78_ 1000 rfl rfl;((repeat((conv=>lhs;whnf);simp only[go_sem,simprocAttr,hneg,hnum,hden,Int.reduceEq,pN,aB,yD,xa,yY,xR,xG,h,hh,hk,hm]));try rfl)
 ·apply FX.callB2 ok78_ 1000 rfl rfl;((repeat((conv=>lhs;whnf);simp only[go_sem,simprocAttr,hneg,hnum,hden,Int.reduceEq,pN,aB,yD,xa,yY,xR,xG,h,hh,hk,hm]));try rfl)
theorem zGJ (n:Node) (hn:n.ok) (a b c:Bool) (ih:ZC n) (hnat:vh n.neg n.num n.den=true) (hm:yd n.name=true) (h:n.op=1):callL Tryz.prog zE 78 [.agg n.cells,.agg (yE a b c)]=some (.bool (n.rest a b c)):=by
 rw[Vf n a b c (by omega)];have hh:yR 1=false:=rfl;have hk:zP 1=[]:=rfl;rw[h,hk];have k7:=fun a b c hl=>ud n hn a b c [] (fun _ ho=>by rw[h]at ho;omega) ih hl [] .nil true (.inr rfl);rw[h]at k7;have cn:=fun S=>Qk S n hn;rw[hnat]at cn;unfold yE yd at *;by_cases hl:n.kids.length=0
 ·have hq:(n.kids.length:Int)=0:=by omega
  obtain⟨S',k⟩:=k7 a b c (by rw[hl];rfl);rw[hq]at k;simp only[hl,bU,bK,pC,decide_true,bC,pJ,sO,bJ,sM];apply FX.callB2 ok78_ 1000 rfl rfl;(repeat((conv=>lhs;whnf);simp only[go_sem,simprocAttr,cn,Int.reduceEq,pN,aB,yD,xa,yY,xR,xG,h,hh,hk,hm,hl,hq]));exact k
 ·have hq : ¬(n.kids.length:Int)=0:=by omega
  have hr : ¬(n.kids.length:Int)=((0:Nat):Int):=by omega
  simp only[hl,bU,bK,pC,decide_false,bB,bQ];apply FX.callB2 ok78_ 1000 rfl rfl;((repeat((conv=>lhs;whnf);simp only[go_sem,simprocAttr,cn,Int.reduceEq,pN,aB,yD,xa,yY,xR,xG,h,hh,hk,hm,hl,hq,hr]));try rfl)
theorem zDp (n:Node) (hn:n.ok) (a b c:Bool) (ih:ZC n) (hneg:n.neg=false) (hnum : ¬ 0<(n.num.length:Int)) (hden : ¬ 0<(n.den.length:Int)) (hm:yd n.name=true) (h:n.op=12):callL Tryz.prog zE 78 [.agg n.cells,.agg (yE a b c)]=some (.bool (n.rest a b c)):=by
 rw[zIl n a b c h];have hh:yR 12=false:=rfl;have hk:zP 12=[1]:=rfl;rw[h,hk];have k7:=fun a b c hl=>ud n hn a b c [1] (fun _ ho=>by rw[h]at ho;omega) ih hl [] .nil false (.inl rfl);rw[h]at k7;unfold yE yd at *;cases a
 ·cases c
  ·by_cases hl:n.kids.length=1
   ·have hq:(n.kids.length:Int)=1:=by omega
    obtain⟨S',k⟩:=k7 true b false (by rw[hl];rfl);rw[hq]at k;simp only[hl,bU,bK,pC,decide_true,bC,pJ,sO,bJ,sM];apply FX.callB2 ok78_ 1000 rfl rfl;(repeat((conv=>lhs;whnf);simp only[go_sem,simprocAttr,hneg,hnum,hden,Int.reduceEq,pN,aB,yD,xa,yY,xR,xG,h,hh,hk,hm,hl,hq]));exact k
   ·have hq : ¬(n.kids.length:Int)=1:=by omega
    have hr : ¬(n.kids.length:Int)=((1:Nat):Int):=by omega
    simp only[hl,bU,bK,pC,decide_false,bB,bQ];apply FX.callB2 ok78_ 1000 rfl rfl;((repeat((conv=>lhs;whnf);simp only[go_sem,simprocAttr,hneg,hnum,hden,Int.reduceEq,pN,aB,yD,xa,yY,xR,xG,h,hh,hk,hm,hl,hq,hr]));try rfl)
  ·apply FX.callB2 ok78_ 1000 rfl rfl;((repeat((conv=>lhs;whnf);simp only[go_sem,simprocAttr,hneg,hnum,hden,Int.reduceEq,pN,aB,yD,xa,yY,xR,xG,h,hh,hk,hm]));try rfl)
 ·apply FX.callB2 ok78_ 1000 rfl rfl;((repeat((conv=>lhs;whnf);simp only[go_sem,simprocAttr,hneg,hnum,hden,Int.reduceEq,pN,aB,yD,xa,yY,xR,xG,h,hh,hk,hm]));try rfl)
theorem zB4 (n:Node) (hn:n.ok) (a b c:Bool) (ih:ZC n) (hneg:n.neg=false) (hnum : ¬ 0<(n.num.length:Int)) (hden : ¬ 0<(n.den.length:Int)) (hm:yd n.name=true) (h:n.op=39):callL Tryz.prog zE 78 [.agg n.cells,.agg (yE a b c)]=some (.bool (n.rest a b c)):=by
 rw[zGI n a b c h];have hh:yR 39=false:=rfl;have hk:zP 39=[2]:=rfl;rw[h,hk];have k7:=fun a b c hl=>ud n hn a b c [2] (fun _ ho=>by rw[h]at ho;omega) ih hl [] .nil false (.inl rfl);rw[h]at k7;unfold yE yd at *;cases c
 ·by_cases hl:n.kids.length=1
  ·have hq:(n.kids.length:Int)=1:=by omega
   have h5:=fun S=>zFu S _ (hn.kids _ (yA (l:=n.kids) (i:=0) (by omega)));obtain⟨S',k⟩:=k7 a true false (by rw[hl];rfl);rw[hq]at k;simp only[hl,bU,bK,pC,decide_true,bC,bJ]
   cases hd:(n.kids.getD 0 nd0).diff
   ·rw[hd]at h5;rw[bB];apply FX.callB2 ok78_ 1000 rfl rfl;((repeat((conv=>lhs;whnf);simp only[go_sem,simprocAttr,hneg,hnum,hden,Int.reduceEq,pN,aB,yD,xa,yY,xR,xG,h,hh,hk,hm,hl,hq,h5,sD]));try rfl)
   ·rw[hd]at h5;rw[bC];apply FX.callB2 ok78_ 1000 rfl rfl;(repeat((conv=>lhs;whnf);simp only[go_sem,simprocAttr,hneg,hnum,hden,Int.reduceEq,pN,aB,yD,xa,yY,xR,xG,h,hh,hk,hm,hl,hq,h5,sD]));exact k
  ·have hq : ¬(n.kids.length:Int)=1:=by omega
   simp only[hl,decide_false,bB,bQ];apply FX.callB2 ok78_ 1000 rfl rfl;((repeat((conv=>lhs;whnf);simp only[go_sem,simprocAttr,hneg,hnum,hden,Int.reduceEq,pN,aB,yD,xa,yY,xR,xG,h,hh,hk,hm,hl,hq]));try rfl)
 ·apply FX.callB2 ok78_ 1000 rfl rfl;((repeat((conv=>lhs;whnf);simp only[go_sem,simprocAttr,hneg,hnum,hden,Int.reduceEq,pN,aB,yD,xa,yY,xR,xG,h,hh,hk,hm]));try rfl)
end
end
section
section
attribute [local irreducible] Vs.callL Vs.callRL tyi zO zl zf zR zW za zI zY zA zK zb zV zG zJ zU zn yI zm zL ze Vs.gc zH
theorem Wv (n:Node) (hn:n.ok) (a b c:Bool) (ih:ZC n) (L:List Int) (g:Option (Option Nat)) (hL:n.kids.length=L.length) (ho:n.op≠8∧n.op≠9) : ∃S',zS 0 qz 1 16044 3 [.blk 1,.blk 0,.seq 0 63] [(2,.mp 0 0 0),(3,.mp 1 0 0),(6,.msl 2 0 L.length false),(88,.int .i64 L.length),(89,.int .i64 L.length)] [.arr [n.cells] none false,.arr [[.bool a,.bool b,.bool c]] none false,.arr (zD .i64 L) g false]=some (.bool (Node.formeds n.kids L a b c&&xH n.op n.kids),S'):=by
 have h1 : ¬(L.length:Int)<(L.length:Int):=by omega
 obtain⟨S',k⟩:=ud n hn a b c L (fun _ h=>by omega) ih hL [.arr (zD .i64 L) g true] (.cons (zk _ _) .nil) false (.inl rfl);have hz:=uJ (S:=[.arr [n.cells] none false,.arr [[.bool a,.bool b,.bool c]] none false,.arr (zD .i64 L) g false]) (id:=2) (n:=L.length) (k:=.i64) (L:=L) (ex:=false) rfl rfl;rw[hL]at k;refine⟨S',ys ok78_.good 1000 ?_⟩;(repeat((conv=>lhs;whnf);simp only[go_sem,simprocAttr,h1]));apply zN;(repeat((conv=>lhs;whnf);simp only[go_sem,simprocAttr,hL,hz]));exact k
theorem zB5 (n:Node) (hn:n.ok) (a b c:Bool) (ih:ZC n) (hneg:n.neg=false) (hnum : ¬ 0<(n.num.length:Int)) (hden : ¬ 0<(n.den.length:Int)) (hq:(n.name.toList == (⟨#[]⟩:ByteArray).toList)=true) (op:Int) (hop:op=10∨op=37) (h:n.op=op):callL Tryz.prog zE 78 [.agg n.cells,.agg (yE a b c)]=some (.bool (n.rest a b c)):=by
 rw[zDn n a b c (by rw[h];exact hop)];have ho:n.op≠8∧n.op≠9:=by omega
 have hh:yR op=false:=by rcases hop with h | h <;> rw[h] <;> rfl
 have hk:zP op=[]:=by rcases hop with h | h <;> rw[h] <;> rfl
 have g1 : ¬op=1:=by omega
 unfold yE
 cases hm:yP n.name
 ·rw[bB,bB];apply FX.callB2 ok78_ 1000 rfl rfl
  rcases hop with rfl | rfl
  ·((repeat((conv=>lhs;whnf);simp only[go_sem,simprocAttr,hq,h,hneg,hnum,hden,yY,xR,xG,hh,hk,hm,pN,yD,Int.reduceEq]));try rfl)
  ·((repeat((conv=>lhs;whnf);simp only[go_sem,simprocAttr,hq,h,hneg,hnum,hden,yY,xR,xG,hh,hk,hm,pN,yD,Int.reduceEq]));try rfl)
 by_cases hl:n.kids.length≤1
 case neg =>
  have hl1:1<(n.kids.length:Int):=by omega
  rw[bH hl,bQ,bB];apply FX.callB2 ok78_ 1000 rfl rfl
  rcases hop with rfl | rfl
  ·((repeat((conv=>lhs;whnf);simp only[go_sem,simprocAttr,hq,h,hneg,hnum,hden,yY,xR,xG,hh,hk,hm,pN,yD,Int.reduceEq,hl1]));try rfl)
  ·((repeat((conv=>lhs;whnf);simp only[go_sem,simprocAttr,hq,h,hneg,hnum,hden,yY,xR,xG,hh,hk,hm,pN,yD,Int.reduceEq,hl1]));try rfl)
 rw[bG hl,sC,bC];by_cases h0:n.kids.length=0
 ·obtain⟨S',k⟩:=Wv n hn a b c ih [] (some none) h0 ho;have h0':(n.kids.length:Int)=0:=by omega
  rw[h0];apply FX.callB2 ok78_ 1000 rfl rfl
  rcases hop with rfl | rfl
  ·((repeat((conv=>lhs;whnf);simp only[go_sem,simprocAttr,hq,h,hneg,hnum,hden,yY,xR,xG,hh,hk,hm,pN,yD,Int.reduceEq,h0',Int.reduceLT]));try rfl);rw[h]at k;exact k
  ·((repeat((conv=>lhs;whnf);simp only[go_sem,simprocAttr,hq,h,hneg,hnum,hden,yY,xR,xG,hh,hk,hm,pN,yD,Int.reduceEq,h0',Int.reduceLT]));try rfl);rw[h]at k;exact k
 ·have h1:n.kids.length=1:=by omega
  have h1':(n.kids.length:Int)=1:=by omega
  obtain⟨S',k⟩:=Wv n hn a b c ih [1] (some (some 1)) h1 ho;have ha:=Wu (S:=[.arr [n.cells] none false,.arr [[.bool a,.bool b,.bool c]] none false,.arr (zD .i64 []) (some none) false,.arr [[.int .i64 1]] (some (some 1)) false]) (j:=3) [] 1 none (.inl rfl) (by decide) true rfl rfl
   (S':=[.arr [n.cells] none false,.arr [[.bool a,.bool b,.bool c]] none false,.arr (zD .i64 [1]) (some (some 1)) false,.arr [[.int .i64 1]] (some (some 1)) false])
   (by simp only[pZ,HQ,xA (yZ _),xA (zk _ _),xA (show zT [[PV.bool a,.bool b,.bool c]]=[] from rfl),xA (show zT [[PV.int .i64 1]]=[] from rfl)];rfl)
  have L1:zS 0 qz 1 16044 3 [.blk 1,.blk 0,.seq 0 63] [(2,.mp 0 0 0),(3,.mp 1 0 0),(6,.msl 2 0 0 false),(88,.int .i64 1),(89,.int .i64 0)] [.arr [n.cells] none false,.arr [[.bool a,.bool b,.bool c]] none false,.arr [] (some none) false]=some (.bool (Node.formeds n.kids [1] a b c&&xH n.op n.kids),S'):=by
   have c1:(0:Int)<1:=by decide
   have w1:IntKind.i64.wrap (0+1)=1:=by rfl
   apply zC;simp only[yD,bU]at ha;(repeat((conv=>lhs;whnf);simp only[go_sem,simprocAttr,c1,w1,ha]));exact k
  rw[h1];apply FX.callB2 ok78_ 1000 rfl rfl
  rcases hop with rfl | rfl
  ·((repeat((conv=>lhs;whnf);simp only[go_sem,simprocAttr,hq,h,hneg,hnum,hden,yY,xR,xG,hh,hk,hm,pN,yD,Int.reduceEq,h1',Int.reduceLT]));try rfl);rw[h]at L1;exact L1
  ·((repeat((conv=>lhs;whnf);simp only[go_sem,simprocAttr,hq,h,hneg,hnum,hden,yY,xR,xG,hh,hk,hm,pN,yD,Int.reduceEq,h1',Int.reduceLT]));try rfl);rw[h]at L1;exact L1
theorem zB6 (n:Node) (hn:n.ok) (a b c:Bool) (ih:ZC n) (hneg:n.neg=false) (hnum : ¬ 0<(n.num.length:Int)) (hden : ¬ 0<(n.den.length:Int)) (hq:(n.name.toList == (⟨#[]⟩:ByteArray).toList)=false) (op:Int) (hop:op=10∨op=37) (h:n.op=op):callL Tryz.prog zE 78 [.agg n.cells,.agg (yE a b c)]=some (.bool (n.rest a b c)):=by
 rw[zDn n a b c (by rw[h];exact hop)];have ho:n.op≠8∧n.op≠9:=by omega
 have hh:yR op=false:=by rcases hop with h | h <;> rw[h] <;> rfl
 have hk:zP op=[]:=by rcases hop with h | h <;> rw[h] <;> rfl
 have g1 : ¬op=1:=by omega
 unfold yE
 cases hm:yP n.name
 ·rw[bB,bB];apply FX.callB2 ok78_ 1000 rfl rfl
  rcases hop with rfl | rfl
  ·((repeat((conv=>lhs;whnf);simp only[go_sem,simprocAttr,hq,h,hneg,hnum,hden,yY,xR,xG,hh,hk,hm,pN,yD,Int.reduceEq]));try rfl)
  ·((repeat((conv=>lhs;whnf);simp only[go_sem,simprocAttr,hq,h,hneg,hnum,hden,yY,xR,xG,hh,hk,hm,pN,yD,Int.reduceEq]));try rfl)
 by_cases hl:n.kids.length≤1
 case neg =>
  have hl1:1<(n.kids.length:Int):=by omega
  rw[bH hl,bQ,bB];apply FX.callB2 ok78_ 1000 rfl rfl
  rcases hop with rfl | rfl
  ·((repeat((conv=>lhs;whnf);simp only[go_sem,simprocAttr,hq,h,hneg,hnum,hden,yY,xR,xG,hh,hk,hm,pN,yD,Int.reduceEq,hl1]));try rfl)
  ·((repeat((conv=>lhs;whnf);simp only[go_sem,simprocAttr,hq,h,hneg,hnum,hden,yY,xR,xG,hh,hk,hm,pN,yD,Int.reduceEq,hl1]));try rfl)
 rw[bG hl,sC,bC];by_cases h0:n.kids.length=0
 ·obtain⟨S',k⟩:=Wv n hn a b c ih [] (some none) h0 ho;have h0':(n.kids.length:Int)=0:=by omega
  rw[h0];apply FX.callB2 ok78_ 1000 rfl rfl
  rcases hop with rfl | rfl
  ·((repeat((conv=>lhs;whnf);simp only[go_sem,simprocAttr,hq,h,hneg,hnum,hden,yY,xR,xG,hh,hk,hm,pN,yD,Int.reduceEq,h0',Int.reduceLT]));try rfl);rw[h]at k;exact k
  ·((repeat((conv=>lhs;whnf);simp only[go_sem,simprocAttr,hq,h,hneg,hnum,hden,yY,xR,xG,hh,hk,hm,pN,yD,Int.reduceEq,h0',Int.reduceLT]));try rfl);rw[h]at k;exact k
 ·have h1:n.kids.length=1:=by omega
  have h1':(n.kids.length:Int)=1:=by omega
  obtain⟨S',k⟩:=Wv n hn a b c ih [1] (some (some 1)) h1 ho;have ha:=Wu (S:=[.arr [n.cells] none false,.arr [[.bool a,.bool b,.bool c]] none false,.arr (zD .i64 []) (some none) false,.arr [[.int .i64 1]] (some (some 1)) false]) (j:=3) [] 1 none (.inl rfl) (by decide) true rfl rfl
   (S':=[.arr [n.cells] none false,.arr [[.bool a,.bool b,.bool c]] none false,.arr (zD .i64 [1]) (some (some 1)) false,.arr [[.int .i64 1]] (some (some 1)) false])
   (by simp only[pZ,HQ,xA (yZ _),xA (zk _ _),xA (show zT [[PV.bool a,.bool b,.bool c]]=[] from rfl),xA (show zT [[PV.int .i64 1]]=[] from rfl)];rfl)
  have L1:zS 0 qz 1 16044 3 [.blk 1,.blk 0,.seq 0 63] [(2,.mp 0 0 0),(3,.mp 1 0 0),(6,.msl 2 0 0 false),(88,.int .i64 1),(89,.int .i64 0)] [.arr [n.cells] none false,.arr [[.bool a,.bool b,.bool c]] none false,.arr [] (some none) false]=some (.bool (Node.formeds n.kids [1] a b c&&xH n.op n.kids),S'):=by
   have c1:(0:Int)<1:=by decide
   have w1:IntKind.i64.wrap (0+1)=1:=by rfl
   apply zC;simp only[yD,bU]at ha;(repeat((conv=>lhs;whnf);simp only[go_sem,simprocAttr,c1,w1,ha]));exact k
  rw[h1];apply FX.callB2 ok78_ 1000 rfl rfl
  rcases hop with rfl | rfl
  ·((repeat((conv=>lhs;whnf);simp only[go_sem,simprocAttr,hq,h,hneg,hnum,hden,yY,xR,xG,hh,hk,hm,pN,yD,Int.reduceEq,h1',Int.reduceLT]));try rfl);rw[h]at L1;exact L1
  ·((repeat((conv=>lhs;whnf);simp only[go_sem,simprocAttr,hq,h,hneg,hnum,hden,yY,xR,xG,hh,hk,hm,pN,yD,Int.reduceEq,h1',Int.reduceLT]));try rfl);rw[h]at L1;exact L1
theorem Kr (n:Node) (hn:n.ok) (a b c:Bool) (ih:ZC n) (hneg:n.neg=false) (hnum : ¬ 0<(n.num.length:Int)) (hden : ¬ 0<(n.den.length:Int)) (op:Int) (hop:op=10∨op=37) (h:n.op=op):callL Tryz.prog zE 78 [.agg n.cells,.agg (yE a b c)]=some (.bool (n.rest a b c)):=by
 cases hq:(n.name.toList == (⟨#[]⟩:ByteArray).toList)
 ·exact zB6 n hn a b c ih hneg hnum hden hq op hop h
 ·exact zB5 n hn a b c ih hneg hnum hden hq op hop h
theorem zIn (n:Node) (hn:n.ok) (hlen:n.kids.length≤100000) (a b c:Bool) (ih:ZC n) (last:Nat) (hlast:last+1=n.kids.length) (g:Option Nat) (hg:g=none∨g=some 1) (h:n.op=54) : ∃S',yB 0 qz 3 [.blk 3,.seq 0 32119,.blk 0,.seq 0 63] [(2,.mp 0 0 0),(3,.mp 1 0 0),(6,.msl 2 0 last false),(7,.undef),(8,.undef),(112,.undef)]
     [.arr [n.cells] none false,.arr [[.bool a,.bool b,.bool c]] none false,.arr (zD .i64 (vU last)) (some g) false]=some (.bool (Node.formeds n.kids (vU last++[2]) a b true&&xH n.op n.kids),S'):=by
 have hL:n.kids.length=(vU last++[2]).length:=by rw[bM,ur];simpa using hlast.symm
 have hL':(n.kids.length:Int)=((last+1:Nat):Int):=by omega
 obtain⟨S',k⟩:=ud n hn a b true (vU last++[2]) (fun _ h=>by omega) ih hL [.arr (zD .i64 (vU last++[2])) (some (some 1)) true,.arr [[.int .i64 2]] (some (some 1)) false] (.cons (zk _ _) (.cons rfl .nil)) false (.inl rfl);have ha:=Wu (S:=[.arr [n.cells] none false,.arr [[.bool a,.bool b,.bool c]] none false,.arr (zD .i64 (vU last)) (some g) false,.arr [[.int .i64 2]] (some (some 1)) false]) (j:=3) (vU last) 2 g hg (by rw[ur];omega) true rfl rfl
  (S':=[.arr [n.cells] none false,.arr [[.bool a,.bool b,.bool c]] none false,.arr (zD .i64 (vU last++[2])) (some (some 1)) false,.arr [[.int .i64 2]] (some (some 1)) false])
  (by simp only[pZ,HQ,xA (yZ _),xA (zk _ _),xA (show zT [[PV.bool a,.bool b,.bool c]]=[] from rfl),xA (show zT [[PV.int .i64 2]]=[] from rfl)];rfl)
 rw[ur]at ha;have hz:=uJ (S:=[.arr [n.cells] none false,.arr [[.bool a,.bool b,.bool true]] none false,.arr (zD .i64 (vU last++[2])) (some (some 1)) false,.arr [[.int .i64 2]] (some (some 1)) false]) (id:=2) (n:=last+1) (k:=.i64) (L:=vU last++[2]) (ex:=false) rfl (by rw[←hL];exact hlast.symm);rw[hL']at k;refine⟨S',zCe ok78_.good 1000 ?_⟩;(repeat((conv=>lhs;whnf);simp only[go_sem,simprocAttr,ha,hL',hz]));exact k
theorem zGK (n:Node) (hn:n.ok) (hlen:n.kids.length≤100000) (a b c:Bool) (ih:ZC n) (hneg:n.neg=false) (hnum : ¬ 0<(n.num.length:Int)) (hden : ¬ 0<(n.den.length:Int)) (hm:yd n.name=true) (h:n.op=54):callL Tryz.prog zE 78 [.agg n.cells,.agg (yE a b c)]=some (.bool (n.rest a b c)):=by
 rw[zIm n a b c h,hm,bC];have hh:yR 54=false:=rfl;have hk:zP 54=[]:=rfl;have hM:=xV;have hnl:=hn.len;unfold yE yd at *;by_cases hl:2≤n.kids.length
 case neg =>
  have hl':(n.kids.length:Int)<2:=by omega
  rw[bH hl,bB,bB];apply FX.callB2 ok78_ 1000 rfl rfl;((repeat((conv=>lhs;whnf);simp only[go_sem,simprocAttr,h,hneg,hnum,hden,yY,xR,hh,hk,hm,pN,yD,Int.reduceEq,hl']));try rfl)
 ·have hl' : ¬(n.kids.length:Int)<2:=by omega
  obtain⟨last,hlast⟩ : ∃last,last+1=n.kids.length:=⟨n.kids.length-1,by omega⟩;have hlast':n.kids.length-1=last:=by omega
  have hw:IntKind.i64.wrap ((n.kids.length:Int)-1)=(last:Int):=by rw[bE];omega
  have hd:n.kids.length=(vU last++[2]).length:=by rw[bM,ur];simpa using hlast.symm
  obtain⟨g,hg,k1,k2⟩:=zB1 n hn hlen a b c last hlast last 0 (by omega) none (.inl rfl);unfold WC;rw[hlast',bG hl,bG hd,bC,bC]
  cases f:uc n.kids last last 0
  ·obtain⟨S',k⟩:=k2 f;rw[bB];apply FX.callB2 ok78_ 1000 rfl rfl;(repeat((conv=>lhs;whnf);simp only[go_sem,simprocAttr,h,hneg,hnum,hden,yY,xR,hh,hk,hm,pN,yD,Int.reduceEq,hl',hw]));exact k
  ·obtain⟨S',k⟩:=zIn n hn hlen a b c ih last hlast g hg h;have k':=k1 f _ k;rw[bC];apply FX.callB2 ok78_ 1000 rfl rfl;((repeat((conv=>lhs;whnf);simp only[go_sem,simprocAttr,h,hneg,hnum,hden,yY,xR,hh,hk,hm,pN,yD,Int.reduceEq,hl',hw]));try rfl);rw[h]at k';exact k'
theorem zDq : ∀n:Node,n.ok→n.count≤100000→∀a b c,callL Tryz.prog zE 78 [.agg n.cells,.agg (yE a b c)]=some (.bool (n.formed a b c)):=by
 refine Node.ind' fun n ih0 hn hc a b c=>?_;have hck:=Kh n;have ih:ZC n:=fun k hk=>ih0 k hk (hn.kids k hk) (by have:=Qj _ k hk;omega);have hlen:n.kids.length≤100000:=by have:=Kg n.kids;omega
 rw[zDf]
 cases hH:jD n.op n.name n.neg n.num n.den
 ·rw[bB];unfold jD at hH;by_cases h1:n.op=1
  ·have cn:=fun S=>Qk S n hn;rw[bA h1]at hH
   cases hnat:vh n.neg n.num n.den
   ·rw[hnat]at cn;unfold yE;apply FX.callB2 ok78_ 1000 rfl rfl;((repeat((conv=>lhs;whnf);simp only[go_sem,simprocAttr,h1,cn]));try rfl)
   ·rw[hnat]at cn hH;have hh:yR 1=false:=rfl
    cases hm:yd n.name
    ·unfold yE yd at *;apply FX.callB2 ok78_ 1000 rfl rfl;((repeat((conv=>lhs;whnf);simp only[go_sem,simprocAttr,h1,cn,yY,hh,hm,Int.reduceEq]));try rfl)
    ·simp[h1,hh,hm]at hH
  ·rw[hZ h1]at hH
   cases hneg:n.neg
   ·by_cases hnum:n.num.length=0
    ·have hnum' : ¬ 0<(n.num.length:Int):=by omega
     by_cases hden:n.den.length=0
     ·have hden' : ¬ 0<(n.den.length:Int):=by omega
      cases hh:yR n.op
      ·cases hm:yd n.name
       ·by_cases h10:n.op=10
        ·rw[h10]at hH hh;simp[hneg,hnum,hden,hh,hm]at hH
        by_cases h37:n.op=37
        ·rw[h37]at hH hh;simp[hneg,hnum,hden,hh,hm]at hH
        unfold yE yd at *;apply FX.callB2 ok78_ 1000 rfl rfl;((repeat((conv=>lhs;whnf);simp only[go_sem,simprocAttr,h1,hneg,hnum',hden',yY,hh,hm,h10,h37]));try rfl)
       ·simp[hneg,hnum,hden,hh,hm]at hH
      ·cases hm:yP n.name
       ·unfold yE;apply FX.callB2 ok78_ 1000 rfl rfl;((repeat((conv=>lhs;whnf);simp only[go_sem,simprocAttr,h1,hneg,hnum',hden',yY,hh,xG,hm]));try rfl)
       ·simp[hneg,hnum,hden,hh,hm]at hH
     ·have hden':0<(n.den.length:Int):=by omega
      unfold yE;apply FX.callB2 ok78_ 1000 rfl rfl;((repeat((conv=>lhs;whnf);simp only[go_sem,simprocAttr,h1,hneg,hnum',hden']));try rfl)
    ·have hnum':0<(n.num.length:Int):=by omega
     unfold yE;apply FX.callB2 ok78_ 1000 rfl rfl;((repeat((conv=>lhs;whnf);simp only[go_sem,simprocAttr,h1,hneg,hnum']));try rfl)
   ·unfold yE;apply FX.callB2 ok78_ 1000 rfl rfl;((repeat((conv=>lhs;whnf);simp only[go_sem,simprocAttr,h1,hneg]));try rfl)
 ·rw[bC];unfold jD at hH;by_cases h1:n.op=1
  ·have hh:yR 1=false:=rfl;rw[bA h1]at hH;have hnat:vh n.neg n.num n.den=true:=by
    cases e:vh n.neg n.num n.den
    ·rw[e]at hH;simp at hH
    ·rfl
   have hm:yd n.name=true:=by
    cases e:yd n.name
    ·simp[h1,hh,e]at hH
    ·rfl
   exact zGJ n hn a b c ih hnat hm h1
  ·rw[hZ h1]at hH;simp only[bO,HZ,pA]at hH;obtain⟨⟨hneg,hnum0,hden0⟩,hnm⟩:=hH;have hnum : ¬ 0<(n.num.length:Int):=by omega
   have hden : ¬ 0<(n.den.length:Int):=by omega
   by_cases h10:n.op=10
   ·exact Kr n hn a b c ih hneg hnum hden 10 (.inl rfl) h10
   by_cases h37:n.op=37
   ·exact Kr n hn a b c ih hneg hnum hden 37 (.inr rfl) h37
   have nn:yR n.op=false→yd n.name=true:=fun hh=>by
    cases e:yd n.name
    ·simp[hh,e,h10,h37]at hnm
    ·rfl
   have nm:yR n.op=true→yP n.name=true:=fun hh=>by
    cases e:yP n.name
    ·simp[hh,e]at hnm
    ·rfl
   by_cases h54:n.op=54
   ·exact zGK n hn hlen a b c ih hneg hnum hden (nn (by rw[h54];rfl)) h54
   by_cases h3:n.op=3
   ·exact zB3 n hn a b c ih hneg hnum hden (nm (by rw[h3];rfl)) h3
   by_cases h12:n.op=12
   ·exact zDp n hn a b c ih hneg hnum hden (nn (by rw[h12];rfl)) h12
   by_cases h39:n.op=39
   ·exact zB4 n hn a b c ih hneg hnum hden (nn (by rw[h39];rfl)) h39
   cases hh:yR n.op
   ·exact zDo n hn a b c ih h1 hneg hnum hden hh (nn hh) ⟨h10,h37,h54,h3,h12,h39⟩
   ·exact zB2 n hn a b c ih h1 hneg hnum hden hh (nm hh) ⟨h10,h37,h54,h3,h12,h39⟩
end
end
section
def Ze (n:Node):Prop:=∀k∈n.kids,∀s t f,callL Tryz.prog zE 87 [.agg k.cells,.int .i64 s,.bool t,.bool f]=some (.bool (k.well s t f))
theorem Ww {k:Node} {s:Int} {t f v:Bool} (S:zB) (h:callL Tryz.prog zE 87 [.agg k.cells,.int .i64 s,.bool t,.bool f]=some (.bool v)):zO (callL Tryz.prog zE) S 87 [.agg k.cells,.int .i64 s,.bool t,.bool f]=some {v:=.bool v} := zF h (by simp[Node.plain,zh.int,zh.bool])
section
attribute [local irreducible] Vs.callL Vs.callRL tyi zO zl zf zR zW za zI zY zA zK zb zV zG zJ zU zn yI zm zL ze Vs.gc zH
noncomputable def Ks:FX:=⟨Tryz.f131,zE.of 131,[]⟩
instance ok131_:Ks.ok 131:=FX.mk'
theorem zGL (n:Node) (hn:n.ok) (t f:Bool) (i:Nat) (hi:i<n.kids.length) (fs:List Fr) : ∀(m j:Nat),j+m=i →
  ((((n.kids.take i).drop j).all (vN (n.kids.getD i nd0)))=true→∀z,yB 0 Ks 2 fs [(1,.bool t),(2,.bool f),(3,.mp 0 0 0),(7,.int .i64 n.kids.length),(8,.int .i64 i),(9,.undef),(10,.undef),(71,.undef)] [.arr [n.cells] none false,.arr [(n.kids.getD i nd0).cells] none false]=some z →
   zS 0 Ks 2 62620 2 fs [(1,.bool t),(2,.bool f),(3,.mp 0 0 0),(7,.int .i64 n.kids.length),(8,.int .i64 i),(9,.mp 1 0 0),(10,.int .i64 j)] [.arr [n.cells] none false,.arr [(n.kids.getD i nd0).cells] none false]=some z) ∧
  ((((n.kids.take i).drop j).all (vN (n.kids.getD i nd0)))=false→∃S',
   zS 0 Ks 2 62620 2 fs [(1,.bool t),(2,.bool f),(3,.mp 0 0 0),(7,.int .i64 n.kids.length),(8,.int .i64 i),(9,.mp 1 0 0),(10,.int .i64 j)] [.arr [n.cells] none false,.arr [(n.kids.getD i nd0).cells] none false]=some (.bool false,S')):=by
 intro m
 induction m with
 | zero =>
  intro j hj;have h1 : ¬(j:Int)<(i:Int):=by omega
  have e0:((n.kids.take i).drop j)=[]:=bT (by simp;omega);rw[e0];refine⟨fun _ z hz=>?_,fun h=>by simp at h⟩;apply zC;(repeat((conv=>lhs;whnf);simp only[go_sem,simprocAttr,h1]));exact hz
 | succ m hm =>
  intro j hj;have h1:(j:Int)<(i:Int):=by omega
  have h2:=zg (i:=j) (n:=n.kids.length) (by omega) hn.len;have h3:0≤(j:Int)∧(j:Int)<(n.kids.length:Int):=⟨by omega,by omega⟩;obtain⟨k1,k2⟩:=hm (j+1) (by omega);rw[Yl (l:=n.kids) (i:=i) (j:=j) (by omega) (by omega),HP];generalize hK:n.kids.getD i nd0=K at *;unfold vN at *;by_cases hop:K.op=55
  ·cases hnm:(n.kids.getD j nd0).name.toList == K.name.toList
   ·simp only[hop,hnm,decide_true,bC,bJ]at k1 k2 ⊢;refine⟨fun ha z hz=>?_,fun ha=>?_⟩
    ·apply zC;(repeat((conv=>lhs;whnf);simp only[go_sem,simprocAttr,h1,h2,h3,bD,hop,hnm]));exact k1 ha z hz
    ·obtain⟨S',k⟩:=k2 ha;refine⟨S',ys ok131_.good 1000 ?_⟩;(repeat((conv=>lhs;whnf);simp only[go_sem,simprocAttr,h1,h2,h3,bD,hop,hnm]));exact k
   ·refine⟨fun ha=>by simp[hop,hnm]at ha,fun _=>?_⟩;apply Exists.intro;apply zC;((repeat((conv=>lhs;whnf);simp only[go_sem,simprocAttr,h1,h2,h3,bD,hop,hnm]));try rfl)
  ·simp only[hop,decide_false,bB,bJ,bC]at k1 k2 ⊢;refine⟨fun ha z hz=>?_,fun ha=>?_⟩
   ·apply zC;(repeat((conv=>lhs;whnf);simp only[go_sem,simprocAttr,h1,h2,h3,bD,hop]));exact k1 ha z hz
   ·obtain⟨S',k⟩:=k2 ha;refine⟨S',ys ok131_.good 1000 ?_⟩;(repeat((conv=>lhs;whnf);simp only[go_sem,simprocAttr,h1,h2,h3,bD,hop]));exact k
theorem zIo (n:Node) (hn:n.ok) (t f:Bool) (ih:Ze n) (last:Nat) (hlast:last+1=n.kids.length) : ∀(m i:Nat),i+m=last →
  ∃S',zS 0 Ks 0 244 1 [.blk 0,.seq 0 31] [(1,.bool t),(2,.bool f),(3,.mp 0 0 0),(7,.int .i64 n.kids.length),(8,.int .i64 i)] [.arr [n.cells] none false]=some (.bool (jE n.kids last t f m i),S'):=by
 have hM:=xV;have hnl:=hn.len;have w1:IntKind.i64.wrap ((n.kids.length:Int)-1)=(last:Int):=by rw[bE];omega
 have w2:IntKind.i64.wrap ((n.kids.length:Int)-2)=(last:Int)-1:=by rw[bE];omega
 intro m
 induction m with
 | zero =>
  intro i hi;obtain rfl:i=last:=by omega
  have h1 : ¬(i:Int)<(i:Int):=by omega
  apply Exists.intro;apply zC;unfold jE;(repeat((conv=>lhs;whnf);simp only[go_sem,simprocAttr,w1,h1]));apply zN;((repeat((conv=>lhs;whnf);simp only[go_sem,simprocAttr]));try rfl)
 | succ m hm =>
  intro i hi;have h1:(i:Int)<(last:Int):=by omega
  have h3:0≤(i:Int)∧(i:Int)<(n.kids.length:Int):=⟨by omega,by omega⟩;have h5:=zg (i:=i) (n:=n.kids.length) (by omega) hn.len;have h6:=fun S=>Ww S (ih _ (yA (l:=n.kids) (i:=i) (by omega)) 4 t f);have L2:=fun fs=>zGL n hn t f i (by omega) fs i 0 (by omega);simp only[bX]at L2;obtain⟨Sn,key⟩:=hm (i+1) (by omega);have e0:jE n.kids last t f (m+1) i=(((decide ((n.kids.getD i nd0).op=55)||(decide ((n.kids.getD i nd0).op=56)&&decide (i=last-1)))&&(n.kids.getD i nd0).well 4 t f)&&((n.kids.take i).all (vN (n.kids.getD i nd0))&&jE n.kids last t f m (i+1))):=rfl;rw[e0];generalize hK:n.kids.getD i nd0=K at *;by_cases c2:K.op=56
  ·have c1 : ¬K.op=55:=by omega
   by_cases c3:(i:Int)<(last:Int)-1
   ·have c3' : ¬i=last-1:=by omega
    rw[bH c1,bH c3',bQ,sO,bB,bB];apply Exists.intro;apply zC;((repeat((conv=>lhs;whnf);simp only[go_sem,simprocAttr,h1,h3,w1,w2,bD,hK,c2,c3]));try rfl)
   ·have c3':i=last-1:=by omega
    rw[bH c1,bG c2,bG c3',sC,sM,bC]
    cases hw:K.well 4 t f
    ·rw[hw]at h6;rw[bB];apply Exists.intro;apply zC;((repeat((conv=>lhs;whnf);simp only[go_sem,simprocAttr,h1,h3,w1,w2,bD,hK,c2,c3,h6]));try rfl)
    ·rw[hw]at h6;rw[bC]
     cases f2:((n.kids.take i).all (vN K))
     ·obtain⟨S',k⟩:=(L2 _).2 f2;refine⟨S',ys ok131_.good 1000 ?_⟩;rw[bB];(repeat((conv=>lhs;whnf);simp only[go_sem,simprocAttr,h1,h3,w1,w2,bD,hK,c2,c3,h6]));exact k
     ·rw[bC];refine⟨Sn,ys ok131_.good 1000 ?_⟩;(repeat((conv=>lhs;whnf);simp only[go_sem,simprocAttr,h1,h3,w1,w2,bD,hK,c2,c3,h6]));refine (L2 _).1 f2 _ ?_;apply zN;(repeat((conv=>lhs;whnf);simp only[go_sem,simprocAttr,h5]));exact key
  ·by_cases c1:K.op=55
   ·rw[bG c1,pI,bC]
    cases hw:K.well 4 t f
    ·rw[hw]at h6;rw[bB];apply Exists.intro;apply zC;((repeat((conv=>lhs;whnf);simp only[go_sem,simprocAttr,h1,h3,w1,w2,bD,hK,c1,h6]));try rfl)
    ·rw[hw]at h6;rw[bC]
     cases f2:((n.kids.take i).all (vN K))
     ·obtain⟨S',k⟩:=(L2 _).2 f2;refine⟨S',ys ok131_.good 1000 ?_⟩;rw[bB];(repeat((conv=>lhs;whnf);simp only[go_sem,simprocAttr,h1,h3,w1,w2,bD,hK,c1,h6]));exact k
     ·rw[bC];refine⟨Sn,ys ok131_.good 1000 ?_⟩;(repeat((conv=>lhs;whnf);simp only[go_sem,simprocAttr,h1,h3,w1,w2,bD,hK,c1,h6]));refine (L2 _).1 f2 _ ?_;apply zN;(repeat((conv=>lhs;whnf);simp only[go_sem,simprocAttr,h5]));exact key
   ·rw[bH c1,bH c2,bB,sO,bB,bB];apply Exists.intro;apply zC;((repeat((conv=>lhs;whnf);simp only[go_sem,simprocAttr,h1,h3,w1,w2,bD,hK,c1,c2]));try rfl)
theorem zGM (n:Node) (hn:n.ok) (t f:Bool) (ih:Ze n):callL Tryz.prog zE 131 [.agg n.cells,.bool t,.bool f]=some (.bool (jn n t f)):=by
 have hM:=xV;have hnl:=hn.len;have hp:=fun S=>zId S n hn;by_cases hl:2≤n.kids.length
 ·have hl' : ¬(n.kids.length:Int)<2:=by omega
  obtain⟨last,hlast⟩ : ∃last,last+1=n.kids.length:=⟨n.kids.length-1,by omega⟩;have hlast':n.kids.length-1=last:=by omega
  have w1:IntKind.i64.wrap ((n.kids.length:Int)-1)=(last:Int):=by rw[bE];omega
  have hx:0≤(last:Int)∧(last:Int)<(n.kids.length:Int):=by omega
  have hwl:=fun S=>Ww S (ih _ (yA (l:=n.kids) (i:=last) (by omega)) 2 t f);have e:jn n t f=(!n.primed&&((n.kids.getD last nd0).well 2 t f&&jE n.kids last t f last 0)):=by
   have h:=zFo n.kids last hlast t f last 0 (by omega);simp only[bX]at h;simp only[jn,hl,decide_true,bC,hlast',WC,h]
  rw[e]
  cases hpr:n.primed
  ·rw[hpr]at hp;rw[bJ,bC]
   cases hwv:(n.kids.getD last nd0).well 2 t f
   ·rw[hwv]at hwl;rw[bB];apply FX.callB2 ok131_ 1000 rfl rfl;((repeat((conv=>lhs;whnf);simp only[go_sem,simprocAttr,hl',hp,w1,hx,bD,hwl]));try rfl)
   ·rw[hwv]at hwl;rw[bC];obtain⟨S',k⟩:=zIo n hn t f ih last hlast last 0 (by omega);apply FX.callB2 ok131_ 1000 rfl rfl;(repeat((conv=>lhs;whnf);simp only[go_sem,simprocAttr,hl',hp,w1,hx,bD,hwl]));exact k
  ·rw[hpr]at hp;rw[bS,bB];apply FX.callB2 ok131_ 1000 rfl rfl;((repeat((conv=>lhs;whnf);simp only[go_sem,simprocAttr,hl',hp]));try rfl)
 ·have hl':(n.kids.length:Int)<2:=by omega
  have e:jn n t f=false:=by simp only[jn,hl,decide_false,bB]
  rw[e];apply FX.callB2 ok131_ 1000 rfl rfl;((repeat((conv=>lhs;whnf);simp only[go_sem,simprocAttr,hl']));try rfl)
end
end
section
theorem uK (S:zB) (k:IntKind) (n:Int):zL Tryz.prog 5 3 S (.int k n)=some (.int .i64 (IntKind.i64.wrap n)):=by
 simp[zL,show (tyi Tryz.prog 5).known=true by kernel_rfl,xL,show (tyi Tryz.prog 3).d=.int .i64 by kernel_rfl]
section
attribute [local irreducible] Vs.callL Vs.callRL tyi zO zl zf zR zW za zI zY zA zK zb zV zG zJ zU zn yI zm zL ze Vs.gc zH
noncomputable def zH1:FX:=⟨Tryz.f87,zE.of 87,[]⟩
instance ok87_:zH1.ok 87:=FX.mk'
theorem zIp (n:Node) (hn:n.ok) (h2:n.op=8∨n.op=9→n.kids.length=2) (h3:n.op=39→n.kids.length=1) :
  ∃S',yB 0 zH1 0 [.blk 0,.seq 0 1023] [(2,.undef),(3,.undef),(4,.mp 0 0 0),(9,.undef),(10,.undef),(108,.undef)] [.arr [n.cells] none false]=some (.bool (xK n.op n.kids),S'):=by
 unfold xK;by_cases h8:n.op=8
 ·have h1:(n.kids.length:Int)=2:=by have:=h2 (.inl h8);omega
  rw[bA h8];generalize hk:n.kids.getD 1 nd0=k;apply Exists.intro;apply zN;by_cases e1:k.op=1
  ·by_cases e2:0<k.num.length
   ·have e2':0<(k.num.length:Int):=by omega
    rw[bG e1,bG e2,sC];((repeat((conv=>lhs;whnf);simp only[go_sem,simprocAttr,h8,h1,hk,e1,e2']));try rfl)
   ·have e2' : ¬ 0<(k.num.length:Int):=by omega
    rw[bG e1,bH e2,bQ];((repeat((conv=>lhs;whnf);simp only[go_sem,simprocAttr,h8,h1,hk,e1,e2']));try rfl)
  ·rw[bH e1,bB];((repeat((conv=>lhs;whnf);simp only[go_sem,simprocAttr,h8,h1,hk,e1]));try rfl)
 by_cases h9:n.op=9
 ·have h1:(n.kids.length:Int)=2:=by have:=h2 (.inr h9);omega
  have hko:=hn.kids _ (yA (l:=n.kids) (i:=1) (by have:=h2 (.inr h9);omega));rw[hZ h8,bA h9];generalize hk:n.kids.getD 1 nd0=k at *;have hc:=fun S=>Kj S k hko 20;apply Exists.intro;apply zN;by_cases e1:k.op=1
  ·rw[bG e1,bC];by_cases e2:0≤vS k.num 20
   ·rw[bG e2];((repeat((conv=>lhs;whnf);simp only[go_sem,simprocAttr,h8,h9,h1,hk,e1,hc,e2]));try rfl)
   ·rw[bH e2];((repeat((conv=>lhs;whnf);simp only[go_sem,simprocAttr,h8,h9,h1,hk,e1,hc,e2]));try rfl)
  ·rw[bH e1,bB];((repeat((conv=>lhs;whnf);simp only[go_sem,simprocAttr,h8,h9,h1,hk,e1]));try rfl)
 by_cases h39:n.op=39
 ·have h1:(n.kids.length:Int)=1:=by have:=h3 h39;omega
  have hc:=fun S=>zMr S _ (hn.kids _ (yA (l:=n.kids) (i:=0) (by omega)));rw[hZ h8,hZ h9,bA h39];apply Exists.intro;apply zN;((repeat((conv=>lhs;whnf);simp only[go_sem,simprocAttr,h8,h9,h39,h1,hc,sD]));try rfl)
 ·rw[hZ h8,hZ h9,hZ h39];apply Exists.intro;apply zN;((repeat((conv=>lhs;whnf);simp only[go_sem,simprocAttr,h8,h9,h39]));try rfl)
theorem zIq (n:Node) (hn:n.ok) (t f:Bool) (s:List Int) (hs:s.length=n.kids.length) (hd : ∀d∈s,0≤d∧d≤100) (ih:Ze n) (h2:n.op=8∨n.op=9→n.kids.length=2) (h3:n.op=39→n.kids.length=1) :
  ∀(m i:Nat),i+m=n.kids.length→∃S',zS 0 zH1 0 8180 1 [.blk 0,.seq 0 1023] [(2,.bool t),(3,.bool f),(4,.mp 0 0 0),(9,.str (uB s)),(10,.int .i64 i)] [.arr [n.cells] none false] =
   some (.bool (Node.wells (n.kids.drop i) (s.drop i) (t||decide (n.op=12)) (f||decide (n.op=39))&&xK n.op n.kids),S'):=by
 have hsz:=yJ s;intro m
 induction m with
 | zero =>
  intro i hi;have h1 : ¬(i:Int)<(s.length:Int):=by omega
  obtain⟨S',k⟩:=zIp n hn h2 h3;rw[bT (l:=n.kids) (by omega)];refine⟨S',ys ok87_.good 1000 ?_⟩;unfold Node.wells;rw[bC];(repeat((conv=>lhs;whnf);simp only[go_sem,simprocAttr,hsz,h1]));exact k
 | succ m hm =>
  intro i hi;have h1:(i:Int)<(s.length:Int):=by omega
  have h1':(i:Int)<(n.kids.length:Int):=by omega
  have h4:(0:Int)≤(i:Int):=by omega
  have h5:=zg (i:=i) (n:=n.kids.length) (by omega) hn.len;have hsi:s.getD i 0∈s:=by
   have:i<s.length:=by omega
   simp[bL,this]
  have hdi:=hd _ hsi;have hb:=zIb (l:=s) (i:=i) (by omega) hdi;have hw1:IntKind.u8.wrap (48+s.getD i 0-48)=s.getD i 0:=by rw[SB];omega
  have hw2:IntKind.i64.wrap (s.getD i 0)=s.getD i 0:=by rw[bE];omega
  obtain⟨S',h6⟩:=hm (i+1) (by omega);have e:Node.wells (n.kids.drop i) (s.drop i) (t||decide (n.op=12)) (f||decide (n.op=39))=((n.kids.getD i nd0).well (s.getD i 0) (t||decide (n.op=12)) (f||decide (n.op=39))&&Node.wells (n.kids.drop (i+1)) (s.drop (i+1)) (t||decide (n.op=12)) (f||decide (n.op=39))):=by
   rw[xM (l:=n.kids) (by omega)];simp only[Node.wells,PF];have:(s.drop i).getD 0 0=s.getD i 0:=by simp[bL]
   rw[this]
  rw[e];have hc:=fun S=>Ww S (ih _ (yA (l:=n.kids) (i:=i) (by omega)) (s.getD i 0) (t||decide (n.op=12)) (f||decide (n.op=39)))
  cases hv:(n.kids.getD i nd0).well (s.getD i 0) (t||decide (n.op=12)) (f||decide (n.op=39))
  ·rw[hv]at hc;rw[bB,bB];clear hv e h6;by_cases h12:n.op=12
   ·have h39 : ¬n.op=39:=by omega
    simp only[h12,decide_true,sM,Int.reduceEq,decide_false,pJ]at hc
    cases t <;> cases f <;> (apply Exists.intro;apply zC;((repeat((conv=>lhs;whnf);simp only[go_sem,simprocAttr,hsz,h1,h1',h4,h5,bD,hb,hw1,hw2,uK,h12,hc,Int.reduceEq]));try rfl))
   ·by_cases h39:n.op=39
    ·simp only[h39,decide_true,sM,Int.reduceEq,decide_false,pJ]at hc
     cases t <;> cases f <;> (apply Exists.intro;apply zC;((repeat((conv=>lhs;whnf);simp only[go_sem,simprocAttr,hsz,h1,h1',h4,h5,bD,hb,hw1,hw2,uK,h39,hc,Int.reduceEq]));try rfl))
    ·simp only[h12,h39,decide_false,pJ]at hc
     cases t <;> cases f <;> (apply Exists.intro;apply zC;((repeat((conv=>lhs;whnf);simp only[go_sem,simprocAttr,hsz,h1,h1',h4,h5,bD,hb,hw1,hw2,uK,h12,h39,hc]));try rfl))
  ·rw[hv]at hc;rw[bC];refine⟨S',ys ok87_.good 1000 ?_⟩;clear hv e;by_cases h12:n.op=12
   ·have h39 : ¬n.op=39:=by omega
    simp only[h12,decide_true,sM,Int.reduceEq,decide_false,pJ]at hc
    cases t <;> cases f <;> (((repeat((conv=>lhs;whnf);simp only[go_sem,simprocAttr,hsz,h1,h1',h4,h5,bD,hb,hw1,hw2,uK,h12,hc,Int.reduceEq]));try rfl);rw[h12]at h6;exact h6)
   ·by_cases h39:n.op=39
    ·simp only[h39,decide_true,sM,Int.reduceEq,decide_false,pJ]at hc
     cases t <;> cases f <;> (((repeat((conv=>lhs;whnf);simp only[go_sem,simprocAttr,hsz,h1,h1',h4,h5,bD,hb,hw1,hw2,uK,h39,hc,Int.reduceEq]));try rfl);rw[h39]at h6;exact h6)
    ·simp only[h12,h39,decide_false,pJ]at hc
     cases t <;> cases f <;> (((repeat((conv=>lhs;whnf);simp only[go_sem,simprocAttr,hsz,h1,h1',h4,h5,bD,hb,hw1,hw2,uK,h12,h39,hc]));try rfl);simpa only[h12,h39,decide_false,pJ] using h6)
end
end
end Go.Vs
